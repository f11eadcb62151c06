/- The kinds of values of which laws speak: read, own. Stores, blobs, keys. What the walks of the exact laws need: groups of blocks pulled to the front and put back, sizes. Printed in part. IsPartOf, GetBlob, MinusStores, DropBlob: what the program and the reference answer. DropBlob, MinusStores: what the program and the reference answer. IsPartOf: what the program and the reference answer. Printed in part by a program of this claim's author. -/
import Derived.Test.YtkifkdkjljcclaaGreatPkLPR21
namespace Go.Proofs.YtkifkdkjljcclaaGreat
open Go.Sx Go.RowKit

theorem c_toKey {a : List Int} (ha : a.length = 32) (w : World) : Ret Tryz.prog n_laws_toKey [.agg (u8s a).toArray] w [.agg] (fun cs _ => cs = (u8s a).toArray) := laws_toKey_calls _ (by
  unfold laws_toKey
  refine r_new (At.refl w) fun b1 w1 h => ?_
  refine r_new h fun b2 w2 h => ?_
  refine r_new h fun b3 w3 h => ?_
  obtain ⟨B, hB⟩ : ∃ B, B = List.replicate 32 (Value.int .u8 0) := ⟨_, rfl⟩
  have hB8 : B.length = 32 := by rw [hB, List.length_replicate]
  have hBA : B.toArray = Array.replicate 32 (Value.int .u8 0) := by rw [hB]; rfl
  have hlen : (u8s a).length = B.length := by rw [u8s_len, ha, hB8]
  refine r_loop (σ := Int) (fun i w' => ∃ j : Nat, i = j ∧ j ≤ 32 ∧ At w w' [(b3, mix (u8s a) B j, ty_impl_Key), (b2, Array.replicate 32 (.int .u8 0), ty_impl_Key), (b1, (u8s a).toArray, ty_arr32_uint8)]) (fun i _ => (32 - i).toNat) 0 rfl
    ⟨0, rfl, by omega, by rw [mix_zero, hBA]; exact h⟩ ?_
  rintro i w8 ⟨j, rfl, hj, h⟩
  refine r_any fun _ => ?_
  refine r_if ((j : Int) < 32) rfl (fun hlt => ?_) (fun hge => ?_)
  · refine r_ix ⟨b1, 0, none⟩ rfl (by omega) (by omega) ?_
    refine r_ld h 2 rfl (add_lit _ _ _) (a.getD j 0) (by simp [Sh.emb]) (by simp only [Int.toNat_natCast, Nat.zero_add, Nat.mul_one]; exact u8s_arr (by omega)) ?_
    refine r_ix ⟨b3, 0, none⟩ rfl (by omega) (by omega) ?_
    refine r_st h 0 rfl (add_lit _ _ _) (by rw [mix_size hlen (by simp; omega)]; simp only [Int.toNat_natCast, u8s_len]; omega) rfl fun w9 h => ?_
    refine ⟨((j + 1 : Nat) : Int), by rw [w64 (by omega) (by omega)]; rfl, ⟨j + 1, rfl, by omega, ?_⟩, by omega⟩
    have hset := mix_set (A := u8s a) (B := B) hlen (k := j) (v := .int .u8 (a.getD j 0)) (u8s_get (by omega))
    rw [← hset]
    simp only [Int.toNat_natCast, Nat.zero_add, Nat.mul_one, List.set_cons_zero] at h
    exact h
  · have : j = 32 := by omega
    subst this
    have e8 : mix (u8s a) B 32 = (u8s a).toArray := by
      have := mix_all (A := u8s a) (B := B) (by omega)
      rwa [u8s_len, ha] at this
    rw [e8] at h
    refine r_ldA h 0 rfl rfl (by simp [ha]) ?_
    refine r_stA h 1 rfl rfl (by simp [ha]) (by simp) (by simpa using u8s_one) fun w6 h => ?_
    refine r_ldA h 1 rfl rfl (by simp [ha]) ?_
    exact r_ret h _ rfl rfl)

def RdKey (_ : World) (r : Array Value) (k : List Int) : Prop := r = (u8s k).toArray ∧ keyOk k
theorem RdKey.below {w w' : World} {r : Array Value} {k : List Int} (h : RdKey w r k) (_ : Below w.heap.size w w') : RdKey w' r k := h
theorem RdKey.at {w w' : World} {ls : List Blk} {r : Array Value} {k : List Int} (h : RdKey w r k) (_ : At w w' ls) : RdKey w' r k := h
def OwnKey (r : Array Value) (k : List Int) (L : List Blk) : Prop := r = (u8s k).toArray ∧ keyOk k ∧ L = []
theorem OwnKey.rd {w0 w : World} {r : Array Value} {k : List Int} {L ls : List Blk} (h : OwnKey r k L) (_ : At w0 w (L ++ ls)) : RdKey w r k := ⟨h.1, h.2.1⟩
def RdStore (w : World) (r : Array Value) (B : List PB) : Prop := ∃ (s : Sl) (bs : List BR), r = #[.slice s.a s.n s.c] ∧ bs.map BR.pb = B ∧ BsR w s bs
theorem RdStore.below {w w' : World} {r : Array Value} {B : List PB} (h : RdStore w r B) (hb : Below w.heap.size w w') : RdStore w' r B := let ⟨s, bs, h1, h2, h3⟩ := h; ⟨s, bs, h1, h2, h3.below hb⟩
theorem RdStore.at {w w' : World} {ls : List Blk} {r : Array Value} {B : List PB} (h : RdStore w r B) (hA : At w w' ls) : RdStore w' r B := h.below hA.below
def OwnStore (r : Array Value) (B : List PB) (L : List Blk) : Prop := ∃ (s : Sl) (bs : List BR), r = #[.slice s.a s.n s.c] ∧ bs.map BR.pb = B ∧ OwnBs s bs L ∧ ∀ b ∈ B, b.ok
theorem OwnStore.rd {w0 w : World} {r : Array Value} {B : List PB} {L ls : List Blk} (h : OwnStore r B L) (hA : At w0 w (L ++ ls)) : RdStore w r B := by
  obtain ⟨s, bs, h1, h2, h3, h4⟩ := h
  exact ⟨s, bs, h1, h2, h3.rd hA (by rw [h2]; exact h4)⟩
theorem OwnStore.nil : OwnStore #[.slice none 0 0] [] [] := ⟨⟨none, 0, 0⟩, [], rfl, rfl, ⟨[], [], rfl, OwnS.nil _ _, .nil⟩, by simp⟩
theorem data_le_sizeBs {B : List PB} {b : PB} (h : b ∈ B) : b.data.length ≤ sizeBs B := by
  induction B with
  | nil => cases h
  | cons c B ih =>
    have hc : sizeBs (c :: B) = 1 + c.data.length + sizeBs B := by simp [sizeBs]; omega
    cases h with
    | head => omega
    | tail _ h => have := ih h; omega
theorem RdStore.ok {w : World} {r : Array Value} {B : List PB} (h : RdStore w r B) : ∀ b ∈ B, b.ok := by
  obtain ⟨s, bs, _, rfl, h3⟩ := h
  exact h3.pbs
def RawStore (w : World) (r : Array Value) (B : List PB) : Prop := ∃ (s : Sl) (bs : List BR), r = #[.slice s.a s.n s.c] ∧ bs.map BR.pb = B ∧ BsR w s bs ∧ s.c ≤ maxLen ∧ ∀ b ∈ bs, b.d.c ≤ maxLen
theorem RawStore.rd {w : World} {r : Array Value} {B : List PB} (h : RawStore w r B) : RdStore w r B := let ⟨s, bs, h1, h2, h3, _⟩ := h; ⟨s, bs, h1, h2, h3⟩

theorem c_szStoreV {w : World} {r : Array Value} {B : List PB} (h : RawStore w r B) {w1 : World} (hb : Below w.heap.size w w1) (m : Int) (hm : 0 ≤ m ∧ m ≤ 1073741824) : Ret Tryz.prog n_laws_szStore [.agg r, .int .i64 m] w1 [.int .i64] (fun x _ => x = if (sizeBs B : Int) ≤ m then m - sizeBs B else -1) := by
  obtain ⟨s, bs, rfl, rfl, h3, h4, h5⟩ := h
  unfold maxLen at h4 h5
  exact c_szStore (h3.below hb) m hm h4 fun b hb => by have := (h3.ok b hb).bytes.cap; have := h5 b hb; omega
theorem c_toStoreV {w : World} {r : Array Value} {B : List PB} (h : RdStore w r B) (hz : sizeBs B ≤ 1073741824) : Ret Tryz.prog n_laws_toStore [.agg r] w [.agg] (fun r' w' => ∃ L, At w w' L ∧ OwnStore r' B L) := by
  have hok := h.ok
  obtain ⟨s, bs, rfl, rfl, h3⟩ := h
  have hl := le_sizeBs (bs.map BR.pb)
  rw [List.length_map] at hl
  refine (c_toStore h3 (by omega) fun b hb => ?_).mono fun x w' _ ⟨t, bs', L, h1, h2, h3, h4⟩ => ⟨L, h3, t, bs', h1, h2, h4, hok⟩
  have := data_le_sizeBs (List.mem_map_of_mem (f := BR.pb) hb)
  simp only [BR.pb] at this
  omega
theorem c_eqStoreV {w : World} {r r' : Array Value} {B : List PB} (h : RdStore w r B) (h' : RdStore w r' B) (hz : sizeBs B ≤ 1073741824) : Ret Tryz.prog n_laws_eqStore [.agg r, .agg r'] w [.bool] (fun x _ => x = true) := by
  obtain ⟨s, bs, rfl, rfl, h3⟩ := h
  obtain ⟨s', bs', rfl, h2, h3'⟩ := h'
  have hl := le_sizeBs (bs.map BR.pb)
  rw [List.length_map] at hl
  refine c_eqStore h3 h3' h2.symm (by omega) fun b hb => ?_
  have := data_le_sizeBs (List.mem_map_of_mem (f := BR.pb) hb)
  simp only [BR.pb] at this
  omega
theorem c_markStoreV {w0 w : World} {ls L : List Blk} {r : Array Value} {B : List PB} (hA : At w0 w (L ++ ls)) (hO : OwnStore r B L) (k : Int) (h0 : 0 ≤ k) (hmax : k + sizeBs B ≤ 4611686018427387904) :
    Calls Tryz.prog n_laws_markStore [.agg r, .int .i64 k].toArray w fun e w' => ∃ v, e = .returned v ∧ v = .int .i64 (k + sizeBs B) ∧ ∃ L', At w0 w' (L' ++ ls) ∧ OwnStore r (markB k B) L' := by
  obtain ⟨s, bs, rfl, rfl, h3, h4⟩ := hO
  refine (c_markStore hA h3 k h0 hmax).mono ?_
  rintro e w' ⟨v, he, hv, bs', L', hA', hO', hm⟩
  exact ⟨v, he, hv, L', hA', s, bs', rfl, hm, hO', markB_ok _ _⟩
def RdBlob (w : World) (r : Array Value) (B : PB) : Prop := ∃ b : BR, r = b.cells.toArray ∧ b.pb = B ∧ b.Ok w
theorem RdBlob.below {w w' : World} {r : Array Value} {B : PB} (h : RdBlob w r B) (hb : Below w.heap.size w w') : RdBlob w' r B := let ⟨b, h1, h2, h3⟩ := h; ⟨b, h1, h2, h3.below hb⟩
theorem RdBlob.at {w w' : World} {ls : List Blk} {r : Array Value} {B : PB} (h : RdBlob w r B) (hA : At w w' ls) : RdBlob w' r B := h.below hA.below
def OwnBlob (r : Array Value) (B : PB) (L : List Blk) : Prop := ∃ b : BR, r = b.cells.toArray ∧ b.pb = B ∧ OwnS ty_uint8 1 b.d (u8s b.data) L ∧ B.ok
theorem OwnBlob.rd {w0 w : World} {r : Array Value} {B : PB} {L ls : List Blk} (h : OwnBlob r B L) (hA : At w0 w (L ++ ls)) : RdBlob w r B := by
  obtain ⟨b, h1, rfl, h3, h4⟩ := h
  exact ⟨b, h1, rfl, ownS_bytes h3 hA (List.sublist_append_left _ _) h4.1, h4.2.1, h4.2.2⟩
theorem OwnBlob.nil : OwnBlob #[.int .u8 0, .slice none 0 0] ⟨0, []⟩ [] := ⟨⟨0, ⟨none, 0, 0⟩, []⟩, rfl, rfl, OwnS.nil _ _, (fun b hb => absurd hb (by simp)), by decide, by decide⟩
end Go.Proofs.YtkifkdkjljcclaaGreat

namespace Go.Sx
open Go.RowKit (Below)
variable {P : Program} {R : Value → World → Prop} {w0 w : World}

theorem r_joinI {σ : Type} {emb : σ → List Value} {rest : σ → World → Prop} {body : (List Value → World → Prop) → World → Prop} (hb : body (fun vs w' => ∃ s', emb s' = vs ∧ rest s' w') w) : ((real P R).join σ emb rest body : World → Prop) w := ⟨rest, fun _ _ h => h, hb⟩
theorem At.pl1 {V G1 X : List Blk} (h : At w0 w (V ++ (G1 ++ X))) : At w0 w (G1 ++ (V ++ X)) := h.rot
theorem At.ps1 {V G1 X : List Blk} (h : At w0 w (G1 ++ (V ++ X))) : At w0 w (V ++ (G1 ++ X)) := h.rot
theorem At.dr1 {V G1 X : List Blk} (h : At w0 w (V ++ (G1 ++ X))) : At w0 w (V ++ X) := h.pl1.right
theorem At.pl2 {V G1 G2 X : List Blk} (h : At w0 w (V ++ (G1 ++ (G2 ++ X)))) : At w0 w (G2 ++ (V ++ (G1 ++ X))) := by
  rw [← List.append_assoc V G1] at h
  have h := At.pl1 h
  rwa [List.append_assoc V G1] at h
theorem At.ps2 {V G1 G2 X : List Blk} (h : At w0 w (G2 ++ (V ++ (G1 ++ X)))) : At w0 w (V ++ (G1 ++ (G2 ++ X))) := by
  rw [← List.append_assoc V G1] at h
  have h := At.ps1 h
  rwa [List.append_assoc V G1] at h
theorem At.dr2 {V G1 G2 X : List Blk} (h : At w0 w (V ++ (G1 ++ (G2 ++ X)))) : At w0 w (V ++ (G1 ++ X)) := h.pl2.right
theorem At.pl3 {V G1 G2 G3 X : List Blk} (h : At w0 w (V ++ (G1 ++ (G2 ++ (G3 ++ X))))) : At w0 w (G3 ++ (V ++ (G1 ++ (G2 ++ X)))) := by
  rw [← List.append_assoc V G1] at h
  have h := At.pl2 h
  rwa [List.append_assoc V G1] at h
theorem At.ps3 {V G1 G2 G3 X : List Blk} (h : At w0 w (G3 ++ (V ++ (G1 ++ (G2 ++ X))))) : At w0 w (V ++ (G1 ++ (G2 ++ (G3 ++ X)))) := by
  rw [← List.append_assoc V G1] at h
  have h := At.ps2 h
  rwa [List.append_assoc V G1] at h
theorem At.dr3 {V G1 G2 G3 X : List Blk} (h : At w0 w (V ++ (G1 ++ (G2 ++ (G3 ++ X))))) : At w0 w (V ++ (G1 ++ (G2 ++ X))) := h.pl3.right
theorem At.pl4 {V G1 G2 G3 G4 X : List Blk} (h : At w0 w (V ++ (G1 ++ (G2 ++ (G3 ++ (G4 ++ X)))))) : At w0 w (G4 ++ (V ++ (G1 ++ (G2 ++ (G3 ++ X))))) := by
  rw [← List.append_assoc V G1] at h
  have h := At.pl3 h
  rwa [List.append_assoc V G1] at h
theorem At.ps4 {V G1 G2 G3 G4 X : List Blk} (h : At w0 w (G4 ++ (V ++ (G1 ++ (G2 ++ (G3 ++ X)))))) : At w0 w (V ++ (G1 ++ (G2 ++ (G3 ++ (G4 ++ X))))) := by
  rw [← List.append_assoc V G1] at h
  have h := At.ps3 h
  rwa [List.append_assoc V G1] at h
theorem At.pl5 {V G1 G2 G3 G4 G5 X : List Blk} (h : At w0 w (V ++ (G1 ++ (G2 ++ (G3 ++ (G4 ++ (G5 ++ X))))))) : At w0 w (G5 ++ (V ++ (G1 ++ (G2 ++ (G3 ++ (G4 ++ X)))))) := by
  rw [← List.append_assoc V G1] at h
  have h := At.pl4 h
  rwa [List.append_assoc V G1] at h
theorem At.ps5 {V G1 G2 G3 G4 G5 X : List Blk} (h : At w0 w (G5 ++ (V ++ (G1 ++ (G2 ++ (G3 ++ (G4 ++ X))))))) : At w0 w (V ++ (G1 ++ (G2 ++ (G3 ++ (G4 ++ (G5 ++ X)))))) := by
  rw [← List.append_assoc V G1] at h
  have h := At.ps4 h
  rwa [List.append_assoc V G1] at h
theorem At.pl6 {V G1 G2 G3 G4 G5 G6 X : List Blk} (h : At w0 w (V ++ (G1 ++ (G2 ++ (G3 ++ (G4 ++ (G5 ++ (G6 ++ X)))))))) : At w0 w (G6 ++ (V ++ (G1 ++ (G2 ++ (G3 ++ (G4 ++ (G5 ++ X))))))) := by
  rw [← List.append_assoc V G1] at h
  have h := At.pl5 h
  rwa [List.append_assoc V G1] at h
theorem At.pl7 {V G1 G2 G3 G4 G5 G6 G7 X : List Blk} (h : At w0 w (V ++ (G1 ++ (G2 ++ (G3 ++ (G4 ++ (G5 ++ (G6 ++ (G7 ++ X))))))))) : At w0 w (G7 ++ (V ++ (G1 ++ (G2 ++ (G3 ++ (G4 ++ (G5 ++ (G6 ++ X)))))))) := by
  rw [← List.append_assoc V G1] at h
  have h := At.pl6 h
  rwa [List.append_assoc V G1] at h
theorem At.pl8 {V G1 G2 G3 G4 G5 G6 G7 G8 X : List Blk} (h : At w0 w (V ++ (G1 ++ (G2 ++ (G3 ++ (G4 ++ (G5 ++ (G6 ++ (G7 ++ (G8 ++ X)))))))))) : At w0 w (G8 ++ (V ++ (G1 ++ (G2 ++ (G3 ++ (G4 ++ (G5 ++ (G6 ++ (G7 ++ X))))))))) := by
  rw [← List.append_assoc V G1] at h
  have h := At.pl7 h
  rwa [List.append_assoc V G1] at h
theorem At.pl9 {V G1 G2 G3 G4 G5 G6 G7 G8 G9 X : List Blk} (h : At w0 w (V ++ (G1 ++ (G2 ++ (G3 ++ (G4 ++ (G5 ++ (G6 ++ (G7 ++ (G8 ++ (G9 ++ X))))))))))) : At w0 w (G9 ++ (V ++ (G1 ++ (G2 ++ (G3 ++ (G4 ++ (G5 ++ (G6 ++ (G7 ++ (G8 ++ X)))))))))) := by
  rw [← List.append_assoc V G1] at h
  have h := At.pl8 h
  rwa [List.append_assoc V G1] at h
end Go.Sx
namespace Go.Proofs.YtkifkdkjljcclaaGreat
open Go.Sx Go.RowKit
theorem RdKey.sz {w : World} {r : Array Value} {k : List Int} (h : RdKey w r k) : r.size = 32 := by rw [h.1]; simp [h.2.1]
theorem RdKey.one {w : World} {r : Array Value} {k : List Int} (h : RdKey w r k) : ∀ v ∈ r.toList, oneC v = true := by rw [h.1]; simpa using u8s_one
theorem OwnKey.sz {r : Array Value} {k : List Int} {L : List Blk} (h : OwnKey r k L) : r.size = 32 := by rw [h.1]; simp [h.2.1.1]
theorem OwnKey.one {r : Array Value} {k : List Int} {L : List Blk} (h : OwnKey r k L) : ∀ v ∈ r.toList, oneC v = true := by rw [h.1]; simpa using u8s_one
theorem RawStore.sz {w : World} {r : Array Value} {B : List PB} (h : RawStore w r B) : r.size = 1 := by obtain ⟨s, bs, rfl, _⟩ := h; rfl
theorem RawStore.one {w : World} {r : Array Value} {B : List PB} (h : RawStore w r B) : ∀ v ∈ r.toList, oneC v = true := by obtain ⟨s, bs, rfl, _⟩ := h; simp [oneC]
theorem OwnStore.sz {r : Array Value} {B : List PB} {L : List Blk} (h : OwnStore r B L) : r.size = 1 := by obtain ⟨s, bs, rfl, _⟩ := h; rfl
theorem OwnStore.one {r : Array Value} {B : List PB} {L : List Blk} (h : OwnStore r B L) : ∀ v ∈ r.toList, oneC v = true := by obtain ⟨s, bs, rfl, _⟩ := h; simp [oneC]
theorem OwnBlob.sz {r : Array Value} {B : PB} {L : List Blk} (h : OwnBlob r B L) : r.size = 2 := by obtain ⟨b, rfl, _⟩ := h; rfl
theorem OwnBlob.one {r : Array Value} {B : PB} {L : List Blk} (h : OwnBlob r B L) : ∀ v ∈ r.toList, oneC v = true := by obtain ⟨b, rfl, _⟩ := h; simpa using cells_one b
end Go.Proofs.YtkifkdkjljcclaaGreat

namespace Go.Proofs.YtkifkdkjljcclaaGreat
open Go.Sx Go.RowKit

theorem keysOf_get {B : List PB} {i : Nat} {b : PB} (h : B[i]? = some b) : (keysOf B)[i]? = some b.key := by simp [keysOf, h]

theorem pb_get {bs : List BR} {B : List PB} (h : bs.map BR.pb = B) {i : Nat} {b : BR} (hb : bs[i]? = some b) : B[i]? = some b.pb := by rw [← h, List.getElem?_map, hb]; rfl

end Go.Proofs.YtkifkdkjljcclaaGreat

namespace Go.Proofs.YtkifkdkjljcclaaGreat
open Go.Sx Go.RowKit

theorem keepL_bs {bs : List BR} {B : List PB} (hpb : bs.map BR.pb = B) (f : List Int → Bool) : (keepL ((keysOf B).map f) bs).map BR.pb = B.filter (fun b => f b.key) := by
  rw [← keepL_map, hpb]
  have e : (keysOf B).map f = B.map (fun b => f b.key) := by unfold keysOf; rw [List.map_map]; rfl
  rw [e]
  exact keepL_filter (fun b => f b.key) B

end Go.Proofs.YtkifkdkjljcclaaGreat

namespace Go.Proofs.YtkifkdkjljcclaaGreat
open Go.Sx Go.RowKit

theorem ShopO.ex {b : Nat} {ks : List (List Int)} {bs : List BR} {L : List Blk} (h : ShopO b ks bs L) (hk : ∀ k ∈ ks, keyOk k) : ∃ sk sb : Sl, ∀ {w0 w : World} {ls : List Blk}, At w0 w (L ++ ls) → (∀ b ∈ bs, b.Ok w) →
    (∀ n, ldOk w n ((⟨b, 0, none⟩ : Addr).add 0) .slice sk) ∧ (∀ n, ldOk w n ((⟨b, 0, none⟩ : Addr).add 1) .slice sb) ∧ KsR w sk ks ∧ BsR w sb bs := by
  obtain ⟨sk, sb, Lk, Lb, rfl, h1, h2⟩ := h
  refine ⟨sk, sb, fun hA hb => ⟨fun n => ldOk_own hA 0 rfl 0 rfl (by simp [Sh.emb]), fun n => ldOk_own hA 0 rfl 1 rfl (by simp [Sh.emb]), ownS_ks h1 hA ?_ hk, ⟨h2.of hA ?_ (fun b _ => cells_len b) (by omega), hb⟩⟩⟩
  · exact ((List.sublist_append_left _ _).trans (List.sublist_cons_self _ _)).trans (List.sublist_append_left _ _)
  · exact ((List.sublist_append_right _ _).trans (List.sublist_cons_self _ _)).trans (List.sublist_append_left _ _)
theorem SpecO.ex {b : Nat} {ks : List (List Int)} {bs : List BR} {L : List Blk} (h : SpecO b ks bs L) (hk : ∀ k ∈ ks, keyOk k) : ∃ sk sb : Sl, ∀ {w0 w : World} {ls : List Blk}, At w0 w (L ++ ls) → (∀ b ∈ bs, b.Ok w) →
    (∀ n, ldOk w n ((⟨b, 0, none⟩ : Addr).add 1) .slice sk) ∧ (∀ n, ldOk w n ((⟨b, 0, none⟩ : Addr).add 0) .slice sb) ∧ KsR w sk ks ∧ BsR w sb bs := by
  obtain ⟨sk, sb, Lk, Lb, rfl, h1, h2⟩ := h
  refine ⟨sk, sb, fun hA hb => ⟨fun n => ldOk_own hA 0 rfl 1 rfl (by simp [Sh.emb]), fun n => ldOk_own hA 0 rfl 0 rfl (by simp [Sh.emb]), ownS_ks h1 hA ?_ hk, ⟨h2.of hA ?_ (fun b _ => cells_len b) (by omega), hb⟩⟩⟩
  · exact ((List.sublist_append_right _ _).trans (List.sublist_append_right _ _)).trans (List.sublist_append_left _ _)
  · exact ((List.sublist_append_left _ _).trans (List.sublist_append_right _ _)).trans (List.sublist_append_left _ _)

end Go.Proofs.YtkifkdkjljcclaaGreat
