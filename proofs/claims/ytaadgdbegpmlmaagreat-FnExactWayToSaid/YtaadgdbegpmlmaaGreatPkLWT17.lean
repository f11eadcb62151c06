/- The program: a store's keys, whether a store is valid, a store with its keys, what is found in it, a store in new memory, some of the blobs. The program: a store with its keys, what is found in it, a store in new memory, some of the blobs. The reference: blobs, keys, a store with its keys. The kinds of values of which laws speak: read, own. Stores, blobs, keys. What the walks of the exact laws need: groups of blocks pulled to the front and put back, sizes. Printed in part. Arguments opened at their cells: slices of anything, slices of bytes, stores. -/
import Derived.ChangeSame
import Derived.Test.YtaadgdbegpmlmaaGreatPkLWT16
import Derived.Test.YtaadgdbegpmlmaaGreatPkLWT06
namespace Go.Proofs.YtaadgdbegpmlmaaGreat
open Go.Sx Go.RowKit

def keysOf (B : List PB) : List (List Int) := B.map PB.key
def validS (B : List PB) : Prop := B.length ≤ 128 ∧ (∀ b ∈ B, b.data.length ≤ 1024) ∧ Asc (keysOf B)
instance (B : List PB) : Decidable (validS B) := inferInstanceAs (Decidable (_ ∧ _ ∧ List.Pairwise _ _))
theorem keysOf_len (B : List PB) : (keysOf B).length = B.length := by simp [keysOf]

end Go.Proofs.YtaadgdbegpmlmaaGreat

namespace Go.Proofs.YtaadgdbegpmlmaaGreat
open Go.Sx Go.RowKit

/-- A store with its keys, read. -/
structure ShopR (w : World) (p : Addr) (ks : List (List Int)) (bs : List BR) : Prop where
  ex : ∃ sk sb, (∀ n, ldOk w n (p.add 0) .slice sk) ∧ (∀ n, ldOk w n (p.add 1) .slice sb) ∧ KsR w sk ks ∧ BsR w sb bs
theorem ShopR.below {w w' : World} {p : Addr} {ks : List (List Int)} {bs : List BR} (h : ShopR w p ks bs) (hb : Below w.heap.size w w') : ShopR w' p ks bs :=
  let ⟨sk, sb, h1, h2, h3, h4⟩ := h.ex
  ⟨sk, sb, fun n => ldOk_below hb (h1 n), fun n => ldOk_below hb (h2 n), h3.below hb, h4.below hb⟩
theorem ShopR.at {w w' : World} {ls : List Blk} {p : Addr} {ks : List (List Int)} {bs : List BR} (h : ShopR w p ks bs) (hA : At w w' ls) : ShopR w' p ks bs := h.below hA.below

/-- A store with its keys that is one's own. -/
def ShopO (b : Nat) (ks : List (List Int)) (bs : List BR) (L : List Blk) : Prop := ∃ sk sb Lk Lb, L = (b, #[.slice sk.a sk.n sk.c, .slice sb.a sb.n sb.c], ty_impl_shop) :: (Lk ++ Lb) ∧ OwnS ty_impl_Key 32 sk (ks.flatMap u8s) Lk ∧ OwnS ty_impl_Blob 2 sb (bs.flatMap BR.cells) Lb
theorem ShopO.rd {w0 w : World} {b : Nat} {ks : List (List Int)} {bs : List BR} {L ls : List Blk} (h : ShopO b ks bs L) (hA : At w0 w (L ++ ls)) (hk : ∀ k ∈ ks, keyOk k) (hb : ∀ b ∈ bs, b.Ok w) : ShopR w ⟨b, 0, none⟩ ks bs := by
  obtain ⟨sk, sb, Lk, Lb, rfl, h1, h2⟩ := h
  refine ⟨sk, sb, fun n => ldOk_own hA 0 rfl 0 rfl (by simp [Sh.emb]), fun n => ldOk_own hA 0 rfl 1 rfl (by simp [Sh.emb]), ownS_ks h1 hA ?_ hk, ⟨h2.of hA ?_ (fun b _ => cells_len b) (by omega), hb⟩⟩
  · exact ((List.sublist_append_left _ _).trans (List.sublist_cons_self _ _)).trans (List.sublist_append_left _ _)
  · exact ((List.sublist_append_right _ _).trans (List.sublist_cons_self _ _)).trans (List.sublist_append_left _ _)

end Go.Proofs.YtaadgdbegpmlmaaGreat

namespace Go.Proofs.YtaadgdbegpmlmaaGreat
open Go.Sx Go.RowKit

/-- A blob at an address. -/
structure BAt (w : World) (p : Addr) (b : BR) : Prop where
  tag : ∀ n, ldOk w n (p.add 0) (.int .u8) b.tag
  d : ∀ n, ldOk w n (p.add 1) .slice b.d
  ok : b.Ok w
theorem BAt.below {w w' : World} {p : Addr} {b : BR} (h : BAt w p b) (hb : Below w.heap.size w w') : BAt w' p b := ⟨fun n => ldOk_below hb (h.tag n), fun n => ldOk_below hb (h.d n), h.ok.below hb⟩
theorem c_l01Compare {a b : List Int} (ha : a.length = 32) (hb : b.length = 32) (w : World) : Ret Tryz.prog n_spec_l01Compare [.agg (u8s a).toArray, .agg (u8s b).toArray] w [.int .i64] (fun r _ => r = cmpL a b) := spec_l01Compare_calls _ _ (by
  unfold spec_l01Compare
  refine r_new (At.refl w) fun b2 w1 h => ?_
  refine r_new h fun b3 w2 h => ?_
  refine r_loop (σ := Int) (fun i w' => ∃ j : Nat, i = j ∧ j ≤ 32 ∧ cmpL a b = cmpL (a.drop j) (b.drop j) ∧ At w w' [(b3, (u8s b).toArray, ty_impl_Key), (b2, (u8s a).toArray, ty_impl_Key)]) (fun i _ => (32 - i).toNat) 0 rfl ⟨0, rfl, by omega, by simp, h⟩ ?_
  rintro i w3 ⟨j, rfl, hj, he, h⟩
  refine r_any fun _ => ?_
  refine r_if ((j : Int) < 32) rfl (fun hlt => ?_) (fun hge => ?_)
  · refine r_draw h fun w4 h => ?_
    rw [cmpL_drop (by omega) (by omega)] at he
    refine r_ix ⟨b2, 0, none⟩ rfl (by omega) (by omega) ?_
    refine r_ld h 1 rfl (add_lit _ _ _) (a.getD j 0) (by simp [Sh.emb]) (by simp only [Int.toNat_natCast, Nat.zero_add, Nat.mul_one]; exact u8s_arr (by omega)) ?_
    refine r_ix ⟨b3, 0, none⟩ rfl (by omega) (by omega) ?_
    refine r_ld h 0 rfl (add_lit _ _ _) (b.getD j 0) (by simp [Sh.emb]) (by simp only [Int.toNat_natCast, Nat.zero_add, Nat.mul_one]; exact u8s_arr (by omega)) ?_
    refine r_ne (fun hne => ?_) (fun heq => ?_)
    · refine r_draw h fun w5 h => ?_
      refine r_ix ⟨b2, 0, none⟩ rfl (by omega) (by omega) ?_
      refine r_ld h 1 rfl (add_lit _ _ _) (a.getD j 0) (by simp [Sh.emb]) (by simp only [Int.toNat_natCast, Nat.zero_add, Nat.mul_one]; exact u8s_arr (by omega)) ?_
      refine r_ix ⟨b3, 0, none⟩ rfl (by omega) (by omega) ?_
      refine r_ld h 0 rfl (add_lit _ _ _) (b.getD j 0) (by simp [Sh.emb]) (by simp only [Int.toNat_natCast, Nat.zero_add, Nat.mul_one]; exact u8s_arr (by omega)) ?_
      refine r_if (a.getD j 0 < b.getD j 0) rfl (fun hl => ?_) (fun hl => ?_)
      · rw [if_pos hl] at he
        exact r_ret h.nil (-1 : Int) rfl he.symm
      · rw [if_neg hl, if_pos (by omega)] at he
        exact r_ret h.nil (1 : Int) rfl he.symm
    · rw [heq, if_neg (by omega), if_neg (by omega)] at he
      exact ⟨((j + 1 : Nat) : Int), by rw [w64 (by omega) (by omega)]; rfl, ⟨j + 1, rfl, by omega, he, h⟩, by omega⟩
  · rw [List.drop_eq_nil_of_le (by omega), List.drop_eq_nil_of_le (by omega)] at he
    exact r_ret h.nil (0 : Int) rfl he.symm)

structure SpecR (w : World) (p : Addr) (ks : List (List Int)) (bs : List BR) : Prop where
  ex : ∃ sk sb, (∀ n, ldOk w n (p.add 1) .slice sk) ∧ (∀ n, ldOk w n (p.add 0) .slice sb) ∧ KsR w sk ks ∧ BsR w sb bs
theorem SpecR.below {w w' : World} {p : Addr} {ks : List (List Int)} {bs : List BR} (h : SpecR w p ks bs) (hb : Below w.heap.size w w') : SpecR w' p ks bs :=
  let ⟨sk, sb, h1, h2, h3, h4⟩ := h.ex
  ⟨sk, sb, fun n => ldOk_below hb (h1 n), fun n => ldOk_below hb (h2 n), h3.below hb, h4.below hb⟩
theorem SpecR.at {w w' : World} {ls : List Blk} {p : Addr} {ks : List (List Int)} {bs : List BR} (h : SpecR w p ks bs) (hA : At w w' ls) : SpecR w' p ks bs := h.below hA.below
def SpecO (b : Nat) (ks : List (List Int)) (bs : List BR) (L : List Blk) : Prop := ∃ sk sb Lk Lb, L = [(b, #[.slice sb.a sb.n sb.c, .slice sk.a sk.n sk.c], ty_spec_l05Store)] ++ (Lb ++ Lk) ∧ OwnS ty_impl_Key 32 sk (ks.flatMap u8s) Lk ∧ OwnS ty_impl_Blob 2 sb (bs.flatMap BR.cells) Lb
theorem SpecO.rd {w0 w : World} {b : Nat} {ks : List (List Int)} {bs : List BR} {L ls : List Blk} (h : SpecO b ks bs L) (hA : At w0 w (L ++ ls)) (hk : ∀ k ∈ ks, keyOk k) (hb : ∀ b ∈ bs, b.Ok w) : SpecR w ⟨b, 0, none⟩ ks bs := by
  obtain ⟨sk, sb, Lk, Lb, rfl, h1, h2⟩ := h
  refine ⟨sk, sb, fun n => ldOk_own hA 0 rfl 1 rfl (by simp [Sh.emb]), fun n => ldOk_own hA 0 rfl 0 rfl (by simp [Sh.emb]), ownS_ks h1 hA ?_ hk, ⟨h2.of hA ?_ (fun b _ => cells_len b) (by omega), hb⟩⟩
  · exact ((List.sublist_append_right _ _).trans (List.sublist_append_right _ _)).trans (List.sublist_append_left _ _)
  · exact ((List.sublist_append_left _ _).trans (List.sublist_append_right _ _)).trans (List.sublist_append_left _ _)

end Go.Proofs.YtaadgdbegpmlmaaGreat

namespace Go.Proofs.YtaadgdbegpmlmaaGreat
open Go.Sx Go.RowKit

theorem c_toKey {a : List Int} (ha : a.length = 32) (w : World) : Ret Tryz.prog n_laws_toKey [.agg (u8s a).toArray] w [.agg] (fun cs _ => cs = (u8s a).toArray) := laws_toKey_calls _ (by
  unfold laws_toKey
  refine r_new (At.refl w) fun b1 w1 h => ?_
  refine r_new h fun b2 w2 h => ?_
  refine r_new h fun b3 w3 h => ?_
  obtain ⟨B, hB⟩ : ∃ B, B = List.replicate 32 (Value.int .u8 0) := ⟨_, rfl⟩
  have hB8 : B.length = 32 := by rw [hB, List.length_replicate]
  have hBA : B.toArray = Array.replicate 32 (Value.int .u8 0) := by rw [hB]; rfl
  have hlen : (u8s a).length = B.length := by rw [u8s_len, ha, hB8]
  refine r_loop (σ := Int) (fun i w' => ∃ j : Nat, i = j ∧ j ≤ 32 ∧ At w w' [(b3, mix (u8s a) B j, ty_impl_Key), (b2, Array.replicate 32 (.int .u8 0), ty_impl_Key), (b1, (u8s a).toArray, ty_arr32_uint8)]) (fun i _ => (32 - i).toNat) 0 rfl
    ⟨0, rfl, by omega, by rw [mix_zero, hBA]; exact h⟩ ?_
  rintro i w8 ⟨j, rfl, hj, h⟩
  refine r_any fun _ => ?_
  refine r_if ((j : Int) < 32) rfl (fun hlt => ?_) (fun hge => ?_)
  · refine r_ix ⟨b1, 0, none⟩ rfl (by omega) (by omega) ?_
    refine r_ld h 2 rfl (add_lit _ _ _) (a.getD j 0) (by simp [Sh.emb]) (by simp only [Int.toNat_natCast, Nat.zero_add, Nat.mul_one]; exact u8s_arr (by omega)) ?_
    refine r_ix ⟨b3, 0, none⟩ rfl (by omega) (by omega) ?_
    refine r_st h 0 rfl (add_lit _ _ _) (by rw [mix_size hlen (by simp; omega)]; simp only [Int.toNat_natCast, u8s_len]; omega) rfl fun w9 h => ?_
    refine ⟨((j + 1 : Nat) : Int), by rw [w64 (by omega) (by omega)]; rfl, ⟨j + 1, rfl, by omega, ?_⟩, by omega⟩
    have hset := mix_set (A := u8s a) (B := B) hlen (k := j) (v := .int .u8 (a.getD j 0)) (u8s_get (by omega))
    rw [← hset]
    simp only [Int.toNat_natCast, Nat.zero_add, Nat.mul_one, List.set_cons_zero] at h
    exact h
  · have : j = 32 := by omega
    subst this
    have e8 : mix (u8s a) B 32 = (u8s a).toArray := by
      have := mix_all (A := u8s a) (B := B) (by omega)
      rwa [u8s_len, ha] at this
    rw [e8] at h
    refine r_ldA h 0 rfl rfl (by simp [ha]) ?_
    refine r_stA h 1 rfl rfl (by simp [ha]) (by simp) (by simpa using u8s_one) fun w6 h => ?_
    refine r_ldA h 1 rfl rfl (by simp [ha]) ?_
    exact r_ret h _ rfl rfl)

def RdKey (_ : World) (r : Array Value) (k : List Int) : Prop := r = (u8s k).toArray ∧ keyOk k
theorem RdKey.below {w w' : World} {r : Array Value} {k : List Int} (h : RdKey w r k) (_ : Below w.heap.size w w') : RdKey w' r k := h
theorem RdKey.at {w w' : World} {ls : List Blk} {r : Array Value} {k : List Int} (h : RdKey w r k) (_ : At w w' ls) : RdKey w' r k := h
def OwnKey (r : Array Value) (k : List Int) (L : List Blk) : Prop := r = (u8s k).toArray ∧ keyOk k ∧ L = []
theorem OwnKey.rd {w0 w : World} {r : Array Value} {k : List Int} {L ls : List Blk} (h : OwnKey r k L) (_ : At w0 w (L ++ ls)) : RdKey w r k := ⟨h.1, h.2.1⟩
theorem c_toKeyV {w : World} {r : Array Value} {k : List Int} (h : RdKey w r k) : Ret Tryz.prog n_laws_toKey [.agg r] w [.agg] (fun r' w' => ∃ L, At w w' L ∧ OwnKey r' k L) := by
  obtain ⟨rfl, hk⟩ := h
  refine (c_toKey hk.1 w).mono fun x w' hb hx => ⟨[], ⟨hb, by simp, by simp, by simp⟩, hx, hk, rfl⟩

def RdStore (w : World) (r : Array Value) (B : List PB) : Prop := ∃ (s : Sl) (bs : List BR), r = #[.slice s.a s.n s.c] ∧ bs.map BR.pb = B ∧ BsR w s bs
theorem RdStore.below {w w' : World} {r : Array Value} {B : List PB} (h : RdStore w r B) (hb : Below w.heap.size w w') : RdStore w' r B := let ⟨s, bs, h1, h2, h3⟩ := h; ⟨s, bs, h1, h2, h3.below hb⟩
theorem RdStore.at {w w' : World} {ls : List Blk} {r : Array Value} {B : List PB} (h : RdStore w r B) (hA : At w w' ls) : RdStore w' r B := h.below hA.below
def OwnStore (r : Array Value) (B : List PB) (L : List Blk) : Prop := ∃ (s : Sl) (bs : List BR), r = #[.slice s.a s.n s.c] ∧ bs.map BR.pb = B ∧ OwnBs s bs L ∧ ∀ b ∈ B, b.ok
theorem OwnStore.rd {w0 w : World} {r : Array Value} {B : List PB} {L ls : List Blk} (h : OwnStore r B L) (hA : At w0 w (L ++ ls)) : RdStore w r B := by
  obtain ⟨s, bs, h1, h2, h3, h4⟩ := h
  exact ⟨s, bs, h1, h2, h3.rd hA (by rw [h2]; exact h4)⟩
theorem OwnStore.nil : OwnStore #[.slice none 0 0] [] [] := ⟨⟨none, 0, 0⟩, [], rfl, rfl, ⟨[], [], rfl, OwnS.nil _ _, .nil⟩, by simp⟩
theorem RdStore.ok {w : World} {r : Array Value} {B : List PB} (h : RdStore w r B) : ∀ b ∈ B, b.ok := by
  obtain ⟨s, bs, _, rfl, h3⟩ := h
  exact h3.pbs
def RawStore (w : World) (r : Array Value) (B : List PB) : Prop := ∃ (s : Sl) (bs : List BR), r = #[.slice s.a s.n s.c] ∧ bs.map BR.pb = B ∧ BsR w s bs ∧ s.c ≤ maxLen ∧ ∀ b ∈ bs, b.d.c ≤ maxLen
theorem RawStore.rd {w : World} {r : Array Value} {B : List PB} (h : RawStore w r B) : RdStore w r B := let ⟨s, bs, h1, h2, h3, _⟩ := h; ⟨s, bs, h1, h2, h3⟩

def RdBlob (w : World) (r : Array Value) (B : PB) : Prop := ∃ b : BR, r = b.cells.toArray ∧ b.pb = B ∧ b.Ok w
theorem RdBlob.below {w w' : World} {r : Array Value} {B : PB} (h : RdBlob w r B) (hb : Below w.heap.size w w') : RdBlob w' r B := let ⟨b, h1, h2, h3⟩ := h; ⟨b, h1, h2, h3.below hb⟩
theorem RdBlob.at {w w' : World} {ls : List Blk} {r : Array Value} {B : PB} (h : RdBlob w r B) (hA : At w w' ls) : RdBlob w' r B := h.below hA.below
def OwnBlob (r : Array Value) (B : PB) (L : List Blk) : Prop := ∃ b : BR, r = b.cells.toArray ∧ b.pb = B ∧ OwnS ty_uint8 1 b.d (u8s b.data) L ∧ B.ok
theorem OwnBlob.rd {w0 w : World} {r : Array Value} {B : PB} {L ls : List Blk} (h : OwnBlob r B L) (hA : At w0 w (L ++ ls)) : RdBlob w r B := by
  obtain ⟨b, h1, rfl, h3, h4⟩ := h
  exact ⟨b, h1, rfl, ownS_bytes h3 hA (List.sublist_append_left _ _) h4.1, h4.2.1, h4.2.2⟩
theorem OwnBlob.nil : OwnBlob #[.int .u8 0, .slice none 0 0] ⟨0, []⟩ [] := ⟨⟨0, ⟨none, 0, 0⟩, []⟩, rfl, rfl, OwnS.nil _ _, (fun b hb => absurd hb (by simp)), by decide, by decide⟩
end Go.Proofs.YtaadgdbegpmlmaaGreat

namespace Go.Sx
open Go.RowKit (Below)
variable {P : Program} {R : Value → World → Prop} {w0 w : World}

theorem r_joinI {σ : Type} {emb : σ → List Value} {rest : σ → World → Prop} {body : (List Value → World → Prop) → World → Prop} (hb : body (fun vs w' => ∃ s', emb s' = vs ∧ rest s' w') w) : ((real P R).join σ emb rest body : World → Prop) w := ⟨rest, fun _ _ h => h, hb⟩
theorem At.pl1 {V G1 X : List Blk} (h : At w0 w (V ++ (G1 ++ X))) : At w0 w (G1 ++ (V ++ X)) := h.rot
theorem At.ps1 {V G1 X : List Blk} (h : At w0 w (G1 ++ (V ++ X))) : At w0 w (V ++ (G1 ++ X)) := h.rot
theorem At.dr1 {V G1 X : List Blk} (h : At w0 w (V ++ (G1 ++ X))) : At w0 w (V ++ X) := h.pl1.right
theorem At.pl2 {V G1 G2 X : List Blk} (h : At w0 w (V ++ (G1 ++ (G2 ++ X)))) : At w0 w (G2 ++ (V ++ (G1 ++ X))) := by
  rw [← List.append_assoc V G1] at h
  have h := At.pl1 h
  rwa [List.append_assoc V G1] at h
theorem At.ps2 {V G1 G2 X : List Blk} (h : At w0 w (G2 ++ (V ++ (G1 ++ X)))) : At w0 w (V ++ (G1 ++ (G2 ++ X))) := by
  rw [← List.append_assoc V G1] at h
  have h := At.ps1 h
  rwa [List.append_assoc V G1] at h
theorem At.pl3 {V G1 G2 G3 X : List Blk} (h : At w0 w (V ++ (G1 ++ (G2 ++ (G3 ++ X))))) : At w0 w (G3 ++ (V ++ (G1 ++ (G2 ++ X)))) := by
  rw [← List.append_assoc V G1] at h
  have h := At.pl2 h
  rwa [List.append_assoc V G1] at h
theorem At.ps3 {V G1 G2 G3 X : List Blk} (h : At w0 w (G3 ++ (V ++ (G1 ++ (G2 ++ X))))) : At w0 w (V ++ (G1 ++ (G2 ++ (G3 ++ X)))) := by
  rw [← List.append_assoc V G1] at h
  have h := At.ps2 h
  rwa [List.append_assoc V G1] at h
theorem At.pl4 {V G1 G2 G3 G4 X : List Blk} (h : At w0 w (V ++ (G1 ++ (G2 ++ (G3 ++ (G4 ++ X)))))) : At w0 w (G4 ++ (V ++ (G1 ++ (G2 ++ (G3 ++ X))))) := by
  rw [← List.append_assoc V G1] at h
  have h := At.pl3 h
  rwa [List.append_assoc V G1] at h
theorem At.ps4 {V G1 G2 G3 G4 X : List Blk} (h : At w0 w (G4 ++ (V ++ (G1 ++ (G2 ++ (G3 ++ X)))))) : At w0 w (V ++ (G1 ++ (G2 ++ (G3 ++ (G4 ++ X))))) := by
  rw [← List.append_assoc V G1] at h
  have h := At.ps3 h
  rwa [List.append_assoc V G1] at h
theorem At.pl5 {V G1 G2 G3 G4 G5 X : List Blk} (h : At w0 w (V ++ (G1 ++ (G2 ++ (G3 ++ (G4 ++ (G5 ++ X))))))) : At w0 w (G5 ++ (V ++ (G1 ++ (G2 ++ (G3 ++ (G4 ++ X)))))) := by
  rw [← List.append_assoc V G1] at h
  have h := At.pl4 h
  rwa [List.append_assoc V G1] at h
theorem At.ps5 {V G1 G2 G3 G4 G5 X : List Blk} (h : At w0 w (G5 ++ (V ++ (G1 ++ (G2 ++ (G3 ++ (G4 ++ X))))))) : At w0 w (V ++ (G1 ++ (G2 ++ (G3 ++ (G4 ++ (G5 ++ X)))))) := by
  rw [← List.append_assoc V G1] at h
  have h := At.ps4 h
  rwa [List.append_assoc V G1] at h
theorem At.pl6 {V G1 G2 G3 G4 G5 G6 X : List Blk} (h : At w0 w (V ++ (G1 ++ (G2 ++ (G3 ++ (G4 ++ (G5 ++ (G6 ++ X)))))))) : At w0 w (G6 ++ (V ++ (G1 ++ (G2 ++ (G3 ++ (G4 ++ (G5 ++ X))))))) := by
  rw [← List.append_assoc V G1] at h
  have h := At.pl5 h
  rwa [List.append_assoc V G1] at h
theorem At.pl7 {V G1 G2 G3 G4 G5 G6 G7 X : List Blk} (h : At w0 w (V ++ (G1 ++ (G2 ++ (G3 ++ (G4 ++ (G5 ++ (G6 ++ (G7 ++ X))))))))) : At w0 w (G7 ++ (V ++ (G1 ++ (G2 ++ (G3 ++ (G4 ++ (G5 ++ (G6 ++ X)))))))) := by
  rw [← List.append_assoc V G1] at h
  have h := At.pl6 h
  rwa [List.append_assoc V G1] at h
theorem At.pl8 {V G1 G2 G3 G4 G5 G6 G7 G8 X : List Blk} (h : At w0 w (V ++ (G1 ++ (G2 ++ (G3 ++ (G4 ++ (G5 ++ (G6 ++ (G7 ++ (G8 ++ X)))))))))) : At w0 w (G8 ++ (V ++ (G1 ++ (G2 ++ (G3 ++ (G4 ++ (G5 ++ (G6 ++ (G7 ++ X))))))))) := by
  rw [← List.append_assoc V G1] at h
  have h := At.pl7 h
  rwa [List.append_assoc V G1] at h
theorem At.pl9 {V G1 G2 G3 G4 G5 G6 G7 G8 G9 X : List Blk} (h : At w0 w (V ++ (G1 ++ (G2 ++ (G3 ++ (G4 ++ (G5 ++ (G6 ++ (G7 ++ (G8 ++ (G9 ++ X))))))))))) : At w0 w (G9 ++ (V ++ (G1 ++ (G2 ++ (G3 ++ (G4 ++ (G5 ++ (G6 ++ (G7 ++ (G8 ++ X)))))))))) := by
  rw [← List.append_assoc V G1] at h
  have h := At.pl8 h
  rwa [List.append_assoc V G1] at h
theorem At.pl10 {V G1 G2 G3 G4 G5 G6 G7 G8 G9 G10 X : List Blk} (h : At w0 w (V ++ (G1 ++ (G2 ++ (G3 ++ (G4 ++ (G5 ++ (G6 ++ (G7 ++ (G8 ++ (G9 ++ (G10 ++ X)))))))))))) : At w0 w (G10 ++ (V ++ (G1 ++ (G2 ++ (G3 ++ (G4 ++ (G5 ++ (G6 ++ (G7 ++ (G8 ++ (G9 ++ X))))))))))) := by
  rw [← List.append_assoc V G1] at h
  have h := At.pl9 h
  rwa [List.append_assoc V G1] at h
end Go.Sx
namespace Go.Proofs.YtaadgdbegpmlmaaGreat
open Go.Sx Go.RowKit
theorem RdKey.sz {w : World} {r : Array Value} {k : List Int} (h : RdKey w r k) : r.size = 32 := by rw [h.1]; simp [h.2.1]
theorem RdKey.one {w : World} {r : Array Value} {k : List Int} (h : RdKey w r k) : ∀ v ∈ r.toList, oneC v = true := by rw [h.1]; simpa using u8s_one
theorem OwnKey.sz {r : Array Value} {k : List Int} {L : List Blk} (h : OwnKey r k L) : r.size = 32 := by rw [h.1]; simp [h.2.1.1]
theorem OwnKey.one {r : Array Value} {k : List Int} {L : List Blk} (h : OwnKey r k L) : ∀ v ∈ r.toList, oneC v = true := by rw [h.1]; simpa using u8s_one
theorem RawStore.sz {w : World} {r : Array Value} {B : List PB} (h : RawStore w r B) : r.size = 1 := by obtain ⟨s, bs, rfl, _⟩ := h; rfl
theorem RawStore.one {w : World} {r : Array Value} {B : List PB} (h : RawStore w r B) : ∀ v ∈ r.toList, oneC v = true := by obtain ⟨s, bs, rfl, _⟩ := h; simp [oneC]
theorem OwnStore.sz {r : Array Value} {B : List PB} {L : List Blk} (h : OwnStore r B L) : r.size = 1 := by obtain ⟨s, bs, rfl, _⟩ := h; rfl
theorem OwnStore.one {r : Array Value} {B : List PB} {L : List Blk} (h : OwnStore r B L) : ∀ v ∈ r.toList, oneC v = true := by obtain ⟨s, bs, rfl, _⟩ := h; simp [oneC]
theorem OwnBlob.sz {r : Array Value} {B : PB} {L : List Blk} (h : OwnBlob r B L) : r.size = 2 := by obtain ⟨b, rfl, _⟩ := h; rfl
theorem OwnBlob.one {r : Array Value} {B : PB} {L : List Blk} (h : OwnBlob r B L) : ∀ v ∈ r.toList, oneC v = true := by obtain ⟨b, rfl, _⟩ := h; simpa using cells_one b
end Go.Proofs.YtaadgdbegpmlmaaGreat

namespace Go.Sx
open Go.ChangeShapes Go.WideShapes Go.ChangeAt Go.RowKit Go.Deep

section
variable {H : Type} {enc : TypeId × Value → H} {P : Program} {w : World} {base : Nat} {spare : Nat → Bool} {held : Bool}

theorem trod_sl {α : Type} [Inhabited α] {t u z : Nat} {cells : α → List Value} {ok : α → Prop} (ht : P.underlying t = some (.slice u)) (hc : P.cellsOf u = z) (hz : 0 < z) (hlen : ∀ a, ok a → (cells a).length = z)
    (elem : ∀ (fuel : Nat) (cs : List Value) (x : DataW H × List MemPlace), DataW.trod enc P w base spare held fuel u cs = some x → ∃ a : α, cs = cells a ∧ ok a)
    {fuel : Nat} {cs : List Value} {x : DataW H × List MemPlace} (h : DataW.trod enc P w base spare held fuel t cs = some x) :
    ∃ (s : Sl) (xs : List α), cs = [.slice s.a s.n s.c] ∧ SlOf w s z cells xs ∧ s.c ≤ maxLen ∧ ∀ a ∈ xs, ok a := by
  rcases open_slice ht h with ⟨rfl, _⟩ | ⟨a', len, cap, m, k, D, Pl, rfl, _, hl, hm, hmm, _, hx⟩
  · exact ⟨⟨none, 0, 0⟩, [], rfl, SlOf.nil hz, Nat.zero_le _, by simp⟩
  · have hlm : len ≤ m := by rw [hmm]; split <;> omega
    obtain ⟨g, hg⟩ := choose_lt (α := α) (n := len) (p := fun i y => ok y ∧ ∀ j v, (cells y)[j]? = some v → w.cell? ((a'.add (i * z)).add j) = some v) (fun i hi => by
      obtain ⟨cs', h1, h2⟩ := hx i (by omega)
      rw [hc] at h1
      obtain ⟨y, rfl, hy⟩ := elem _ _ _ h2
      obtain ⟨_, hlen', hcell⟩ := World.cells?_some h1
      refine ⟨y, hy, fun j v hv => ?_⟩
      rw [hcell j (by have := (List.getElem?_eq_some_iff.1 hv).1; omega), hv])
    have hmem : ∀ y ∈ (List.range len).map g, ok y := by
      intro y hy
      simp only [List.mem_map, List.mem_range] at hy
      obtain ⟨i, hi, rfl⟩ := hy
      exact (hg i hi).1
    have hone : ∀ y ∈ (List.range len).map g, (cells y).length = z := fun y hy => hlen y (hmem y hy)
    have hfl : (((List.range len).map g).flatMap cells).length = len * z := by rw [flatMap_length hone]; simp
    refine ⟨⟨some a', len, cap⟩, (List.range len).map g, rfl, ⟨⟨hfl, fun j v hv => ⟨a', rfl, ?_⟩⟩, hone, hl, hz⟩, hm, hmem⟩
    have hj : j < len * z := by rw [← hfl]; exact (List.getElem?_eq_some_iff.1 hv).1
    have hi : j / z < len := (Nat.div_lt_iff_lt_mul hz).2 hj
    have hr : j % z < z := Nat.mod_lt _ hz
    obtain ⟨h1, h2⟩ := hg (j / z) hi
    have hr' : j % z < (cells (g (j / z))).length := by rw [hlen _ h1]; exact hr
    have e := flatMap_get (cs := cells) (i := j / z) (j := j % z) hone (by simp [hi]) (List.getElem?_eq_getElem hr')
    rw [Nat.div_add_mod', hv] at e
    have := h2 (j % z) _ (List.getElem?_eq_getElem hr')
    rwa [add_add, Nat.div_add_mod', ← e] at this

theorem okWide_struct {r : Reach} {b0 : Nat} {t : TypeId} {fs : Array Field} {v : Value} (ht : P.underlying t = some (.struct fs)) (h : Value.okWide P w r b0 t v) : ∃ cs, v = .agg cs := by
  simp only [Value.okWide, ht] at h
  obtain ⟨cs, h1, _⟩ := h
  exact ⟨cs, h1⟩
/-- A type's fields: their types and where they stand. -/
def structB (P : Program) (t : TypeId) (l : List (TypeId × Nat)) : Bool := match P.underlying t with
  | some (.struct fs) => (fs.toList.map fun f => (f.type, f.offset)) == l
  | _ => false
theorem structB_of {t : TypeId} {l : List (TypeId × Nat)} (h : structB P t l = true) : ∃ fs, P.underlying t = some (.struct fs) ∧ fs.toList.map (fun f => (f.type, f.offset)) = l := by
  unfold structB at h
  split at h
  · rename_i fs hu
    exact ⟨fs, hu, by simpa using h⟩
  · cases h
theorem okWide_structB {r : Reach} {b0 : Nat} {t : TypeId} {l : List (TypeId × Nat)} {v : Value} (ht : structB P t l = true) (h : Value.okWide P w r b0 t v) : ∃ cs, v = .agg cs := by
  obtain ⟨fs, hu, _⟩ := structB_of ht
  exact okWide_struct hu h
theorem trod_fields {t : TypeId} {l : List (TypeId × Nat)} {fuel : Nat} {cs : List Value} {x : DataW H × List MemPlace} (ht : structB P t l = true) (h : DataW.trod enc P w base spare held fuel t cs = some x) :
    cs.length = P.cellsOf t ∧ ∀ (i : Nat) ty off, l[i]? = some (ty, off) → ∃ n y, DataW.trod enc P w base spare held n ty ((cs.drop off).take (P.cellsOf ty)) = some y := by
  obtain ⟨fs, hu, hl⟩ := structB_of ht
  obtain ⟨xs, n, _, rfl, hlen, hxl, hf⟩ := DataW.trod_struct hu h
  refine ⟨hlen, fun i ty off hi => ?_⟩
  rw [← hl, List.getElem?_map] at hi
  cases hfi : fs.toList[i]? with
  | none => rw [hfi] at hi; cases hi
  | some f =>
    rw [hfi] at hi
    simp only [Option.map_some, Option.some.injEq, Prod.mk.injEq] at hi
    obtain ⟨rfl, rfl⟩ := hi
    have hfi' : fs[i]? = some f := by rw [← Array.getElem?_toList]; exact hfi
    have := hf i f hfi'
    have hlt : i < xs.length := by rw [hxl]; exact (Array.getElem?_eq_some_iff.1 hfi').1
    rw [List.getElem?_eq_getElem hlt] at this
    exact ⟨n, _, this⟩

end
end Go.Sx
namespace Go.Proofs.YtaadgdbegpmlmaaGreat
open Go.Sx Go.RowKit
section
variable {H : Type} {enc : TypeId × Value → H} {w : World} {base : Nat} {spare : Nat → Bool} {held : Bool}
instance : Inhabited BR := ⟨⟨0, ⟨none, 0, 0⟩, []⟩⟩

set_option maxRecDepth 100000 in
theorem open_Key {r : Reach} {b0 : Nat} {v : Value} {d : DataW H} {ps : List MemPlace} (hval : Value.okWide Tryz.prog w r b0 ty_arr32_uint8 v) (hd : DataW.Trod enc Tryz.prog w base spare held ty_arr32_uint8 v d ps) : ∃ (x : Array Value) (k : List Int), v = .agg x ∧ RdKey w x k := by
  obtain ⟨l, rfl, h1, h2⟩ := open_bytes (n := 32) (e := ty_uint8) (by kernel_rfl) (by kernel_rfl) (by kernel_rfl) (by kernel_rfl) hval hd
  exact ⟨_, l, rfl, rfl, h1, h2⟩

end
end Go.Proofs.YtaadgdbegpmlmaaGreat
