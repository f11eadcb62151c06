/- The kinds of values of which laws speak: read, own. Stores, blobs, keys. What the walks of the exact laws need: groups of blocks pulled to the front and put back, sizes. Printed in part. Arguments opened at their cells: slices of anything, slices of bytes, stores. More kinds of values of which laws speak: raw blobs; keys compared. IsPartOf, GetBlob, MinusStores, DropBlob: what the program and the reference answer. DropBlob, MinusStores: what the program and the reference answer. IsPartOf: what the program and the reference answer. Printed in part by a program of this claim's author. What a blob links to: keys that lie in bytes; a map's node read. Both sides. More kinds of values of which laws speak: slices of keys, slices of counts. Rules for slices.Insert: room made by append, copies within one slice, do two slices overlap. -/
import Derived.ChangeSame
import Derived.Lib.Overlaps
import Derived.Test.YtkifkdkjljcclaaGreatPkLTor16
import Derived.Test.YtkifkdkjljcclaaGreatPkLTor06
import Derived.Test.YtkifkdkjljcclaaGreatPkLTor05
namespace Go.Proofs.YtkifkdkjljcclaaGreat
open Go.Sx Go.RowKit

def RdKey (_ : World) (r : Array Value) (k : List Int) : Prop := r = (u8s k).toArray ∧ keyOk k
theorem RdKey.below {w w' : World} {r : Array Value} {k : List Int} (h : RdKey w r k) (_ : Below w.heap.size w w') : RdKey w' r k := h
theorem RdKey.at {w w' : World} {ls : List Blk} {r : Array Value} {k : List Int} (h : RdKey w r k) (_ : At w w' ls) : RdKey w' r k := h
def OwnKey (r : Array Value) (k : List Int) (L : List Blk) : Prop := r = (u8s k).toArray ∧ keyOk k ∧ L = []
theorem OwnKey.rd {w0 w : World} {r : Array Value} {k : List Int} {L ls : List Blk} (h : OwnKey r k L) (_ : At w0 w (L ++ ls)) : RdKey w r k := ⟨h.1, h.2.1⟩
def RdStore (w : World) (r : Array Value) (B : List PB) : Prop := ∃ (s : Sl) (bs : List BR), r = #[.slice s.a s.n s.c] ∧ bs.map BR.pb = B ∧ BsR w s bs
theorem RdStore.below {w w' : World} {r : Array Value} {B : List PB} (h : RdStore w r B) (hb : Below w.heap.size w w') : RdStore w' r B := let ⟨s, bs, h1, h2, h3⟩ := h; ⟨s, bs, h1, h2, h3.below hb⟩
theorem RdStore.at {w w' : World} {ls : List Blk} {r : Array Value} {B : List PB} (h : RdStore w r B) (hA : At w w' ls) : RdStore w' r B := h.below hA.below
def OwnStore (r : Array Value) (B : List PB) (L : List Blk) : Prop := ∃ (s : Sl) (bs : List BR), r = #[.slice s.a s.n s.c] ∧ bs.map BR.pb = B ∧ OwnBs s bs L ∧ ∀ b ∈ B, b.ok
theorem OwnStore.rd {w0 w : World} {r : Array Value} {B : List PB} {L ls : List Blk} (h : OwnStore r B L) (hA : At w0 w (L ++ ls)) : RdStore w r B := by
  obtain ⟨s, bs, h1, h2, h3, h4⟩ := h
  exact ⟨s, bs, h1, h2, h3.rd hA (by rw [h2]; exact h4)⟩
theorem OwnStore.nil : OwnStore #[.slice none 0 0] [] [] := ⟨⟨none, 0, 0⟩, [], rfl, rfl, ⟨[], [], rfl, OwnS.nil _ _, .nil⟩, by simp⟩
theorem data_le_sizeBs {B : List PB} {b : PB} (h : b ∈ B) : b.data.length ≤ sizeBs B := by
  induction B with
  | nil => cases h
  | cons c B ih =>
    have hc : sizeBs (c :: B) = 1 + c.data.length + sizeBs B := by simp [sizeBs]; omega
    cases h with
    | head => omega
    | tail _ h => have := ih h; omega
theorem RdStore.ok {w : World} {r : Array Value} {B : List PB} (h : RdStore w r B) : ∀ b ∈ B, b.ok := by
  obtain ⟨s, bs, _, rfl, h3⟩ := h
  exact h3.pbs
def RawStore (w : World) (r : Array Value) (B : List PB) : Prop := ∃ (s : Sl) (bs : List BR), r = #[.slice s.a s.n s.c] ∧ bs.map BR.pb = B ∧ BsR w s bs ∧ s.c ≤ maxLen ∧ ∀ b ∈ bs, b.d.c ≤ maxLen
theorem RawStore.rd {w : World} {r : Array Value} {B : List PB} (h : RawStore w r B) : RdStore w r B := let ⟨s, bs, h1, h2, h3, _⟩ := h; ⟨s, bs, h1, h2, h3⟩

def RdBlob (w : World) (r : Array Value) (B : PB) : Prop := ∃ b : BR, r = b.cells.toArray ∧ b.pb = B ∧ b.Ok w
theorem RdBlob.below {w w' : World} {r : Array Value} {B : PB} (h : RdBlob w r B) (hb : Below w.heap.size w w') : RdBlob w' r B := let ⟨b, h1, h2, h3⟩ := h; ⟨b, h1, h2, h3.below hb⟩
theorem RdBlob.at {w w' : World} {ls : List Blk} {r : Array Value} {B : PB} (h : RdBlob w r B) (hA : At w w' ls) : RdBlob w' r B := h.below hA.below
def OwnBlob (r : Array Value) (B : PB) (L : List Blk) : Prop := ∃ b : BR, r = b.cells.toArray ∧ b.pb = B ∧ OwnS ty_uint8 1 b.d (u8s b.data) L ∧ B.ok
theorem OwnBlob.rd {w0 w : World} {r : Array Value} {B : PB} {L ls : List Blk} (h : OwnBlob r B L) (hA : At w0 w (L ++ ls)) : RdBlob w r B := by
  obtain ⟨b, h1, rfl, h3, h4⟩ := h
  exact ⟨b, h1, rfl, ownS_bytes h3 hA (List.sublist_append_left _ _) h4.1, h4.2.1, h4.2.2⟩
theorem OwnBlob.nil : OwnBlob #[.int .u8 0, .slice none 0 0] ⟨0, []⟩ [] := ⟨⟨0, ⟨none, 0, 0⟩, []⟩, rfl, rfl, OwnS.nil _ _, (fun b hb => absurd hb (by simp)), by decide, by decide⟩
def sizeBlob (b : PB) : Nat := b.data.length
end Go.Proofs.YtkifkdkjljcclaaGreat

namespace Go.Sx
open Go.RowKit (Below)
variable {P : Program} {R : Value → World → Prop} {w0 w : World}

theorem r_joinI {σ : Type} {emb : σ → List Value} {rest : σ → World → Prop} {body : (List Value → World → Prop) → World → Prop} (hb : body (fun vs w' => ∃ s', emb s' = vs ∧ rest s' w') w) : ((real P R).join σ emb rest body : World → Prop) w := ⟨rest, fun _ _ h => h, hb⟩
theorem At.pl1 {V G1 X : List Blk} (h : At w0 w (V ++ (G1 ++ X))) : At w0 w (G1 ++ (V ++ X)) := h.rot
theorem At.ps1 {V G1 X : List Blk} (h : At w0 w (G1 ++ (V ++ X))) : At w0 w (V ++ (G1 ++ X)) := h.rot
theorem At.dr1 {V G1 X : List Blk} (h : At w0 w (V ++ (G1 ++ X))) : At w0 w (V ++ X) := h.pl1.right
theorem At.pl2 {V G1 G2 X : List Blk} (h : At w0 w (V ++ (G1 ++ (G2 ++ X)))) : At w0 w (G2 ++ (V ++ (G1 ++ X))) := by
  rw [← List.append_assoc V G1] at h
  have h := At.pl1 h
  rwa [List.append_assoc V G1] at h
theorem At.ps2 {V G1 G2 X : List Blk} (h : At w0 w (G2 ++ (V ++ (G1 ++ X)))) : At w0 w (V ++ (G1 ++ (G2 ++ X))) := by
  rw [← List.append_assoc V G1] at h
  have h := At.ps1 h
  rwa [List.append_assoc V G1] at h
theorem At.dr2 {V G1 G2 X : List Blk} (h : At w0 w (V ++ (G1 ++ (G2 ++ X)))) : At w0 w (V ++ (G1 ++ X)) := h.pl2.right
theorem At.pl3 {V G1 G2 G3 X : List Blk} (h : At w0 w (V ++ (G1 ++ (G2 ++ (G3 ++ X))))) : At w0 w (G3 ++ (V ++ (G1 ++ (G2 ++ X)))) := by
  rw [← List.append_assoc V G1] at h
  have h := At.pl2 h
  rwa [List.append_assoc V G1] at h
theorem At.dr3 {V G1 G2 G3 X : List Blk} (h : At w0 w (V ++ (G1 ++ (G2 ++ (G3 ++ X))))) : At w0 w (V ++ (G1 ++ (G2 ++ X))) := h.pl3.right
theorem At.pl4 {V G1 G2 G3 G4 X : List Blk} (h : At w0 w (V ++ (G1 ++ (G2 ++ (G3 ++ (G4 ++ X)))))) : At w0 w (G4 ++ (V ++ (G1 ++ (G2 ++ (G3 ++ X))))) := by
  rw [← List.append_assoc V G1] at h
  have h := At.pl3 h
  rwa [List.append_assoc V G1] at h
theorem At.dr4 {V G1 G2 G3 G4 X : List Blk} (h : At w0 w (V ++ (G1 ++ (G2 ++ (G3 ++ (G4 ++ X)))))) : At w0 w (V ++ (G1 ++ (G2 ++ (G3 ++ X)))) := h.pl4.right
theorem At.pl5 {V G1 G2 G3 G4 G5 X : List Blk} (h : At w0 w (V ++ (G1 ++ (G2 ++ (G3 ++ (G4 ++ (G5 ++ X))))))) : At w0 w (G5 ++ (V ++ (G1 ++ (G2 ++ (G3 ++ (G4 ++ X)))))) := by
  rw [← List.append_assoc V G1] at h
  have h := At.pl4 h
  rwa [List.append_assoc V G1] at h
theorem At.pl6 {V G1 G2 G3 G4 G5 G6 X : List Blk} (h : At w0 w (V ++ (G1 ++ (G2 ++ (G3 ++ (G4 ++ (G5 ++ (G6 ++ X)))))))) : At w0 w (G6 ++ (V ++ (G1 ++ (G2 ++ (G3 ++ (G4 ++ (G5 ++ X))))))) := by
  rw [← List.append_assoc V G1] at h
  have h := At.pl5 h
  rwa [List.append_assoc V G1] at h
end Go.Sx
namespace Go.Proofs.YtkifkdkjljcclaaGreat
open Go.Sx Go.RowKit
theorem RdKey.sz {w : World} {r : Array Value} {k : List Int} (h : RdKey w r k) : r.size = 32 := by rw [h.1]; simp [h.2.1]
theorem RdKey.one {w : World} {r : Array Value} {k : List Int} (h : RdKey w r k) : ∀ v ∈ r.toList, oneC v = true := by rw [h.1]; simpa using u8s_one
theorem OwnKey.sz {r : Array Value} {k : List Int} {L : List Blk} (h : OwnKey r k L) : r.size = 32 := by rw [h.1]; simp [h.2.1.1]
theorem OwnKey.one {r : Array Value} {k : List Int} {L : List Blk} (h : OwnKey r k L) : ∀ v ∈ r.toList, oneC v = true := by rw [h.1]; simpa using u8s_one
theorem RawStore.sz {w : World} {r : Array Value} {B : List PB} (h : RawStore w r B) : r.size = 1 := by obtain ⟨s, bs, rfl, _⟩ := h; rfl
theorem RawStore.one {w : World} {r : Array Value} {B : List PB} (h : RawStore w r B) : ∀ v ∈ r.toList, oneC v = true := by obtain ⟨s, bs, rfl, _⟩ := h; simp [oneC]
theorem OwnStore.sz {r : Array Value} {B : List PB} {L : List Blk} (h : OwnStore r B L) : r.size = 1 := by obtain ⟨s, bs, rfl, _⟩ := h; rfl
theorem OwnStore.one {r : Array Value} {B : List PB} {L : List Blk} (h : OwnStore r B L) : ∀ v ∈ r.toList, oneC v = true := by obtain ⟨s, bs, rfl, _⟩ := h; simp [oneC]
theorem OwnBlob.sz {r : Array Value} {B : PB} {L : List Blk} (h : OwnBlob r B L) : r.size = 2 := by obtain ⟨b, rfl, _⟩ := h; rfl
theorem OwnBlob.one {r : Array Value} {B : PB} {L : List Blk} (h : OwnBlob r B L) : ∀ v ∈ r.toList, oneC v = true := by obtain ⟨b, rfl, _⟩ := h; simpa using cells_one b
end Go.Proofs.YtkifkdkjljcclaaGreat

namespace Go.Sx
open Go.ChangeShapes Go.WideShapes Go.ChangeAt Go.RowKit Go.Deep

section
variable {H : Type} {enc : TypeId × Value → H} {P : Program} {w : World} {base : Nat} {spare : Nat → Bool} {held : Bool}

end
end Go.Sx
namespace Go.Proofs.YtkifkdkjljcclaaGreat
open Go.Sx Go.RowKit
section
variable {H : Type} {enc : TypeId × Value → H} {w : World} {base : Nat} {spare : Nat → Bool} {held : Bool}
instance : Inhabited BR := ⟨⟨0, ⟨none, 0, 0⟩, []⟩⟩

end
end Go.Proofs.YtkifkdkjljcclaaGreat

namespace Go.Sx
theorem At.sw2 {w0 w : World} {a b : Blk} {l : List Blk} (h : At w0 w (a :: b :: l)) : At w0 w (b :: a :: l) := h.perm (List.Perm.swap _ _ _)
end Go.Sx
namespace Go.Proofs.YtkifkdkjljcclaaGreat
open Go.Sx Go.RowKit

def RawBlob (w : World) (r : Array Value) (B : PB) : Prop := ∃ b : BR, r = b.cells.toArray ∧ b.pb = B ∧ b.Ok w ∧ b.d.c ≤ maxLen
theorem RawBlob.rd {w : World} {r : Array Value} {B : PB} (h : RawBlob w r B) : RdBlob w r B := let ⟨b, h1, h2, h3, _⟩ := h; ⟨b, h1, h2, h3⟩
theorem RawBlob.sz {w : World} {r : Array Value} {B : PB} (h : RawBlob w r B) : r.size = 2 := by obtain ⟨b, rfl, _⟩ := h; rfl
theorem RawBlob.one {w : World} {r : Array Value} {B : PB} (h : RawBlob w r B) : ∀ v ∈ r.toList, oneC v = true := by obtain ⟨b, rfl, _⟩ := h; simpa using cells_one b
end Go.Proofs.YtkifkdkjljcclaaGreat

namespace Go.Proofs.YtkifkdkjljcclaaGreat
open Go.Sx Go.RowKit

theorem keysOf_get {B : List PB} {i : Nat} {b : PB} (h : B[i]? = some b) : (keysOf B)[i]? = some b.key := by simp [keysOf, h]

theorem pb_get {bs : List BR} {B : List PB} (h : bs.map BR.pb = B) {i : Nat} {b : BR} (hb : bs[i]? = some b) : B[i]? = some b.pb := by rw [← h, List.getElem?_map, hb]; rfl

end Go.Proofs.YtkifkdkjljcclaaGreat

namespace Go.Proofs.YtkifkdkjljcclaaGreat
open Go.Sx Go.RowKit

theorem ownStore_of {r : Array Value} {B : List PB} {t : Sl} {bs : List BR} {L : List Blk} (hr : r = #[.slice t.a t.n t.c]) (hpb : bs.map BR.pb = B) (hO : OwnBs t bs L) (hok : ∀ b ∈ B, b.ok) : OwnStore r B L := ⟨t, bs, hr, hpb, hO, hok⟩

theorem T_sl_bool : SlT Tryz.prog ty_sl_bool ty_bool 1 1 := slT_of (by kernel_rfl)
theorem flag_step {xs : List Value} {fl : List Bool} {j : Nat} {v : Bool} (h : xs.take j = bools (fl.take j)) (hj : j < xs.length) (hv : fl[j]? = some v) : (xs.take (j * 1) ++ (Value.bool v).cells.toList ++ xs.drop (j * 1 + 1)).take (j + 1) = bools (fl.take (j + 1)) := by
  rw [Nat.mul_one, List.take_append_of_le_length (by simp [Value.cells]; omega), List.take_of_length_le (by simp [Value.cells]; omega), h, take_succ_get hv]
  simp [bools, Value.cells]

def dropAns (B : List PB) (k : List Int) : List PB × Int := if validS B then (if k ∈ keysOf B then (B.filter (fun b => !decide (b.key = k)), 0) else ([], 6)) else ([], 1)
theorem keepL_bs {bs : List BR} {B : List PB} (hpb : bs.map BR.pb = B) (f : List Int → Bool) : (keepL ((keysOf B).map f) bs).map BR.pb = B.filter (fun b => f b.key) := by
  rw [← keepL_map, hpb]
  have e : (keysOf B).map f = B.map (fun b => f b.key) := by unfold keysOf; rw [List.map_map]; rfl
  rw [e]
  exact keepL_filter (fun b => f b.key) B

theorem c_spec_DropBlob {w : World} {r : Array Value} {B : List PB} {q : Array Value} {k : List Int} (hr : RdStore w r B) (hq : RdKey w q k) (hz : sizeBs B ≤ 1073741824) :
    Ret Tryz.prog n_spec_DropBlob [.agg r, .agg q] w [.agg, .int .i64] (fun x w' => ∃ L, At w w' L ∧ OwnStore x.1 (dropAns B k).1 L ∧ x.2 = (dropAns B k).2) := spec_DropBlob_calls _ _ (by
  unfold spec_DropBlob
  have hBok := hr.ok
  obtain ⟨s, bs, rfl, hpb, hs⟩ := hr
  obtain ⟨rfl, hk⟩ := hq
  have hl := le_sizeBs B
  have hbl : bs.length = B.length := by rw [← hpb]; simp
  refine r_new (At.refl w) fun b2 w1 h => ?_
  refine r_new h fun b3 w2 h => ?_
  refine r_new h fun b4 w3 h => ?_
  refine r_call h (c_l05Open (p := ⟨b2, 0, none⟩) (fun n => ldOk_own h 2 rfl 0 rfl (by simp [Sh.emb])) (hs.at h.nil)) fun r w4 h4 hb4 ⟨hr2, b, hr1, hr⟩ => ?_
  rw [hpb] at hr hr2
  by_cases hv : validS B
  · rw [hr2, decide_eq_true hv]
    obtain ⟨L, hL, hO⟩ := hr hv
    refine r_false rfl ?_
    have rd : ∀ {w' : World} {ls : List Blk}, At w w' (L ++ ls) → SpecR w' ⟨b, 0, none⟩ (keysOf B) bs := fun hA => hO.rd hA (keysOf_ok _) (fun b hb => (hs.at hA.nil).ok b hb)
    have h := (h.join hL).swap
    refine r_ldA h 1 rfl rfl (by simp [Value.cells, hk.1]) ?_
    rw [hr1]
    refine r_call h (c_spec_find (rd h.swap) hv.2.2 hk (by simp [keysOf]; omega)) fun r w5 h5 hb5 hr => ?_
    subst hr
    by_cases hm : k ∈ keysOf B
    · rw [if_pos hm]
      refine r_if ((posK (keysOf B) k : Int) < 0) rfl (fun hh => by omega) (fun _ => ?_)
      have hd : ∀ b ∈ bs, b.data.length ≤ 35184372088832 := fun b hb => by
        have := hv.2.1 b.pb (by rw [← hpb]; exact List.mem_map_of_mem hb)
        simp only [BR.pb] at this
        omega
      obtain ⟨fl, hfl⟩ : ∃ fl, fl = (keysOf B).map (fun x => !decide (x = k)) := ⟨_, rfl⟩
      have hfll : fl.length = B.length := by rw [hfl]; simp [keysOf]
      obtain ⟨sk, sb, e1, e2, hK, hB⟩ := (rd h5.swap).ex
      have hkn := hK.n
      rw [keysOf_len] at hkn
      refine r_dp rfl ?_
      refine r_ldN sk (e1 1) ?_
      refine r_mkO T_sl_bool h5 (by omega) (by omega) fun y xs Ly w6 h6 hOy hyn ⟨py, hpy⟩ => ?_
      refine r_loop (σ := Int) (fun i w' => ∃ (j : Nat) (xs : List Value) (Ly : List Blk), i = j ∧ j ≤ B.length ∧ OwnS ty_bool 1 y xs Ly ∧ xs.take j = bools (fl.take j) ∧ At w w' (Ly ++ ([(b4, #[.slice none 0 0], ty_impl_Store), (b3, (u8s k).toArray, ty_impl_Key), (b2, #[.slice s.a s.n s.c], ty_impl_Store)] ++ L))) (fun i _ => (y.n - i).toNat) 0 rfl
        ⟨0, xs, Ly, rfl, by omega, hOy, by simp [bools], h6⟩ ?_
      rintro i w7 ⟨j, xs, Ly, rfl, hj, hOy, htk, h⟩
      refine r_any fun _ => ?_
      have hxl := hOy.1
      refine r_if ((j : Int) < (y.n : Int)) rfl (fun hlt => ?_) (fun hge => ?_)
      · refine r_ix py hpy (by omega) (by omega) ?_
        obtain ⟨x, hx⟩ : ∃ x, (keysOf B)[j]? = some x := ⟨_, List.getElem?_eq_getElem (by rw [keysOf_len]; omega)⟩
        have hflj : fl[j]? = some (!decide (x = k)) := by rw [hfl]; simp [hx]
        have hval : ((j : Int) != (posK (keysOf B) k : Int)) = !decide (x = k) := by
          have : (j : Int) = (posK (keysOf B) k : Int) ↔ x = k := by
            constructor
            · intro e
              have e' : j = posK (keysOf B) k := by omega
              have := (posK_mem hv.2.2).1 hm
              rw [← e', hx] at this
              exact Option.some.inj this
            · rintro rfl
              have := asc_inj hv.2.2 hx ((posK_mem hv.2.2).1 hm)
              omega
          by_cases hxk : x = k
          · rw [decide_eq_true hxk, this.2 hxk]; simp
          · rw [decide_eq_false hxk]; simpa using fun e => hxk (this.1 e)
        rw [hval]
        refine r_stO h hOy hpy (j * 1) (by simp) (by simp [Value.cells]) (by omega) (by simp [Value.cells, oneC]) fun w8 L8 h8 hO8 => ?_
        exact ⟨((j + 1 : Nat) : Int), by rw [w64 (by omega) (by omega)]; rfl, ⟨j + 1, _, L8, rfl, by omega, hO8, flag_step htk (by omega) hflj, h8⟩, by omega⟩
      · have : j = B.length := by omega
        subst this
        rw [List.take_of_length_le (by omega), List.take_of_length_le (by omega)] at htk
        subst htk
        refine r_call h (c_keep (rd h.right.swap) (by rw [keysOf_len]; omega) (hOy.sl h (List.sublist_append_left _ _)) (by omega) (by omega)) fun r w8 h8 _ ⟨b', L', hr, hL', hO'⟩ => ?_
        subst hr
        have hA := h.join hL'
        have hkl := keepL_len fl bs
        refine r_call h8 (c_spec_store (hO'.rd hA (fun x hx => keysOf_ok B x ((keepL_sub _ _).subset hx)) (fun x hx => (hs.at hA.nil).ok x ((keepL_sub _ _).subset hx))) (by omega) (fun x hx => hd x ((keepL_sub _ _).subset hx))) fun r w9 _ _ ⟨t, bs', L'', hr, hpb', hL'', hO''⟩ => ?_
        rw [hfl, keepL_bs hpb (fun x => !decide (x = k))] at hpb'
        have hOS := ownStore_of hr hpb' hO'' (fun b hb => hBok b (List.mem_filter.1 hb).1)
        have h9 := (h8.join hL'').pl2
        refine r_stA h9 0 rfl rfl hOS.sz rfl hOS.one fun w10 h10 => ?_
        refine r_ldA h10 0 rfl rfl hOS.sz ?_
        have hans : dropAns B k = (B.filter (fun b => !decide (b.key = k)), 0) := by unfold dropAns; rw [if_pos hv, if_pos hm]
        rw [hans]
        exact r_ret h10.nil (_, _) rfl ⟨L'', (At.right (A := [_, _, _]) h10).left, hOS, rfl⟩
    · rw [if_neg hm]
      refine r_true rfl ?_
      refine r_pur (sh := .agg) _ run_noStore ?_
      refine r_stA h5 0 rfl rfl rfl rfl (by simp [oneC]) fun w8 h8 => ?_
      refine r_ldA h8 0 rfl rfl rfl ?_
      have hans : dropAns B k = ([], 6) := by unfold dropAns; rw [if_pos hv, if_neg hm]
      rw [hans]
      exact r_ret h8.nil (_, _) rfl ⟨[], h8.nil, OwnStore.nil, rfl⟩
  · rw [hr2, decide_eq_false hv]
    refine r_true rfl ?_
    refine r_pur (sh := .agg) _ run_noStore ?_
    refine r_stA h4 0 rfl rfl rfl rfl (by simp [oneC]) fun w5 h5 => ?_
    refine r_ldA h5 0 rfl rfl rfl ?_
    have hans : dropAns B k = ([], 1) := by unfold dropAns; rw [if_neg hv]
    rw [hans]
    exact r_ret h5.nil (_, _) rfl ⟨[], h5.nil, OwnStore.nil, rfl⟩)

end Go.Proofs.YtkifkdkjljcclaaGreat

namespace Go.Proofs.YtkifkdkjljcclaaGreat
open Go.Sx Go.RowKit

theorem ShopO.ex {b : Nat} {ks : List (List Int)} {bs : List BR} {L : List Blk} (h : ShopO b ks bs L) (hk : ∀ k ∈ ks, keyOk k) : ∃ sk sb : Sl, ∀ {w0 w : World} {ls : List Blk}, At w0 w (L ++ ls) → (∀ b ∈ bs, b.Ok w) →
    (∀ n, ldOk w n ((⟨b, 0, none⟩ : Addr).add 0) .slice sk) ∧ (∀ n, ldOk w n ((⟨b, 0, none⟩ : Addr).add 1) .slice sb) ∧ KsR w sk ks ∧ BsR w sb bs := by
  obtain ⟨sk, sb, Lk, Lb, rfl, h1, h2⟩ := h
  refine ⟨sk, sb, fun hA hb => ⟨fun n => ldOk_own hA 0 rfl 0 rfl (by simp [Sh.emb]), fun n => ldOk_own hA 0 rfl 1 rfl (by simp [Sh.emb]), ownS_ks h1 hA ?_ hk, ⟨h2.of hA ?_ (fun b _ => cells_len b) (by omega), hb⟩⟩⟩
  · exact ((List.sublist_append_left _ _).trans (List.sublist_cons_self _ _)).trans (List.sublist_append_left _ _)
  · exact ((List.sublist_append_right _ _).trans (List.sublist_cons_self _ _)).trans (List.sublist_append_left _ _)
theorem SpecO.ex {b : Nat} {ks : List (List Int)} {bs : List BR} {L : List Blk} (h : SpecO b ks bs L) (hk : ∀ k ∈ ks, keyOk k) : ∃ sk sb : Sl, ∀ {w0 w : World} {ls : List Blk}, At w0 w (L ++ ls) → (∀ b ∈ bs, b.Ok w) →
    (∀ n, ldOk w n ((⟨b, 0, none⟩ : Addr).add 1) .slice sk) ∧ (∀ n, ldOk w n ((⟨b, 0, none⟩ : Addr).add 0) .slice sb) ∧ KsR w sk ks ∧ BsR w sb bs := by
  obtain ⟨sk, sb, Lk, Lb, rfl, h1, h2⟩ := h
  refine ⟨sk, sb, fun hA hb => ⟨fun n => ldOk_own hA 0 rfl 1 rfl (by simp [Sh.emb]), fun n => ldOk_own hA 0 rfl 0 rfl (by simp [Sh.emb]), ownS_ks h1 hA ?_ hk, ⟨h2.of hA ?_ (fun b _ => cells_len b) (by omega), hb⟩⟩⟩
  · exact ((List.sublist_append_right _ _).trans (List.sublist_append_right _ _)).trans (List.sublist_append_left _ _)
  · exact ((List.sublist_append_left _ _).trans (List.sublist_append_right _ _)).trans (List.sublist_append_left _ _)

end Go.Proofs.YtkifkdkjljcclaaGreat

namespace Go.Proofs.YtkifkdkjljcclaaGreat
open Go.Sx Go.RowKit

def part32 (d : List Int) (o : Nat) : List Int := (d.drop o).take 32
def keysN (d : List Int) (o n : Nat) : List (List Int) := (List.range n).map fun i => part32 d (o + 32 * i)
theorem keysN_len (d : List Int) (o n : Nat) : (keysN d o n).length = n := by simp [keysN]
def nodeOk (d : List Int) : Prop := 65 ≤ d.length ∧ 65 + (d.getD 64 0).toNat ≤ d.length ∧ 1 ≤ (d.getD 64 0).toNat ∧ (d.getD 64 0).toNat ≤ 24 ∧ d.length - (65 + (d.getD 64 0).toNat) ≤ 64
instance (d : List Int) : Decidable (nodeOk d) := inferInstanceAs (Decidable (_ ∧ _))
def nodeName (d : List Int) : List Int := (d.drop 65).take (d.getD 64 0).toNat
def zeroNode : Array Value := (List.replicate 64 (Value.int .u8 0) ++ [Value.string ⟨#[]⟩, Value.string ⟨#[]⟩]).toArray
theorem run_mkEntry (a b : ByteArray) (w : World) : (Instr.build ty_impl_Entry #[(0, (Value.string a)), (1, (Value.string b))]).run Tryz.prog w = .ok (.agg #[Value.string a, Value.string b]) w := by kernel_rfl
theorem run_mkNodeF (f g : Nat → Value) (a b : ByteArray) (w : World) : (Instr.build ty_impl_MapNode #[(0, (.agg ((List.range 32).map f).toArray)), (1, (.agg ((List.range 32).map g).toArray)), (2, (.agg #[Value.string a, Value.string b]))]).run Tryz.prog w = .ok (.agg ((List.range 32).map f ++ (List.range 32).map g ++ [Value.string a, Value.string b]).toArray) w := by kernel_rfl
theorem list32 {l : List Value} (h : l.length = 32) : l = (List.range 32).map fun i => l.getD i default := by
  apply List.ext_getElem?
  intro i
  rcases Nat.lt_or_ge i 32 with hi | hi
  · simp [hi, List.getD, List.getElem?_eq_getElem (show i < l.length by omega)]
  · rw [List.getElem?_eq_none (by omega), List.getElem?_eq_none (by simp; omega)]
theorem run_mkNode {l r : List Value} (hl : l.length = 32) (hr : r.length = 32) (a b : ByteArray) (w : World) : (Instr.build ty_impl_MapNode #[(0, (.agg l.toArray)), (1, (.agg r.toArray)), (2, (.agg #[Value.string a, Value.string b]))]).run Tryz.prog w = .ok (.agg (l ++ r ++ [Value.string a, Value.string b]).toArray) w := by
  rw [list32 hl, list32 hr]
  exact run_mkNodeF _ _ a b w

theorem c_within (a b c : Int) : RetP Tryz.prog n_impl_within [.int .i64 a, .int .i64 b, .int .i64 c] [.bool] (decide (a ≥ b ∧ a ≤ c)) := fun w => impl_within_calls a b c (by
  unfold impl_within
  refine r_if (a ≥ b) rfl (fun h1 => r_retP ?_) (fun h1 => r_retP ?_)
  · by_cases h2 : a ≤ c <;> simp [h1, h2, valL, embL, Sh.emb]
  · simp [h1, valL, embL, Sh.emb])
theorem c_l00In (a b c : Int) : RetP Tryz.prog n_spec_l00In [.int .i64 a, .int .i64 b, .int .i64 c] [.bool] (decide (a ≥ b ∧ a ≤ c)) := fun w => spec_l00In_calls a b c (by
  unfold spec_l00In
  refine r_if (a ≥ b) rfl (fun h1 => r_retP ?_) (fun h1 => r_retP ?_)
  · by_cases h2 : a ≤ c <;> simp [h1, h2, valL, embL, Sh.emb]
  · simp [h1, valL, embL, Sh.emb])
def nameOk (n : Nat) : Bool := decide (1 ≤ n ∧ n ≤ 24)
theorem c_l04Name (x : ByteArray) : RetP Tryz.prog n_spec_l04Name [Value.string x] [.bool] (nameOk x.size) := fun w => spec_l04Name_calls x (by
  unfold spec_l04Name
  refine r_callp (c_l00In _ 1 24) ?_
  refine r_retP ?_
  have : decide ((x.size : Int) ≥ 1 ∧ (x.size : Int) ≤ 24) = nameOk x.size := by unfold nameOk; congr 1; apply propext; omega
  rw [this]
  rfl)
theorem bsl_sub {w : World} {s : Sl} {d : List Int} (hs : BSl w s d) (l k : Nat) (h1 : l ≤ k) (h2 : k ≤ d.length) : SlAt w ⟨if s.c = l then s.a else s.a.map (·.add (l * 1)), k - l, s.c - l⟩ 1 (u8s ((d.drop l).take (k - l))) := by
  have := hs.sl.slice (by omega) l k h1 (by rw [hs.n]; exact h2) hs.cap
  simpa [u8s, List.map_take, List.map_drop] using this

end Go.Proofs.YtkifkdkjljcclaaGreat

namespace Go.Proofs.YtkifkdkjljcclaaGreat
open Go.Sx Go.RowKit

theorem flat_len {ks : List (List Int)} (h : ∀ k ∈ ks, keyOk k) : ks.flatten.length = 32 * ks.length := by
  induction ks with
  | nil => rfl
  | cons k r ih =>
    rw [List.flatten_cons, List.length_append, (h k (by simp)).1, ih (fun x hx => h x (by simp [hx])), List.length_cons]
    omega
theorem flat_get {ks : List (List Int)} (h : ∀ k ∈ ks, keyOk k) {i j : Nat} {k : List Int} (hi : ks[i]? = some k) (hj : j < 32) : ks.flatten[32 * i + j]? = k[j]? := by
  induction ks generalizing i with
  | nil => simp at hi
  | cons a r ih =>
    have ha := (h a (by simp)).1
    rw [List.flatten_cons]
    cases i with
    | zero =>
      simp at hi
      subst hi
      rw [List.getElem?_append_left (by omega)]
      simp
    | succ i =>
      rw [List.getElem?_append_right (by omega), ha, show 32 * (i + 1) + j - 32 = 32 * i + j by omega]
      exact ih (fun x hx => h x (by simp [hx])) (by simpa using hi)

def RdKeyS (w : World) (s : Sl) (ks : List (List Int)) : Prop := KsR w s ks
theorem RdKeyS.at {w w' : World} {ls : List Blk} {s : Sl} {ks : List (List Int)} (h : RdKeyS w s ks) (hA : At w w' ls) : RdKeyS w' s ks := KsR.at h hA
def OwnKeyS (s : Sl) (ks : List (List Int)) (L : List Blk) : Prop := OwnS ty_impl_Key 32 s (ks.flatMap u8s) L ∧ ∀ k ∈ ks, keyOk k
theorem OwnKeyS.rd {w0 w : World} {s : Sl} {ks : List (List Int)} {L ls : List Blk} (h : OwnKeyS s ks L) (hA : At w0 w (L ++ ls)) : RdKeyS w s ks := ownS_ks h.1 hA (List.sublist_append_left _ _) h.2
def RawKeyS (w : World) (s : Sl) (ks : List (List Int)) : Prop := KsR w s ks ∧ s.n ≤ s.c ∧ s.c ≤ maxLen
theorem RawKeyS.rd {w : World} {s : Sl} {ks : List (List Int)} (h : RawKeyS w s ks) : RdKeyS w s ks := h.1
def sizeKeyS (ks : List (List Int)) : Nat := ks.length
theorem OwnKeyS.none : OwnKeyS ⟨none, 0, 0⟩ [] [] := ⟨OwnS.nil _ _, by simp⟩
def i64s (l : List Int) : List Value := l.map (Value.int .i64)
theorem i64s_len (l : List Int) : (i64s l).length = l.length := by simp [i64s]
theorem i64s_get {l : List Int} {i : Nat} (h : i < l.length) : (i64s l)[i]? = some (.int .i64 (l.getD i 0)) := by simp [i64s, List.getD, h]
def RdInt64S (w : World) (s : Sl) (l : List Int) : Prop := SlAt w s 1 (i64s l)
theorem RdInt64S.n {w : World} {s : Sl} {l : List Int} (h : RdInt64S w s l) : s.n = l.length := by have := SlAt.len h; rw [i64s_len] at this; omega
theorem RdInt64S.at {w w' : World} {ls : List Blk} {s : Sl} {l : List Int} (h : RdInt64S w s l) (hA : At w w' ls) : RdInt64S w' s l := SlAt.below h hA.below
theorem RdInt64S.get {w : World} {s : Sl} {l : List Int} (h : RdInt64S w s l) {i : Nat} (hi : i < l.length) : ∃ p, s.a = some p ∧ w.cell? (p.add i) = some (.int .i64 (l.getD i 0)) := SlAt.cell h i _ (i64s_get hi)
def OwnInt64S (s : Sl) (l : List Int) (L : List Blk) : Prop := OwnS ty_int64 1 s (i64s l) L
theorem OwnInt64S.rd {w0 w : World} {s : Sl} {l : List Int} {L ls : List Blk} (h : OwnInt64S s l L) (hA : At w0 w (L ++ ls)) : RdInt64S w s l := OwnS.sl h hA (List.sublist_append_left _ _)
theorem OwnInt64S.none : OwnInt64S ⟨none, 0, 0⟩ [] [] := OwnS.nil _ _
end Go.Proofs.YtkifkdkjljcclaaGreat

namespace Go.Sx
open Go.RowKit (Below)
variable {P : Program} {R : Value → World → Prop} {w0 w : World} {ls L : List Blk} {e z : Nat} {s : Sl} {xs : List Value}

theorem r_chk3 {h1 h2 h3 : Held} {k : World → Prop} (a : ldOk w h1.n h1.p h1.sh h1.x) (b : ldOk w h2.n h2.p h2.sh h2.x) (c : ldOk w h3.n h3.p h3.sh h3.x) (h : k w) : ((real P R).chk [h1, h2, h3] k : World → Prop) w :=
  ⟨fun x hx => by
    rcases List.mem_cons.1 hx with e | hx
    · rw [e]; exact a
    rcases List.mem_cons.1 hx with e | hx
    · rw [e]; exact b
    · rw [List.mem_singleton.1 hx]; exact c, h⟩

theorem OwnS.grow (h : OwnS e z s xs L) (n : Nat) (h1 : s.n ≤ n) (h2 : n ≤ s.c) : ∃ ys, OwnS e z ⟨s.a, n, s.c⟩ ys L ∧ ys.take (s.n * z) = xs := by
  obtain ⟨hl, h⟩ := h
  rcases h with ⟨ha, h0, hc, rfl⟩ | ⟨g, cur, rfl, ha, hnc, hcm, hcs, htk⟩
  · have hn : n = 0 := by omega
    subst hn
    refine ⟨[], ⟨by simp, .inl ⟨ha, rfl, hc, rfl⟩⟩, ?_⟩
    rw [h0] at hl
    rw [List.take_nil, List.eq_nil_of_length_eq_zero (by omega : xs.length = 0)]
  · have hb : n * z ≤ s.c * z := Nat.mul_le_mul_right _ h2
    have hb1 : s.n * z ≤ n * z := Nat.mul_le_mul_right _ h1
    refine ⟨cur.toList.take (n * z), ⟨by simp; omega, .inr ⟨g, cur, rfl, ha, h2, hcm, hcs, ?_⟩⟩, ?_⟩
    · simp only [List.length_take, Array.length_toList]
      rw [show min (n * z) cur.size = n * z by omega]
    · rw [List.take_take, show min (s.n * z) (n * z) = s.n * z by omega, ← hl]
      exact htk

end Go.Sx
