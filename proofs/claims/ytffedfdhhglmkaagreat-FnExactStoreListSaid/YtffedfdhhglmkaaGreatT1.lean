/- DropBlob, MinusStores: what the program and the reference answer. -/
import Derived.Test.YtffedfdhhglmkaaGreatT0
namespace Go.Proofs.YtffedfdhhglmkaaGreat
open Go.Sx Go.RowKit

theorem sizeBs_cons (b : PB) (B : List PB) : sizeBs (b :: B) = 1 + b.data.length + sizeBs B := by simp [sizeBs]; omega
theorem sizeBs_sub {A B : List PB} (h : A.Sublist B) : sizeBs A ≤ sizeBs B := by
  induction h with
  | slnil => exact Nat.le_refl _
  | cons a _ ih => rw [sizeBs_cons]; omega
  | cons_cons a _ ih => rw [sizeBs_cons, sizeBs_cons]; omega

/-- What 'store' answers, as a store. -/
theorem ownStore_of {r : Array Value} {B : List PB} {t : Sl} {bs : List BR} {L : List Blk} (hr : r = #[.slice t.a t.n t.c]) (hpb : bs.map BR.pb = B) (hO : OwnBs t bs L) (hok : ∀ b ∈ B, b.ok) : OwnStore r B L := ⟨t, bs, hr, hpb, hO, hok⟩

/-! ### Flags -/
theorem flag_step {xs : List Value} {fl : List Bool} {j : Nat} {v : Bool} (h : xs.take j = bools (fl.take j)) (hj : j < xs.length) (hv : fl[j]? = some v) : (xs.take (j * 1) ++ (Value.bool v).cells.toList ++ xs.drop (j * 1 + 1)).take (j + 1) = bools (fl.take (j + 1)) := by
  rw [Nat.mul_one, List.take_append_of_le_length (by simp [Value.cells]; omega), List.take_of_length_le (by simp [Value.cells]; omega), h, take_succ_get hv]
  simp [bools, Value.cells]

/-! ### DropBlob -/
def dropAns (B : List PB) (k : List Int) : List PB × Int := if validS B then (if k ∈ keysOf B then (B.filter (fun b => !decide (b.key = k)), 0) else ([], 6)) else ([], 1)
theorem dropAns_small (B : List PB) (k : List Int) : sizeBs (dropAns B k).1 ≤ sizeBs B := by
  unfold dropAns
  split
  · split
    · exact sizeBs_sub List.filter_sublist
    · simp [sizeBs]
  · simp [sizeBs]

/-- The reference keeps the blobs of which the flags say so, in new memory. -/
theorem keepL_bs {bs : List BR} {B : List PB} (hpb : bs.map BR.pb = B) (f : List Int → Bool) : (keepL ((keysOf B).map f) bs).map BR.pb = B.filter (fun b => f b.key) := by
  rw [← keepL_map, hpb]
  have e : (keysOf B).map f = B.map (fun b => f b.key) := by unfold keysOf; rw [List.map_map]; rfl
  rw [e]
  exact keepL_filter (fun b => f b.key) B

/-! ### MinusStores -/
def minusAns (A B : List PB) : List PB × Int := if validS A ∧ validS B then (A.filter (fun a => !decide (a.key ∈ keysOf B)), 0) else ([], 1)
theorem minusAns_small (A B : List PB) : sizeBs (minusAns A B).1 ≤ sizeBs A := by
  unfold minusAns
  split
  · exact sizeBs_sub List.filter_sublist
  · simp [sizeBs]

end Go.Proofs.YtffedfdhhglmkaaGreat
