/- LinkPath's plain law: the path. -/
import Derived.Test.YtghoeeiiaadngaaGreatY6
namespace Go.Proofs.YtghoeeiiaadngaaGreat
open Go.Sx Go.RowKit

/-- From the start to the key at index i. -/
def pathTo (s : List (List Int) × List Nat) : Nat → Nat → List (List Int)
  | 0, i => [s.1.getD i []]
  | f + 1, i => if i = 0 then [s.1.getD 0 []] else pathTo s f (s.2.getD i 0) ++ [s.1.getD i []]
theorem MetOk.parD {B : List PB} {x : List Int} {s : List (List Int) × List Nat} (h : MetOk B x s) {i : Nat} (h0 : 0 < i) (hi : i < s.1.length) : s.2.getD i 0 < i := by
  have hlt : i < s.2.length := by rw [← h.len]; exact hi
  have : s.2[i]? = some (s.2.getD i 0) := by simp [List.getD, List.getElem?_eq_getElem hlt]
  exact h.par i _ h0 this
theorem pathTo_fuel {B : List PB} {x : List Int} {s : List (List Int) × List Nat} (h : MetOk B x s) : ∀ (f i : Nat), i ≤ f → i < s.1.length → pathTo s f i = pathTo s i i := by
  intro f
  induction f using Nat.strongRecOn with
  | _ f ih =>
    intro i hf hi
    cases f with
    | zero => have : i = 0 := by omega
              subst this; rfl
    | succ f =>
      cases i with
      | zero => rfl
      | succ i =>
        have hp := h.parD (i := i + 1) (by omega) hi
        show (if i + 1 = 0 then _ else pathTo s f (s.2.getD (i + 1) 0) ++ _) = (if i + 1 = 0 then _ else pathTo s i (s.2.getD (i + 1) 0) ++ _)
        rw [if_neg (by omega), if_neg (by omega), ih f (by omega) _ (by omega) (by omega)]
        rcases Nat.lt_or_ge i (f + 1) with h1 | h1
        · rw [ih i h1 _ (by omega) (by omega)]
        · omega
theorem pathTo_step {B : List PB} {x : List Int} {s : List (List Int) × List Nat} (h : MetOk B x s) {i : Nat} (h0 : 0 < i) (hi : i < s.1.length) : pathTo s i i = pathTo s (s.2.getD i 0) (s.2.getD i 0) ++ [s.1.getD i []] := by
  have hp := h.parD h0 hi
  cases i with
  | zero => omega
  | succ i =>
    show (if i + 1 = 0 then _ else pathTo s i (s.2.getD (i + 1) 0) ++ _) = _
    rw [if_neg (by omega), pathTo_fuel h i _ (by omega) (by omega)]
/-- A longer search tells the same path. -/
theorem pathTo_grow {B : List PB} {x : List Int} {s s' : List (List Int) × List Nat} (h : MetOk B x s) (h' : MetOk B x s') (h1 : ∃ t, s'.1 = s.1 ++ t) (h2 : ∃ u, s'.2 = s.2 ++ u) : ∀ i, i < s.1.length → pathTo s' i i = pathTo s i i := by
  obtain ⟨t, h1⟩ := h1
  obtain ⟨u, h2⟩ := h2
  have g1 : ∀ i, i < s.1.length → s'.1.getD i [] = s.1.getD i [] := fun i hi => by rw [h1]; simp only [List.getD]; rw [List.getElem?_append_left hi]
  have g2 : ∀ i, i < s.1.length → s'.2.getD i 0 = s.2.getD i 0 := fun i hi => by rw [h2]; simp only [List.getD]; rw [List.getElem?_append_left (by rw [← h.len]; exact hi)]
  have hl : ∀ i, i < s.1.length → i < s'.1.length := fun i hi => by rw [h1, List.length_append]; omega
  intro i
  induction i using Nat.strongRecOn with
  | _ i ih =>
    intro hi
    rcases Nat.eq_zero_or_pos i with h0 | h0
    · subst h0
      show [s'.1.getD 0 []] = [s.1.getD 0 []]
      rw [g1 0 hi]
    · rw [pathTo_step h h0 hi, pathTo_step h' h0 (hl i hi), g1 i hi, g2 i hi, ih _ (h.parD h0 hi) (by have := h.parD h0 hi; omega)]
end Go.Proofs.YtghoeeiiaadngaaGreat
