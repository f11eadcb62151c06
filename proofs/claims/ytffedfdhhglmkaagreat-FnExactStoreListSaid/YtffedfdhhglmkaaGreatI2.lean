/- The program: a sorted list's keys each once; is it sorted; a key is found; blobs compared, copied; a store's keys, is it valid. -/
import Derived.Test.YtffedfdhhglmkaaGreatI1
import Derived.Test.YtffedfdhhglmkaaGreatM1
namespace Go.Proofs.YtffedfdhhglmkaaGreat
open Go.Sx Go.RowKit

/-! ### Each once -/
theorem snocInd {α : Type} {motive : List α → Prop} (nil : motive []) (snoc : ∀ l x, motive l → motive (l ++ [x])) (l : List α) : motive l := by
  have h : ∀ r : List α, motive r.reverse := by
    intro r
    induction r with
    | nil => exact nil
    | cons x r ih => rw [List.reverse_cons]; exact snoc _ _ ih
  have := h l.reverse
  rwa [List.reverse_reverse] at this
def cmpct (l : List (List Int)) : List (List Int) := (l.foldl (fun (s : List (List Int) × Option (List Int)) x => (if s.2 = some x then s.1 else s.1 ++ [x], some x)) ([], none)).1
theorem cmpct_last (l : List (List Int)) (s : List (List Int) × Option (List Int)) : (l.foldl (fun (s : List (List Int) × Option (List Int)) x => (if s.2 = some x then s.1 else s.1 ++ [x], some x)) s).2 = (l.getLast?).or s.2 := by
  induction l generalizing s with
  | nil => simp
  | cons x l ih =>
    rw [List.foldl_cons, ih]
    cases l with
    | nil => simp
    | cons y l => simp [List.getLast?_cons_cons, List.getLast?_eq_some_getLast]
theorem cmpct_snoc (l : List (List Int)) (x : List Int) : cmpct (l ++ [x]) = if l.getLast? = some x then cmpct l else cmpct l ++ [x] := by
  unfold cmpct
  rw [List.foldl_append]
  simp only [List.foldl_cons, List.foldl_nil, cmpct_last, Option.or_none]
theorem cmpct_nil : cmpct [] = [] := rfl
theorem cmpct_mem (l : List (List Int)) (x : List Int) : x ∈ cmpct l ↔ x ∈ l := by
  induction l using snocInd with
  | nil => simp [cmpct_nil]
  | snoc l y ih =>
    rw [cmpct_snoc]
    split
    · rename_i h
      rw [ih]
      have : y ∈ l := List.mem_of_getLast? h
      constructor
      · intro hx; simp [hx]
      · intro hx
        rcases List.mem_append.1 hx with hx | hx
        · exact hx
        · simp at hx; subst hx; exact this
    · simp [ih]
theorem cmpct_asc {l : List (List Int)} (h : l.Pairwise fun a b => ¬ ltL b a) : Asc (cmpct l) := by
  induction l using snocInd with
  | nil => exact .nil
  | snoc l y ih =>
    obtain ⟨h1, _, h2⟩ := List.pairwise_append.1 h
    rw [cmpct_snoc]
    split
    · exact ih h1
    · rename_i hne
      refine List.pairwise_append.2 ⟨ih h1, by simp, fun a ha b hb => ?_⟩
      simp only [List.mem_singleton] at hb
      subst hb
      have hal := (cmpct_mem l a).1 ha
      rcases not_ltL (h2 a hal b (by simp)) with e | hlt
      · exfalso
        subst e
        -- a is the last one of l, for what stands behind it is not less, and a is not less than that
        obtain ⟨i, hi⟩ := List.mem_iff_getElem?.1 hal
        obtain ⟨hil, hia⟩ := List.getElem?_eq_some_iff.1 hi
        have hl0 : l ≠ [] := by intro h0; subst h0; simp at hal
        have hlast : l.getLast? = some (l[l.length - 1]'(by omega)) := by
          rw [List.getLast?_eq_getElem?, List.getElem?_eq_getElem]
        have hla : l[l.length - 1]'(by omega) = a := by
          by_cases hii : i = l.length - 1
          · subst hii; exact hia
          · have h3 := List.pairwise_iff_getElem.1 h1 i (l.length - 1) hil (by omega) (by omega)
            rw [hia] at h3
            have h4 := h2 (l[l.length - 1]'(by omega)) (List.getElem_mem _) a (by simp)
            rcases not_ltL h3 with e | e
            · exact e.symm ▸ rfl
            · exact absurd e h4
        rw [hla] at hlast
        exact hne hlast
      · exact hlt
theorem cmpct_len (l : List (List Int)) : (cmpct l).length ≤ l.length := by
  induction l using snocInd with
  | nil => simp [cmpct_nil]
  | snoc l y ih =>
    rw [cmpct_snoc]
    split <;> simp <;> omega
theorem cmpct_same {l : List (List Int)} (h : (cmpct l).length = l.length) : cmpct l = l := by
  induction l using snocInd with
  | nil => rfl
  | snoc l y ih =>
    rw [cmpct_snoc] at h ⊢
    have := cmpct_len l
    split at h
    · simp at h; omega
    · rename_i hne
      rw [if_neg hne, ih (by simpa using h)]

end Go.Proofs.YtffedfdhhglmkaaGreat
