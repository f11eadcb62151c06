/- LinkPath: the program's map of predecessors, plain. -/
import Derived.Test.YtghoeeiiaadngaaGreatY7
import Derived.Test.YtghoeeiiaadngaaGreatMP0
namespace Go.Proofs.YtghoeeiiaadngaaGreat
open Go.Sx Go.RowKit

theorem lookup_none {m : List (List Int × Value)} {k : List Int} (h : k ∉ m.map (·.1)) : m.lookup k = none := by
  induction m with
  | nil => rfl
  | cons p m ih =>
    obtain ⟨a, v⟩ := p
    simp only [List.map_cons, List.mem_cons, not_or] at h
    have hb : (k == a) = false := beq_eq_false_iff_ne.2 h.1
    show (match (k == a) with | true => some v | false => m.lookup k) = none
    rw [hb]
    exact ih h.2
theorem lookup_some {m : List (List Int × Value)} {k : List Int} {v : Value} {j : Nat} (hn : (m.map (·.1)).Nodup) (h : m[j]? = some (k, v)) : m.lookup k = some v := by
  induction m generalizing j with
  | nil => simp at h
  | cons p m ih =>
    obtain ⟨a, u⟩ := p
    rw [List.map_cons, List.nodup_cons] at hn
    cases j with
    | zero =>
      simp at h
      obtain ⟨rfl, rfl⟩ := h
      exact List.lookup_cons_self
    | succ j =>
      have h' : m[j]? = some (k, v) := by simpa using h
      have hka : k ≠ a := fun hh => hn.1 (by rw [← hh]; exact List.mem_map.2 ⟨_, List.mem_of_getElem? h', rfl⟩)
      have hb : (k == a) = false := beq_eq_false_iff_ne.2 hka
      show (match (k == a) with | true => some u | false => m.lookup k) = some v
      rw [hb]
      exact ih hn.2 h'

/-- By whom each key was met. -/
def cameOf (s : List (List Int) × List Nat) : List (List Int × Value) := (List.range s.1.length).map fun j => (s.1.getD j [], arrK (s.1.getD (s.2.getD j 0) []))
theorem cameOf_keys (s : List (List Int) × List Nat) : (cameOf s).map (·.1) = s.1 := by
  apply List.ext_getElem?
  intro j
  unfold cameOf
  rw [List.map_map, List.getElem?_map]
  rcases Nat.lt_or_ge j s.1.length with hj | hj
  · rw [List.getElem?_range hj]
    simp [List.getD, List.getElem?_eq_getElem hj]
  · rw [List.getElem?_eq_none (by simpa using hj), List.getElem?_eq_none hj]
    rfl
theorem cameOf_get {s : List (List Int) × List Nat} {j : Nat} (hj : j < s.1.length) : (cameOf s)[j]? = some (s.1.getD j [], arrK (s.1.getD (s.2.getD j 0) [])) := by
  unfold cameOf
  rw [List.getElem?_map, List.getElem?_range hj]
  rfl
theorem cameOf_new {s : List (List Int) × List Nat} {l : List Int} {i : Nat} (hl : s.1.length = s.2.length) (hp : ∀ j, j < s.1.length → s.2.getD j 0 < s.1.length) (hi : i < s.1.length) : cameOf (s.1 ++ [l], s.2 ++ [i]) = cameOf s ++ [(l, arrK (s.1.getD i []))] := by
  have g1 : ∀ j, j < s.1.length → (s.1 ++ [l]).getD j [] = s.1.getD j [] := fun j hj => by simp only [List.getD]; rw [List.getElem?_append_left hj]
  have g2 : ∀ j, j < s.1.length → (s.2 ++ [i]).getD j 0 = s.2.getD j 0 := fun j hj => by simp only [List.getD]; rw [List.getElem?_append_left (by omega)]
  have g3 : (s.1 ++ [l]).getD s.1.length [] = l := by simp [List.getD]
  have g4 : (s.2 ++ [i]).getD s.1.length 0 = i := by rw [hl]; simp [List.getD]
  unfold cameOf
  simp only [List.length_append, List.length_cons, List.length_nil, Nat.zero_add]
  rw [List.range_succ, List.map_append]
  congr 1
  · refine List.map_congr_left fun j hj => ?_
    have hj' := List.mem_range.1 hj
    rw [g1 j hj', g2 j hj', g1 _ (hp j hj')]
  · simp only [List.map_cons, List.map_nil]
    rw [g3, g4, g1 i hi]
end Go.Proofs.YtghoeeiiaadngaaGreat
