/- LinkPath: what both sides answer, plain. -/
import Derived.Test.YtghoeeiiaadngaaGreatY8
import Derived.Test.YtghoeeiiaadngaaGreatS2
namespace Go.Proofs.YtghoeeiiaadngaaGreat
open Go.Sx Go.RowKit

theorem nodup_le {α : Type} [DecidableEq α] : ∀ {s t : List α}, s.Nodup → (∀ x ∈ s, x ∈ t) → s.length ≤ t.length
  | [], t, _, _ => Nat.zero_le _
  | x :: s, t, hn, hs => by
    rw [List.nodup_cons] at hn
    have hx : x ∈ t := hs x (by simp)
    have ih := nodup_le (s := s) (t := t.erase x) hn.2 fun y hy => (List.mem_erase_of_ne (fun e : y = x => hn.1 (by rw [← e]; exact hy))).2 (hs y (by simp [hy]))
    rw [List.length_erase_of_mem hx] at ih
    have : 0 < t.length := List.length_pos_of_mem hx
    rw [List.length_cons]
    omega

/-- The index of a key. -/
def idxK : List (List Int) → List Int → Nat
  | [], _ => 0
  | x :: r, b => if x = b then 0 else idxK r b + 1
theorem idxK_of {l : List (List Int)} {b : List Int} (hn : l.Nodup) {i : Nat} (h : l[i]? = some b) : idxK l b = i := by
  induction l generalizing i with
  | nil => simp at h
  | cons x r ih =>
    rw [List.nodup_cons] at hn
    show (if x = b then 0 else idxK r b + 1) = i
    cases i with
    | zero => simp at h; rw [if_pos h]
    | succ i =>
      have h' : r[i]? = some b := by simpa using h
      rw [if_neg (fun e : x = b => hn.1 (by rw [e]; exact List.mem_of_getElem? h')), ih hn.2 h']
theorem idxK_get {l : List (List Int)} {b : List Int} (h : b ∈ l) : l[idxK l b]? = some b := by
  induction l with
  | nil => cases h
  | cons x r ih =>
    show (x :: r)[if x = b then 0 else idxK r b + 1]? = some b
    by_cases e : x = b
    · rw [if_pos e]; simp [e]
    · rw [if_neg e]
      have : b ∈ r := by simpa [Ne.symm e] using h
      simpa using ih this

theorem MetOk.le {B : List PB} {x : List Int} {s : List (List Int) × List Nat} (h : MetOk B x s) : s.1.length ≤ B.length := by
  have := nodup_le h.nodup h.inB
  rwa [keysOf_len] at this
theorem getD_of {l : List (List Int)} {i : Nat} {b : List Int} (h : l[i]? = some b) : l.getD i [] = b := by simp [List.getD, h]
theorem getD_get {l : List (List Int)} {i : Nat} (h : i < l.length) : l[i]? = some (l.getD i []) := by simp [List.getD, List.getElem?_eq_getElem h]

def pathOf (F : List (List Int) × List Nat) (b : List Int) : List (List Int) × Int := if b ∈ F.1 then (pathTo F (idxK F.1 b) (idxK F.1 b), 0) else ([], 6)
def pathAns (B : List PB) (a b : List Int) : List (List Int) × Int :=
  if validS B then (if a ∈ keysOf B ∧ b ∈ keysOf B then pathOf (met B a B.length) b else ([], 6)) else ([], 1)

/-- The search has come to its end. -/
theorem met_end {B : List PB} {x : List Int} (hx : x ∈ keysOf B) {i : Nat} (h : (met B x i).1.length ≤ i) (hi : i ≤ (met B x i).1.length) : met B x B.length = met B x i := by
  have := (met_ok hx i).le
  have := met_stop h (B.length - i)
  rwa [show i + (B.length - i) = B.length by omega] at this
/-- What is found early is found at the end, by the same path. -/
theorem met_found {B : List PB} {x : List Int} (hx : x ∈ keysOf B) {i : Nat} {b : List Int} (hi : i ≤ B.length) {j : Nat} (hb : (met B x i).1[j]? = some b) : pathOf (met B x B.length) b = (pathTo (met B x i) j j, 0) := by
  obtain ⟨t, u, h1, h2⟩ := met_mono B x i (B.length - i)
  rw [show i + (B.length - i) = B.length by omega] at h1 h2
  have hj : j < (met B x i).1.length := (List.getElem?_eq_some_iff.1 hb).1
  have hb' : (met B x B.length).1[j]? = some b := by rw [h1, List.getElem?_append_left hj]; exact hb
  unfold pathOf
  rw [if_pos (List.mem_of_getElem? hb'), idxK_of (met_ok hx _).nodup hb', pathTo_grow (met_ok hx i) (met_ok hx _) ⟨t, h1⟩ ⟨u, h2⟩ j hj]

theorem pathTo_mem {B : List PB} {x : List Int} {s : List (List Int) × List Nat} (h : MetOk B x s) : ∀ i, i < s.1.length → (∀ k ∈ pathTo s i i, k ∈ s.1) ∧ (pathTo s i i).length ≤ i + 1 := by
  intro i
  induction i using Nat.strongRecOn with
  | _ i ih =>
    intro hi
    rcases Nat.eq_zero_or_pos i with h0 | h0
    · subst h0
      show (∀ k ∈ [s.1.getD 0 []], k ∈ s.1) ∧ _
      refine ⟨fun k hk => ?_, Nat.le_refl _⟩
      rw [List.mem_singleton.1 hk]
      exact List.mem_of_getElem? (getD_get hi)
    · rw [pathTo_step h h0 hi]
      have hp := h.parD h0 hi
      obtain ⟨h1, h2⟩ := ih _ hp (by omega)
      refine ⟨fun k hk => ?_, by rw [List.length_append]; simp only [List.length_cons, List.length_nil]; omega⟩
      rcases List.mem_append.1 hk with hk | hk
      · exact h1 k hk
      · rw [List.mem_singleton.1 hk]
        exact List.mem_of_getElem? (getD_get hi)
theorem pathAns_mem (B : List PB) (a b : List Int) : ∀ k ∈ (pathAns B a b).1, k ∈ keysOf B := by
  unfold pathAns pathOf
  split
  · split
    · rename_i h
      have ok := met_ok h.1 B.length
      split
      · rename_i hb
        have hl := (List.getElem?_eq_some_iff.1 (idxK_get hb)).1
        exact fun k hk => ok.inB k ((pathTo_mem ok _ hl).1 k hk)
      · simp
    · simp
  · simp
theorem pathAns_len (B : List PB) (a b : List Int) : (pathAns B a b).1.length ≤ B.length := by
  unfold pathAns pathOf
  split
  · split
    · rename_i h
      have ok := met_ok h.1 B.length
      split
      · rename_i hb
        have hl := (List.getElem?_eq_some_iff.1 (idxK_get hb)).1
        have h1 := (pathTo_mem ok _ hl).2
        have h2 := ok.le
        show (pathTo _ _ _).length ≤ _
        omega
      · simp
    · simp
  · simp

end Go.Proofs.YtghoeeiiaadngaaGreat
