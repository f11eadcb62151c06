/- Plain: lists of bytes in order, lists of keys in ascending order, each once. -/
import Derived.Test.YtffedfdhhglmkaaGreatV1
namespace Go.Proofs.YtffedfdhhglmkaaGreat

def cmpL : List Int → List Int → Int
  | [], [] => 0
  | [], _ :: _ => -1
  | _ :: _, [] => 1
  | a :: x, b :: y => if a < b then -1 else if b < a then 1 else cmpL x y

theorem cmpL_range (a b : List Int) : cmpL a b = -1 ∨ cmpL a b = 0 ∨ cmpL a b = 1 := by
  induction a generalizing b with
  | nil => cases b <;> simp [cmpL]
  | cons x a ih =>
    cases b with
    | nil => simp [cmpL]
    | cons y b =>
      simp only [cmpL]
      split
      · simp
      · split
        · simp
        · exact ih b
theorem cmpL_self (a : List Int) : cmpL a a = 0 := by
  induction a with
  | nil => rfl
  | cons x a ih => simp [cmpL, ih]
theorem cmpL_eq {a b : List Int} : cmpL a b = 0 ↔ a = b := by
  constructor
  · induction a generalizing b with
    | nil => cases b <;> simp [cmpL]
    | cons x a ih =>
      cases b with
      | nil => simp [cmpL]
      | cons y b =>
        simp only [cmpL]
        split
        · simp
        · split
          · simp
          · intro h
            rw [ih h, show x = y by omega]
  · rintro rfl
    exact cmpL_self a
theorem cmpL_neg (a b : List Int) : cmpL b a = - cmpL a b := by
  induction a generalizing b with
  | nil => cases b <;> simp [cmpL]
  | cons x a ih =>
    cases b with
    | nil => simp [cmpL]
    | cons y b =>
      simp only [cmpL, ih b]
      split <;> split <;> first | rfl | omega | skip
theorem cmpL_trans {a b c : List Int} (h1 : cmpL a b < 0) (h2 : cmpL b c < 0) : cmpL a c < 0 := by
  induction a generalizing b c with
  | nil =>
    cases b with
    | nil => simp [cmpL] at h1
    | cons y b =>
      cases c with
      | nil => simp [cmpL] at h2
      | cons z c => simp [cmpL]
  | cons x a ih =>
    cases b with
    | nil => simp [cmpL] at h1
    | cons y b =>
      cases c with
      | nil => simp [cmpL] at h2
      | cons z c =>
        simp only [cmpL] at h1 h2 ⊢
        by_cases hxy : x < y
        · by_cases hyz : z < y
          · have : ¬ y < z := by omega
            simp [hyz, this] at h2
          · simp [show x < z by omega]
        · by_cases hyx : y < x
          · simp [hxy, hyx] at h1
          · have : x = y := by omega
            subst this
            simp at h1
            by_cases hxz : x < z
            · simp [hxz]
            · by_cases hzx : z < x
              · simp [hxz, hzx] at h2
              · simp [hxz, hzx] at h2 ⊢
                exact ih h1 h2

def ltL (a b : List Int) : Prop := cmpL a b < 0
instance (a b : List Int) : Decidable (ltL a b) := inferInstanceAs (Decidable (cmpL a b < 0))
theorem ltL_irrefl (a : List Int) : ¬ ltL a a := by unfold ltL; rw [cmpL_self]; omega
theorem ltL_trans {a b c : List Int} (h1 : ltL a b) (h2 : ltL b c) : ltL a c := cmpL_trans h1 h2
theorem ltL_asymm {a b : List Int} (h : ltL a b) : ¬ ltL b a := fun k => ltL_irrefl a (ltL_trans h k)
theorem ltL_total {a b : List Int} (h : a ≠ b) : ltL a b ∨ ltL b a := by
  unfold ltL
  rw [cmpL_neg a b]
  have := cmpL_range a b
  have h0 : cmpL a b ≠ 0 := fun k => h (cmpL_eq.1 k)
  omega
theorem ltL_ne {a b : List Int} (h : ltL a b) : a ≠ b := fun k => ltL_irrefl a (k ▸ h)
theorem not_ltL {a b : List Int} (h : ¬ ltL a b) : b = a ∨ ltL b a := by
  by_cases hab : b = a
  · exact .inl hab
  · exact .inr ((ltL_total hab).resolve_right h)

/-- In ascending order, each once. -/
def Asc (l : List (List Int)) : Prop := l.Pairwise ltL
theorem Asc.nodup {l : List (List Int)} (h : Asc l) : l.Nodup := List.Pairwise.imp ltL_ne h
theorem asc_ext {l m : List (List Int)} (h1 : Asc l) (h2 : Asc m) (h : ∀ x, x ∈ l ↔ x ∈ m) : l = m := by
  induction l generalizing m with
  | nil =>
    cases m with
    | nil => rfl
    | cons b m => exact absurd ((h b).2 (by simp)) (by simp)
  | cons a l ih =>
    cases m with
    | nil => exact absurd ((h a).1 (by simp)) (by simp)
    | cons b m =>
      obtain ⟨ha, hl⟩ := List.pairwise_cons.1 h1
      obtain ⟨hb, hm⟩ := List.pairwise_cons.1 h2
      have hab : a = b := by
        rcases List.mem_cons.1 ((h a).1 (by simp)) with h' | h'
        · exact h'
        · rcases List.mem_cons.1 ((h b).2 (by simp)) with h'' | h''
          · exact h''.symm
          · exact absurd (hb a h') (ltL_asymm (ha b h''))
      subst hab
      rw [ih hl hm fun x => ?_]
      constructor
      · intro hx
        rcases List.mem_cons.1 ((h x).1 (by simp [hx])) with h' | h'
        · exact absurd (ha x hx) (by rw [h']; exact ltL_irrefl a)
        · exact h'
      · intro hx
        rcases List.mem_cons.1 ((h x).2 (by simp [hx])) with h' | h'
        · exact absurd (hb x hx) (by rw [h']; exact ltL_irrefl a)
        · exact h'

/-- Behind how many keys a key stands. -/
def posK (ks : List (List Int)) (k : List Int) : Nat := (ks.takeWhile fun x => decide (ltL x k)).length
theorem posK_le (ks : List (List Int)) (k : List Int) : posK ks k ≤ ks.length := (List.takeWhile_sublist _).length_le
theorem posK_cons (x : List Int) (ks : List (List Int)) (k : List Int) : posK (x :: ks) k = if ltL x k then posK ks k + 1 else 0 := by
  unfold posK
  by_cases h : ltL x k <;> simp [List.takeWhile_cons, h]
theorem posK_lt {ks : List (List Int)} (h : Asc ks) {k : List Int} {i : Nat} {x : List Int} (hx : ks[i]? = some x) : i < posK ks k ↔ ltL x k := by
  induction ks generalizing i with
  | nil => simp at hx
  | cons a ks ih =>
    obtain ⟨ha, hk⟩ := List.pairwise_cons.1 h
    rw [posK_cons]
    cases i with
    | zero =>
      simp at hx
      subst hx
      by_cases hl : ltL a k <;> simp [hl]
    | succ i =>
      have hx' : ks[i]? = some x := by simpa using hx
      by_cases hl : ltL a k
      · rw [if_pos hl, Nat.succ_lt_succ_iff]
        exact ih hk hx'
      · rw [if_neg hl]
        constructor
        · omega
        · intro hxk
          exact absurd (ltL_trans (ha x (List.mem_of_getElem? hx')) hxk) hl
/-- A key that is there stands at its place. -/
theorem posK_mem {ks : List (List Int)} (h : Asc ks) {k : List Int} : k ∈ ks ↔ ks[posK ks k]? = some k := by
  constructor
  · intro hk
    obtain ⟨i, hi⟩ := List.mem_iff_getElem?.1 hk
    have h1 : ¬ i < posK ks k := fun hh => ltL_irrefl k ((posK_lt h hi).1 hh)
    have hile : i < ks.length := (List.getElem?_eq_some_iff.1 hi).1
    have hp : ∃ y, ks[posK ks k]? = some y := ⟨_, List.getElem?_eq_getElem (show posK ks k < ks.length by omega)⟩
    obtain ⟨y, hy⟩ := hp
    have h2 : ¬ ltL y k := fun hh => by have := (posK_lt h hy).2 hh; omega
    by_cases hip : posK ks k = i
    · rw [hip]; exact hi
    · have hlt : posK ks k < i := by omega
      have := List.pairwise_iff_getElem.1 h (posK ks k) i (by omega) hile hlt
      rw [(List.getElem?_eq_some_iff.1 hy).2, (List.getElem?_eq_some_iff.1 hi).2] at this
      exact absurd this h2
  · exact List.mem_of_getElem?
theorem asc_inj {ks : List (List Int)} (h : Asc ks) {i j : Nat} {k : List Int} (hi : ks[i]? = some k) (hj : ks[j]? = some k) : i = j := by
  obtain ⟨i1, i2⟩ := List.getElem?_eq_some_iff.1 hi
  obtain ⟨j1, j2⟩ := List.getElem?_eq_some_iff.1 hj
  have hp := List.pairwise_iff_getElem.1 h
  rcases Nat.lt_trichotomy i j with hij | hij | hij
  · have := hp i j i1 j1 hij
    rw [i2, j2] at this
    exact absurd this (ltL_irrefl k)
  · exact hij
  · have := hp j i j1 i1 hij
    rw [i2, j2] at this
    exact absurd this (ltL_irrefl k)

/-- Neighbours in order: all in order. -/
theorem asc_of_next {ks : List (List Int)} (h : ∀ i x y, ks[i]? = some x → ks[i + 1]? = some y → ltL x y) : Asc ks := by
  induction ks with
  | nil => exact .nil
  | cons a ks ih =>
    have hk : Asc ks := ih fun i x y hx hy => h (i + 1) x y (by simpa using hx) (by simpa using hy)
    refine List.pairwise_cons.2 ⟨fun x hx => ?_, hk⟩
    cases ks with
    | nil => simp at hx
    | cons b ks =>
      have hab : ltL a b := h 0 a b rfl rfl
      rcases List.mem_cons.1 hx with rfl | hx
      · exact hab
      · exact ltL_trans hab ((List.pairwise_cons.1 hk).1 x hx)

end Go.Proofs.YtffedfdhhglmkaaGreat
