/- Plain: lists of bytes in order, lists of keys in ascending order, each once. Written by the kit's tool: the bodies of slices.SortFunc's family in this program are those of the library's contract. -/
import Derived.Shelf.SlSortCmp.WholeK
import Derived.Test.YthaecdelaifccaaGreatProg
import Derived.Test.YthaecdelaifccaaGreatPkLSM12
namespace Go.Proofs.YthaecdelaifccaaGreat

def cmpL : List Int → List Int → Int
  | [], [] => 0
  | [], _ :: _ => -1
  | _ :: _, [] => 1
  | a :: x, b :: y => if a < b then -1 else if b < a then 1 else cmpL x y

theorem cmpL_range (a b : List Int) : cmpL a b = -1 ∨ cmpL a b = 0 ∨ cmpL a b = 1 := by
  induction a generalizing b with
  | nil => cases b <;> simp [cmpL]
  | cons x a ih =>
    cases b with
    | nil => simp [cmpL]
    | cons y b =>
      simp only [cmpL]
      split
      · simp
      · split
        · simp
        · exact ih b
theorem cmpL_self (a : List Int) : cmpL a a = 0 := by
  induction a with
  | nil => rfl
  | cons x a ih => simp [cmpL, ih]
theorem cmpL_eq {a b : List Int} : cmpL a b = 0 ↔ a = b := by
  constructor
  · induction a generalizing b with
    | nil => cases b <;> simp [cmpL]
    | cons x a ih =>
      cases b with
      | nil => simp [cmpL]
      | cons y b =>
        simp only [cmpL]
        split
        · simp
        · split
          · simp
          · intro h
            rw [ih h, show x = y by omega]
  · rintro rfl
    exact cmpL_self a
theorem cmpL_neg (a b : List Int) : cmpL b a = - cmpL a b := by
  induction a generalizing b with
  | nil => cases b <;> simp [cmpL]
  | cons x a ih =>
    cases b with
    | nil => simp [cmpL]
    | cons y b =>
      simp only [cmpL, ih b]
      split <;> split <;> first | rfl | omega | skip
theorem cmpL_trans {a b c : List Int} (h1 : cmpL a b < 0) (h2 : cmpL b c < 0) : cmpL a c < 0 := by
  induction a generalizing b c with
  | nil =>
    cases b with
    | nil => simp [cmpL] at h1
    | cons y b =>
      cases c with
      | nil => simp [cmpL] at h2
      | cons z c => simp [cmpL]
  | cons x a ih =>
    cases b with
    | nil => simp [cmpL] at h1
    | cons y b =>
      cases c with
      | nil => simp [cmpL] at h2
      | cons z c =>
        simp only [cmpL] at h1 h2 ⊢
        by_cases hxy : x < y
        · by_cases hyz : z < y
          · have : ¬ y < z := by omega
            simp [hyz, this] at h2
          · simp [show x < z by omega]
        · by_cases hyx : y < x
          · simp [hxy, hyx] at h1
          · have : x = y := by omega
            subst this
            simp at h1
            by_cases hxz : x < z
            · simp [hxz]
            · by_cases hzx : z < x
              · simp [hxz, hzx] at h2
              · simp [hxz, hzx] at h2 ⊢
                exact ih h1 h2

def ltL (a b : List Int) : Prop := cmpL a b < 0
instance (a b : List Int) : Decidable (ltL a b) := inferInstanceAs (Decidable (cmpL a b < 0))
theorem ltL_irrefl (a : List Int) : ¬ ltL a a := by unfold ltL; rw [cmpL_self]; omega
theorem ltL_trans {a b c : List Int} (h1 : ltL a b) (h2 : ltL b c) : ltL a c := cmpL_trans h1 h2
theorem ltL_asymm {a b : List Int} (h : ltL a b) : ¬ ltL b a := fun k => ltL_irrefl a (ltL_trans h k)
theorem ltL_total {a b : List Int} (h : a ≠ b) : ltL a b ∨ ltL b a := by
  unfold ltL
  rw [cmpL_neg a b]
  have := cmpL_range a b
  have h0 : cmpL a b ≠ 0 := fun k => h (cmpL_eq.1 k)
  omega
theorem ltL_ne {a b : List Int} (h : ltL a b) : a ≠ b := fun k => ltL_irrefl a (k ▸ h)
theorem not_ltL {a b : List Int} (h : ¬ ltL a b) : b = a ∨ ltL b a := by
  by_cases hab : b = a
  · exact .inl hab
  · exact .inr ((ltL_total hab).resolve_right h)

/-- In ascending order, each once. -/
def Asc (l : List (List Int)) : Prop := l.Pairwise ltL
theorem Asc.nodup {l : List (List Int)} (h : Asc l) : l.Nodup := List.Pairwise.imp ltL_ne h
theorem asc_ext {l m : List (List Int)} (h1 : Asc l) (h2 : Asc m) (h : ∀ x, x ∈ l ↔ x ∈ m) : l = m := by
  induction l generalizing m with
  | nil =>
    cases m with
    | nil => rfl
    | cons b m => exact absurd ((h b).2 (by simp)) (by simp)
  | cons a l ih =>
    cases m with
    | nil => exact absurd ((h a).1 (by simp)) (by simp)
    | cons b m =>
      obtain ⟨ha, hl⟩ := List.pairwise_cons.1 h1
      obtain ⟨hb, hm⟩ := List.pairwise_cons.1 h2
      have hab : a = b := by
        rcases List.mem_cons.1 ((h a).1 (by simp)) with h' | h'
        · exact h'
        · rcases List.mem_cons.1 ((h b).2 (by simp)) with h'' | h''
          · exact h''.symm
          · exact absurd (hb a h') (ltL_asymm (ha b h''))
      subst hab
      rw [ih hl hm fun x => ?_]
      constructor
      · intro hx
        rcases List.mem_cons.1 ((h x).1 (by simp [hx])) with h' | h'
        · exact absurd (ha x hx) (by rw [h']; exact ltL_irrefl a)
        · exact h'
      · intro hx
        rcases List.mem_cons.1 ((h x).2 (by simp [hx])) with h' | h'
        · exact absurd (hb x hx) (by rw [h']; exact ltL_irrefl a)
        · exact h'

/-- Behind how many keys a key stands. -/
def posK (ks : List (List Int)) (k : List Int) : Nat := (ks.takeWhile fun x => decide (ltL x k)).length
theorem posK_le (ks : List (List Int)) (k : List Int) : posK ks k ≤ ks.length := (List.takeWhile_sublist _).length_le
theorem posK_cons (x : List Int) (ks : List (List Int)) (k : List Int) : posK (x :: ks) k = if ltL x k then posK ks k + 1 else 0 := by
  unfold posK
  by_cases h : ltL x k <;> simp [List.takeWhile_cons, h]
theorem posK_lt {ks : List (List Int)} (h : Asc ks) {k : List Int} {i : Nat} {x : List Int} (hx : ks[i]? = some x) : i < posK ks k ↔ ltL x k := by
  induction ks generalizing i with
  | nil => simp at hx
  | cons a ks ih =>
    obtain ⟨ha, hk⟩ := List.pairwise_cons.1 h
    rw [posK_cons]
    cases i with
    | zero =>
      simp at hx
      subst hx
      by_cases hl : ltL a k <;> simp [hl]
    | succ i =>
      have hx' : ks[i]? = some x := by simpa using hx
      by_cases hl : ltL a k
      · rw [if_pos hl, Nat.succ_lt_succ_iff]
        exact ih hk hx'
      · rw [if_neg hl]
        constructor
        · omega
        · intro hxk
          exact absurd (ltL_trans (ha x (List.mem_of_getElem? hx')) hxk) hl
/-- A key that is there stands at its place. -/
theorem posK_mem {ks : List (List Int)} (h : Asc ks) {k : List Int} : k ∈ ks ↔ ks[posK ks k]? = some k := by
  constructor
  · intro hk
    obtain ⟨i, hi⟩ := List.mem_iff_getElem?.1 hk
    have h1 : ¬ i < posK ks k := fun hh => ltL_irrefl k ((posK_lt h hi).1 hh)
    have hile : i < ks.length := (List.getElem?_eq_some_iff.1 hi).1
    have hp : ∃ y, ks[posK ks k]? = some y := ⟨_, List.getElem?_eq_getElem (show posK ks k < ks.length by omega)⟩
    obtain ⟨y, hy⟩ := hp
    have h2 : ¬ ltL y k := fun hh => by have := (posK_lt h hy).2 hh; omega
    by_cases hip : posK ks k = i
    · rw [hip]; exact hi
    · have hlt : posK ks k < i := by omega
      have := List.pairwise_iff_getElem.1 h (posK ks k) i (by omega) hile hlt
      rw [(List.getElem?_eq_some_iff.1 hy).2, (List.getElem?_eq_some_iff.1 hi).2] at this
      exact absurd this h2
  · exact List.mem_of_getElem?
/-- Neighbours in order: all in order. -/
theorem asc_of_next {ks : List (List Int)} (h : ∀ i x y, ks[i]? = some x → ks[i + 1]? = some y → ltL x y) : Asc ks := by
  induction ks with
  | nil => exact .nil
  | cons a ks ih =>
    have hk : Asc ks := ih fun i x y hx hy => h (i + 1) x y (by simpa using hx) (by simpa using hy)
    refine List.pairwise_cons.2 ⟨fun x hx => ?_, hk⟩
    cases ks with
    | nil => simp at hx
    | cons b ks =>
      have hab : ltL a b := h 0 a b rfl rfl
      rcases List.mem_cons.1 hx with rfl | hx
      · exact hab
      · exact ltL_trans hab ((List.pairwise_cons.1 hk).1 x hx)

end Go.Proofs.YthaecdelaifccaaGreat

namespace Go.Proofs
open Go.Shelf
def Tryz.sortL_ren : Go.Shelf.Ren := ⟨fun | 6 => 98 | 15 => 115 | 14 => 114 | 28 => 130 | 29 => 131 | 20 => 122 | 21 => 123 | 22 => 124 | 23 => 125 | 24 => 126 | 25 => 127 | 26 => 128 | 27 => 129 | 46 => 135 | 47 => 136 | 48 => 137 | 49 => 138 | 50 => 139 | 57 => 140 | n => n, fun | 22 => 84 | 24 => 32 | 25 => 121 | 3 => 3 | 39 => 153 | 0 => 0 | 53 => 135 | 55 => 149 | 4 => 4 | 46 => 162 | 45 => 161 | 50 => 124 | 5 => 5 | 9 => 9 | 66 => 172 | 70 => 176 | 76 => 178 | 77 => 179 | n => n, fun | n => n⟩
theorem Tryz.sortL : Go.Proofs.SlLaysF0.n6 Tryz.prog Tryz.sortL_ren := {
  mixed := by kernel_rfl
  f6 := ⟨Tryz.f98.name, by decide, Tryz.func98.trans (congrArg some (by kernel_rfl))⟩
  f14 := ⟨Tryz.f114.name, by decide, Tryz.func114.trans (congrArg some (by kernel_rfl))⟩
  f15 := Tryz.func115.trans (congrArg some (by kernel_rfl))
  f20 := ⟨Tryz.f122.name, by decide, Tryz.func122.trans (congrArg some (by kernel_rfl))⟩
  f21 := ⟨Tryz.f123.name, by decide, Tryz.func123.trans (congrArg some (by kernel_rfl))⟩
  f22 := ⟨Tryz.f124.name, by decide, Tryz.func124.trans (congrArg some (by kernel_rfl))⟩
  f23 := ⟨Tryz.f125.name, by decide, Tryz.func125.trans (congrArg some (by kernel_rfl))⟩
  f24 := ⟨Tryz.f126.name, by decide, Tryz.func126.trans (congrArg some (by kernel_rfl))⟩
  f25 := ⟨Tryz.f127.name, by decide, Tryz.func127.trans (congrArg some (by kernel_rfl))⟩
  f26 := ⟨Tryz.f128.name, by decide, Tryz.func128.trans (congrArg some (by kernel_rfl))⟩
  f27 := ⟨Tryz.f129.name, by decide, Tryz.func129.trans (congrArg some (by kernel_rfl))⟩
  f28 := Tryz.func130.trans (congrArg some (by kernel_rfl))
  f29 := Tryz.func131.trans (congrArg some (by kernel_rfl))
  f46 := ⟨Tryz.f135.name, by decide, Tryz.func135.trans (congrArg some (by kernel_rfl))⟩
  f47 := Tryz.func136.trans (congrArg some (by kernel_rfl))
  f48 := Tryz.func137.trans (congrArg some (by kernel_rfl))
  f49 := ⟨Tryz.f138.name, by decide, Tryz.func138.trans (congrArg some (by kernel_rfl))⟩
  f50 := ⟨Tryz.f139.name, by decide, Tryz.func139.trans (congrArg some (by kernel_rfl))⟩
  f57 := ⟨Tryz.f140.name, by decide, Tryz.func140.trans (congrArg some (by kernel_rfl))⟩
  t0 := Tryz.underlying0
  a0 := Tryz.isAgg0
  z0 := Tryz.sizeOf0
  v0 := Tryz.zeroValue0
  t3 := Tryz.underlying3
  a3 := Tryz.isAgg3
  z3 := Tryz.sizeOf3
  v3 := Tryz.zeroValue3
  t4 := Tryz.underlying4
  a4 := Tryz.isAgg4
  z4 := Tryz.sizeOf4
  v4 := Tryz.zeroValue4
  t5 := Tryz.underlying5
  a5 := Tryz.isAgg5
  z5 := Tryz.sizeOf5
  v5 := Tryz.zeroValue5
  t9 := Tryz.underlying9
  a9 := Tryz.isAgg9
  z9 := Tryz.sizeOf9
  v9 := Tryz.zeroValue9
  t22 := Tryz.underlying84
  a22 := Tryz.isAgg84
  z22 := Tryz.sizeOf84
  v22 := Tryz.zeroValue84
  t25 := Tryz.underlying121
  a25 := Tryz.isAgg121
  z25 := Tryz.sizeOf121
  v25 := Tryz.zeroValue121
  t39 := Tryz.underlying153
  a39 := Tryz.isAgg153
  z39 := Tryz.sizeOf153
  v39 := Tryz.zeroValue153
  t45 := Tryz.underlying161
  a45 := Tryz.isAgg161
  z45 := Tryz.sizeOf161
  v45 := Tryz.zeroValue161
  t46 := Tryz.underlying162
  a46 := Tryz.isAgg162
  z46 := Tryz.sizeOf162
  v46 := Tryz.zeroValue162
  t50 := Tryz.underlying124
  a50 := Tryz.isAgg124
  z50 := Tryz.sizeOf124
  v50 := Tryz.zeroValue124
  t53 := Tryz.underlying135
  a53 := Tryz.isAgg135
  z53 := Tryz.sizeOf135
  v53 := Tryz.zeroValue135
  t55 := Tryz.underlying149
  a55 := Tryz.isAgg149
  z55 := Tryz.sizeOf149
  v55 := Tryz.zeroValue149
  t66 := Tryz.underlying172
  a66 := Tryz.isAgg172
  z66 := Tryz.sizeOf172
  v66 := Tryz.zeroValue172
  t70 := Tryz.underlying176
  a70 := Tryz.isAgg176
  z70 := Tryz.sizeOf176
  v70 := Tryz.zeroValue176
  t76 := Tryz.underlying178
  a76 := Tryz.isAgg178
  z76 := Tryz.sizeOf178
  v76 := Tryz.zeroValue178
  t77 := Tryz.underlying179
  a77 := Tryz.isAgg179
  z77 := Tryz.sizeOf179
  v77 := Tryz.zeroValue179 }
end Go.Proofs
