/- Plain: lists of bytes in order, lists of keys in ascending order, each once. Written by the kit's tool: the bodies of slices.SortFunc's family in this program are those of the library's contract. The program: keys are compared, copied, sorted, each once; a key is found. -/
import Derived.Shelf.SlSortCmp.WholeK
import Derived.Test.YtkifkdkjljcclaaGreatProg
import Derived.Test.YtkifkdkjljcclaaGreatPkLPR15
namespace Go.Proofs.YtkifkdkjljcclaaGreat

def cmpL : List Int → List Int → Int
  | [], [] => 0
  | [], _ :: _ => -1
  | _ :: _, [] => 1
  | a :: x, b :: y => if a < b then -1 else if b < a then 1 else cmpL x y

theorem cmpL_range (a b : List Int) : cmpL a b = -1 ∨ cmpL a b = 0 ∨ cmpL a b = 1 := by
  induction a generalizing b with
  | nil => cases b <;> simp [cmpL]
  | cons x a ih =>
    cases b with
    | nil => simp [cmpL]
    | cons y b =>
      simp only [cmpL]
      split
      · simp
      · split
        · simp
        · exact ih b
theorem cmpL_self (a : List Int) : cmpL a a = 0 := by
  induction a with
  | nil => rfl
  | cons x a ih => simp [cmpL, ih]
theorem cmpL_eq {a b : List Int} : cmpL a b = 0 ↔ a = b := by
  constructor
  · induction a generalizing b with
    | nil => cases b <;> simp [cmpL]
    | cons x a ih =>
      cases b with
      | nil => simp [cmpL]
      | cons y b =>
        simp only [cmpL]
        split
        · simp
        · split
          · simp
          · intro h
            rw [ih h, show x = y by omega]
  · rintro rfl
    exact cmpL_self a
theorem cmpL_neg (a b : List Int) : cmpL b a = - cmpL a b := by
  induction a generalizing b with
  | nil => cases b <;> simp [cmpL]
  | cons x a ih =>
    cases b with
    | nil => simp [cmpL]
    | cons y b =>
      simp only [cmpL, ih b]
      split <;> split <;> first | rfl | omega | skip
theorem cmpL_trans {a b c : List Int} (h1 : cmpL a b < 0) (h2 : cmpL b c < 0) : cmpL a c < 0 := by
  induction a generalizing b c with
  | nil =>
    cases b with
    | nil => simp [cmpL] at h1
    | cons y b =>
      cases c with
      | nil => simp [cmpL] at h2
      | cons z c => simp [cmpL]
  | cons x a ih =>
    cases b with
    | nil => simp [cmpL] at h1
    | cons y b =>
      cases c with
      | nil => simp [cmpL] at h2
      | cons z c =>
        simp only [cmpL] at h1 h2 ⊢
        by_cases hxy : x < y
        · by_cases hyz : z < y
          · have : ¬ y < z := by omega
            simp [hyz, this] at h2
          · simp [show x < z by omega]
        · by_cases hyx : y < x
          · simp [hxy, hyx] at h1
          · have : x = y := by omega
            subst this
            simp at h1
            by_cases hxz : x < z
            · simp [hxz]
            · by_cases hzx : z < x
              · simp [hxz, hzx] at h2
              · simp [hxz, hzx] at h2 ⊢
                exact ih h1 h2

def ltL (a b : List Int) : Prop := cmpL a b < 0
instance (a b : List Int) : Decidable (ltL a b) := inferInstanceAs (Decidable (cmpL a b < 0))
theorem ltL_irrefl (a : List Int) : ¬ ltL a a := by unfold ltL; rw [cmpL_self]; omega
theorem ltL_trans {a b c : List Int} (h1 : ltL a b) (h2 : ltL b c) : ltL a c := cmpL_trans h1 h2
theorem ltL_asymm {a b : List Int} (h : ltL a b) : ¬ ltL b a := fun k => ltL_irrefl a (ltL_trans h k)
theorem ltL_total {a b : List Int} (h : a ≠ b) : ltL a b ∨ ltL b a := by
  unfold ltL
  rw [cmpL_neg a b]
  have := cmpL_range a b
  have h0 : cmpL a b ≠ 0 := fun k => h (cmpL_eq.1 k)
  omega
theorem ltL_ne {a b : List Int} (h : ltL a b) : a ≠ b := fun k => ltL_irrefl a (k ▸ h)
theorem not_ltL {a b : List Int} (h : ¬ ltL a b) : b = a ∨ ltL b a := by
  by_cases hab : b = a
  · exact .inl hab
  · exact .inr ((ltL_total hab).resolve_right h)

def Asc (l : List (List Int)) : Prop := l.Pairwise ltL
theorem Asc.nodup {l : List (List Int)} (h : Asc l) : l.Nodup := List.Pairwise.imp ltL_ne h
theorem asc_ext {l m : List (List Int)} (h1 : Asc l) (h2 : Asc m) (h : ∀ x, x ∈ l ↔ x ∈ m) : l = m := by
  induction l generalizing m with
  | nil =>
    cases m with
    | nil => rfl
    | cons b m => exact absurd ((h b).2 (by simp)) (by simp)
  | cons a l ih =>
    cases m with
    | nil => exact absurd ((h a).1 (by simp)) (by simp)
    | cons b m =>
      obtain ⟨ha, hl⟩ := List.pairwise_cons.1 h1
      obtain ⟨hb, hm⟩ := List.pairwise_cons.1 h2
      have hab : a = b := by
        rcases List.mem_cons.1 ((h a).1 (by simp)) with h' | h'
        · exact h'
        · rcases List.mem_cons.1 ((h b).2 (by simp)) with h'' | h''
          · exact h''.symm
          · exact absurd (hb a h') (ltL_asymm (ha b h''))
      subst hab
      rw [ih hl hm fun x => ?_]
      constructor
      · intro hx
        rcases List.mem_cons.1 ((h x).1 (by simp [hx])) with h' | h'
        · exact absurd (ha x hx) (by rw [h']; exact ltL_irrefl a)
        · exact h'
      · intro hx
        rcases List.mem_cons.1 ((h x).2 (by simp [hx])) with h' | h'
        · exact absurd (hb x hx) (by rw [h']; exact ltL_irrefl a)
        · exact h'

def posK (ks : List (List Int)) (k : List Int) : Nat := (ks.takeWhile fun x => decide (ltL x k)).length
theorem posK_le (ks : List (List Int)) (k : List Int) : posK ks k ≤ ks.length := (List.takeWhile_sublist _).length_le
theorem posK_cons (x : List Int) (ks : List (List Int)) (k : List Int) : posK (x :: ks) k = if ltL x k then posK ks k + 1 else 0 := by
  unfold posK
  by_cases h : ltL x k <;> simp [List.takeWhile_cons, h]
theorem posK_lt {ks : List (List Int)} (h : Asc ks) {k : List Int} {i : Nat} {x : List Int} (hx : ks[i]? = some x) : i < posK ks k ↔ ltL x k := by
  induction ks generalizing i with
  | nil => simp at hx
  | cons a ks ih =>
    obtain ⟨ha, hk⟩ := List.pairwise_cons.1 h
    rw [posK_cons]
    cases i with
    | zero =>
      simp at hx
      subst hx
      by_cases hl : ltL a k <;> simp [hl]
    | succ i =>
      have hx' : ks[i]? = some x := by simpa using hx
      by_cases hl : ltL a k
      · rw [if_pos hl, Nat.succ_lt_succ_iff]
        exact ih hk hx'
      · rw [if_neg hl]
        constructor
        · omega
        · intro hxk
          exact absurd (ltL_trans (ha x (List.mem_of_getElem? hx')) hxk) hl
theorem posK_mem {ks : List (List Int)} (h : Asc ks) {k : List Int} : k ∈ ks ↔ ks[posK ks k]? = some k := by
  constructor
  · intro hk
    obtain ⟨i, hi⟩ := List.mem_iff_getElem?.1 hk
    have h1 : ¬ i < posK ks k := fun hh => ltL_irrefl k ((posK_lt h hi).1 hh)
    have hile : i < ks.length := (List.getElem?_eq_some_iff.1 hi).1
    have hp : ∃ y, ks[posK ks k]? = some y := ⟨_, List.getElem?_eq_getElem (show posK ks k < ks.length by omega)⟩
    obtain ⟨y, hy⟩ := hp
    have h2 : ¬ ltL y k := fun hh => by have := (posK_lt h hy).2 hh; omega
    by_cases hip : posK ks k = i
    · rw [hip]; exact hi
    · have hlt : posK ks k < i := by omega
      have := List.pairwise_iff_getElem.1 h (posK ks k) i (by omega) hile hlt
      rw [(List.getElem?_eq_some_iff.1 hy).2, (List.getElem?_eq_some_iff.1 hi).2] at this
      exact absurd this h2
  · exact List.mem_of_getElem?
theorem asc_inj {ks : List (List Int)} (h : Asc ks) {i j : Nat} {k : List Int} (hi : ks[i]? = some k) (hj : ks[j]? = some k) : i = j := by
  obtain ⟨i1, i2⟩ := List.getElem?_eq_some_iff.1 hi
  obtain ⟨j1, j2⟩ := List.getElem?_eq_some_iff.1 hj
  have hp := List.pairwise_iff_getElem.1 h
  rcases Nat.lt_trichotomy i j with hij | hij | hij
  · have := hp i j i1 j1 hij
    rw [i2, j2] at this
    exact absurd this (ltL_irrefl k)
  · exact hij
  · have := hp j i j1 i1 hij
    rw [i2, j2] at this
    exact absurd this (ltL_irrefl k)

theorem asc_of_next {ks : List (List Int)} (h : ∀ i x y, ks[i]? = some x → ks[i + 1]? = some y → ltL x y) : Asc ks := by
  induction ks with
  | nil => exact .nil
  | cons a ks ih =>
    have hk : Asc ks := ih fun i x y hx hy => h (i + 1) x y (by simpa using hx) (by simpa using hy)
    refine List.pairwise_cons.2 ⟨fun x hx => ?_, hk⟩
    cases ks with
    | nil => simp at hx
    | cons b ks =>
      have hab : ltL a b := h 0 a b rfl rfl
      rcases List.mem_cons.1 hx with rfl | hx
      · exact hab
      · exact ltL_trans hab ((List.pairwise_cons.1 hk).1 x hx)

end Go.Proofs.YtkifkdkjljcclaaGreat

namespace Go.Proofs
open Go.Shelf
def Tryz.sortL_ren : Go.Shelf.Ren := ⟨fun | 6 => 228 | 15 => 315 | 14 => 314 | 28 => 355 | 29 => 342 | 20 => 347 | 21 => 348 | 22 => 349 | 23 => 350 | 24 => 351 | 25 => 352 | 26 => 353 | 27 => 354 | 46 => 364 | 47 => 365 | 48 => 366 | 49 => 367 | 50 => 368 | 57 => 371 | n => n, fun | 22 => 53 | 24 => 45 | 25 => 165 | 3 => 3 | 39 => 348 | 0 => 0 | 53 => 306 | 55 => 263 | 4 => 4 | 46 => 381 | 45 => 380 | 50 => 281 | 5 => 5 | 9 => 9 | 66 => 393 | 70 => 397 | 76 => 399 | 77 => 400 | n => n, fun | n => n⟩
theorem Tryz.sortL : Go.Proofs.SlLaysF0.n6 Tryz.prog Tryz.sortL_ren := {
  mixed := by kernel_rfl
  f6 := ⟨Tryz.f228.name, by decide, Tryz.func228.trans (congrArg some (by kernel_rfl))⟩
  f14 := ⟨Tryz.f314.name, by decide, Tryz.func314.trans (congrArg some (by kernel_rfl))⟩
  f15 := Tryz.func315.trans (congrArg some (by kernel_rfl))
  f20 := ⟨Tryz.f347.name, by decide, Tryz.func347.trans (congrArg some (by kernel_rfl))⟩
  f21 := ⟨Tryz.f348.name, by decide, Tryz.func348.trans (congrArg some (by kernel_rfl))⟩
  f22 := ⟨Tryz.f349.name, by decide, Tryz.func349.trans (congrArg some (by kernel_rfl))⟩
  f23 := ⟨Tryz.f350.name, by decide, Tryz.func350.trans (congrArg some (by kernel_rfl))⟩
  f24 := ⟨Tryz.f351.name, by decide, Tryz.func351.trans (congrArg some (by kernel_rfl))⟩
  f25 := ⟨Tryz.f352.name, by decide, Tryz.func352.trans (congrArg some (by kernel_rfl))⟩
  f26 := ⟨Tryz.f353.name, by decide, Tryz.func353.trans (congrArg some (by kernel_rfl))⟩
  f27 := ⟨Tryz.f354.name, by decide, Tryz.func354.trans (congrArg some (by kernel_rfl))⟩
  f28 := Tryz.func355.trans (congrArg some (by kernel_rfl))
  f29 := Tryz.func342.trans (congrArg some (by kernel_rfl))
  f46 := ⟨Tryz.f364.name, by decide, Tryz.func364.trans (congrArg some (by kernel_rfl))⟩
  f47 := Tryz.func365.trans (congrArg some (by kernel_rfl))
  f48 := Tryz.func366.trans (congrArg some (by kernel_rfl))
  f49 := ⟨Tryz.f367.name, by decide, Tryz.func367.trans (congrArg some (by kernel_rfl))⟩
  f50 := ⟨Tryz.f368.name, by decide, Tryz.func368.trans (congrArg some (by kernel_rfl))⟩
  f57 := ⟨Tryz.f371.name, by decide, Tryz.func371.trans (congrArg some (by kernel_rfl))⟩
  t0 := Tryz.underlying0
  a0 := Tryz.isAgg0
  z0 := Tryz.sizeOf0
  v0 := Tryz.zeroValue0
  t3 := Tryz.underlying3
  a3 := Tryz.isAgg3
  z3 := Tryz.sizeOf3
  v3 := Tryz.zeroValue3
  t4 := Tryz.underlying4
  a4 := Tryz.isAgg4
  z4 := Tryz.sizeOf4
  v4 := Tryz.zeroValue4
  t5 := Tryz.underlying5
  a5 := Tryz.isAgg5
  z5 := Tryz.sizeOf5
  v5 := Tryz.zeroValue5
  t9 := Tryz.underlying9
  a9 := Tryz.isAgg9
  z9 := Tryz.sizeOf9
  v9 := Tryz.zeroValue9
  t22 := Tryz.underlying53
  a22 := Tryz.isAgg53
  z22 := Tryz.sizeOf53
  v22 := Tryz.zeroValue53
  t25 := Tryz.underlying165
  a25 := Tryz.isAgg165
  z25 := Tryz.sizeOf165
  v25 := Tryz.zeroValue165
  t39 := Tryz.underlying348
  a39 := Tryz.isAgg348
  z39 := Tryz.sizeOf348
  v39 := Tryz.zeroValue348
  t45 := Tryz.underlying380
  a45 := Tryz.isAgg380
  z45 := Tryz.sizeOf380
  v45 := Tryz.zeroValue380
  t46 := Tryz.underlying381
  a46 := Tryz.isAgg381
  z46 := Tryz.sizeOf381
  v46 := Tryz.zeroValue381
  t50 := Tryz.underlying281
  a50 := Tryz.isAgg281
  z50 := Tryz.sizeOf281
  v50 := Tryz.zeroValue281
  t53 := Tryz.underlying306
  a53 := Tryz.isAgg306
  z53 := Tryz.sizeOf306
  v53 := Tryz.zeroValue306
  t55 := Tryz.underlying263
  a55 := Tryz.isAgg263
  z55 := Tryz.sizeOf263
  v55 := Tryz.zeroValue263
  t66 := Tryz.underlying393
  a66 := Tryz.isAgg393
  z66 := Tryz.sizeOf393
  v66 := Tryz.zeroValue393
  t70 := Tryz.underlying397
  a70 := Tryz.isAgg397
  z70 := Tryz.sizeOf397
  v70 := Tryz.zeroValue397
  t76 := Tryz.underlying399
  a76 := Tryz.isAgg399
  z76 := Tryz.sizeOf399
  v76 := Tryz.zeroValue399
  t77 := Tryz.underlying400
  a77 := Tryz.isAgg400
  z77 := Tryz.sizeOf400
  v77 := Tryz.zeroValue400 }
end Go.Proofs

namespace Go.Proofs.YtkifkdkjljcclaaGreat
open Go.Sx Go.RowKit

theorem c_isNaN (x : Int) : RetP Tryz.prog n_cmp_isNaN_byte [.int .u8 x] [.bool] false := fun w => cmp_isNaN_byte_calls x (by
  unfold cmp_isNaN_byte
  exact r_retP (by simp [valL, embL, Sh.emb]))
theorem c_cmpByte (x y : Int) : RetP Tryz.prog n_cmp_Compare_byte [.int .u8 x, .int .u8 y] [.int .i64] (if x < y then -1 else if y < x then 1 else 0) := fun w => cmp_Compare_byte_calls x y (by
  unfold cmp_Compare_byte
  refine r_callp (c_isNaN x) ?_
  refine r_callp (c_isNaN y) ?_
  refine r_false rfl (r_false rfl ?_)
  by_cases h1 : x < y
  · rw [if_pos h1]
    exact r_true (decide_eq_true h1) (r_retP rfl)
  · rw [if_neg h1]
    refine r_false (decide_eq_false h1) ?_
    by_cases h2 : y < x
    · rw [if_pos h2]
      exact r_true (decide_eq_true h2) (r_retP rfl)
    · rw [if_neg h2]
      exact r_false (decide_eq_false h2) (r_retP rfl))

theorem cmpL_drop {a b : List Int} {j : Nat} (ha : j < a.length) (hb : j < b.length) : cmpL (a.drop j) (b.drop j) = if a.getD j 0 < b.getD j 0 then -1 else if b.getD j 0 < a.getD j 0 then 1 else cmpL (a.drop (j + 1)) (b.drop (j + 1)) := by
  rw [List.drop_eq_getElem_cons ha, List.drop_eq_getElem_cons hb, cmpL]
  simp [List.getD, ha, hb]

theorem r_callQ' {P : Program} {R : Value → World → Prop} {w : World} {f : FuncId} {args : List Value} {l : List Sh} {x : TL l} {k : TL l → World → Prop} (hc : Calls P f args.toArray w fun e w' => ∃ v, e = .returned v ∧ RP l x w v w') (h : k x w) : ((real P R).callQ f args l k : World → Prop) w :=
  ⟨x, hc.mono fun _ _ ⟨_, he, hv, hw⟩ => ⟨by rw [he, hv], hw⟩, h⟩

theorem c_slCompare {w : World} {s t : Sl} {a b : List Int} (hs : SlAt w s 1 (u8s a)) (ht : SlAt w t 1 (u8s b)) (hab : a.length = b.length) (hmax : a.length ≤ 1073741824) :
    Calls Tryz.prog n_slices_Compare_sl_byte_byte [.slice s.a s.n s.c, .slice t.a t.n t.c].toArray w fun e w' => ∃ v, e = .returned v ∧ RP [.int .i64] (cmpL a b) w v w' := slices_Compare_sl_byte_byte_calls s t (by
  unfold slices_Compare_sl_byte_byte
  have hsn : s.n = a.length := by have := hs.len; simp at this; omega
  have htn : t.n = b.length := by have := ht.len; simp at this; omega
  refine r_loop (σ := Int) (fun i w' => w' = w ∧ ∃ j : Nat, i = j ∧ j ≤ a.length ∧ cmpL a b = cmpL (a.drop j) (b.drop j)) (fun i _ => (s.n - i).toNat) 0 rfl ⟨rfl, 0, rfl, by omega, by simp⟩ ?_
  rintro i w1 ⟨rfl, j, rfl, hj, he⟩
  refine r_any fun _ => ?_
  refine r_if ((j : Int) < (s.n : Int)) rfl (fun hlt => ?_) (fun hge => ?_)
  · obtain ⟨p, hp, hc⟩ := hs.cell j _ (u8s_get (show j < a.length by omega))
    obtain ⟨q, hq, hd⟩ := ht.cell j _ (u8s_get (show j < b.length by omega))
    refine r_ix p hp (by omega) (by omega) ?_
    refine r_ldN (a.getD j 0) (by simp only [Int.toNat_natCast, Nat.mul_one]; exact hc) ?_
    refine r_if ((j : Int) ≥ (t.n : Int)) rfl (fun hh => by omega) (fun _ => ?_)
    refine r_ix q hq (by omega) (by omega) ?_
    refine r_ldN (b.getD j 0) (by simp only [Int.toNat_natCast, Nat.mul_one]; exact hd) ?_
    refine r_callp (c_cmpByte _ _) ?_
    rw [cmpL_drop (by omega) (by omega)] at he
    by_cases h1 : a.getD j 0 < b.getD j 0
    · rw [if_pos h1] at he ⊢
      rw [he]
      exact r_true rfl (r_retP rfl)
    · rw [if_neg h1] at he ⊢
      by_cases h2 : b.getD j 0 < a.getD j 0
      · rw [if_pos h2] at he ⊢
        rw [he]
        exact r_true rfl (r_retP rfl)
      · rw [if_neg h2] at he ⊢
        refine r_false rfl ?_
        exact ⟨((j + 1 : Nat) : Int), by rw [w64 (by omega) (by omega)]; rfl, ⟨rfl, j + 1, rfl, by omega, he⟩, by omega⟩
  · refine r_if ((s.n : Int) < (t.n : Int)) rfl (fun hh => by omega) (fun _ => ?_)
    rw [he, List.drop_eq_nil_of_le (by omega), List.drop_eq_nil_of_le (by omega)]
    exact r_retP rfl)

theorem alloc2_grow (w : World) (o1 o2 : Obj) : ((w.alloc o1).alloc o2).drew = Go.Sort.grow (w.drewN 1) #[o1, o2] := by
  have h : (w.heap.push o1).push o2 = w.heap ++ #[o1, o2] := by apply Array.ext'; simp
  exact congrArg (fun hp => ({ w with heap := hp, drawn := w.drawn + 1 } : World)) h
open Go.Sort (grow) in
theorem c_compareKeysG {a b : List Int} (ha : a.length = 32) (hb : b.length = 32) (w : World) :
    Calls Tryz.prog n_impl_compareKeys #[.agg (u8s a).toArray, .agg (u8s b).toArray] w fun e w' => e = .returned (.int .i64 (cmpL a b)) ∧ ∃ q os', w' = grow (w.drewN q) os' := by
  refine (impl_compareKeys_calls (R := fun v w' => v = .int .i64 (cmpL a b) ∧ ∃ q os', w' = grow (w.drewN q) os') (u8s a).toArray (u8s b).toArray ?_).mono (by rintro e w' ⟨v, he, hv, hw⟩; exact ⟨by rw [he, hv], hw⟩)
  unfold impl_compareKeys
  have h1 : At w (w.alloc (.cells (u8s a).toArray ty_impl_Key)) [(w.heap.size, (u8s a).toArray, ty_impl_Key)] := ((At.refl w).trans (below_alloc w _)).add (heap_alloc_self w _) (Nat.le_refl _) (by simp)
  generalize hw1 : w.alloc (.cells (u8s a).toArray ty_impl_Key) = w1 at h1
  have h2 : At w (w1.alloc (.cells (u8s b).toArray ty_impl_Key)) [(w1.heap.size, (u8s b).toArray, ty_impl_Key), (w.heap.size, (u8s a).toArray, ty_impl_Key)] := (h1.trans (below_alloc w1 _)).add (heap_alloc_self w1 _) h1.size (h1.fresh (Nat.le_refl _))
  generalize hw2 : w1.alloc (.cells (u8s b).toArray ty_impl_Key) = w2 at h2
  have h3 := h2.drew
  have hsa : SlAt w2.drew ⟨some ⟨w.heap.size, 0, none⟩, 32, 32⟩ 1 (u8s a) := h3.sl 1 rfl rfl (by simp [ha]) (by rw [List.drop_zero]; exact List.take_of_length_le (by simp))
  have hsb : SlAt w2.drew ⟨some ⟨w1.heap.size, 0, none⟩, 32, 32⟩ 1 (u8s b) := h3.sl 0 rfl rfl (by simp [hb]) (by rw [List.drop_zero]; exact List.take_of_length_le (by simp))
  have key : ((real Tryz.prog fun v w' => v = .int .i64 (cmpL a b) ∧ ∃ q os', w' = grow (w.drewN q) os').sl (some (Addr.mk w.heap.size 0 none)) 32 32 1 none none none fun y5 =>
      (real Tryz.prog fun v w' => v = .int .i64 (cmpL a b) ∧ ∃ q os', w' = grow (w.drewN q) os').sl (some (Addr.mk w1.heap.size 0 none)) 32 32 1 none none none fun y6 =>
      (real Tryz.prog fun v w' => v = .int .i64 (cmpL a b) ∧ ∃ q os', w' = grow (w.drewN q) os').callQ n_slices_Compare_sl_byte_byte [(.slice y5.a y5.n y5.c), (.slice y6.a y6.n y6.c)] [(.int .i64)] fun r7 =>
      (real Tryz.prog fun v w' => v = .int .i64 (cmpL a b) ∧ ∃ q os', w' = grow (w.drewN q) os').ret (.int .i64 r7) : World → Prop) w2.drew := by
    refine r_sl 0 32 rfl rfl (by omega) (by omega) ?_
    refine r_sl 0 32 rfl rfl (by omega) (by omega) ?_
    refine r_callQ' (c_slCompare (s := ⟨some ⟨w.heap.size, 0, none⟩, 32, 32⟩) (t := ⟨some ⟨w1.heap.size, 0, none⟩, 32, 32⟩) hsa hsb (by omega) (by omega)) ?_
    refine r_retR ⟨rfl, 1, #[.cells (u8s a).toArray ty_impl_Key, .cells (u8s b).toArray ty_impl_Key], ?_⟩
    subst hw2
    subst hw1
    exact alloc2_grow _ _ _
  subst hw2
  subst hw1
  exact key

theorem below_grow (w : World) (q : Nat) (os : Array Obj) : Below w.heap.size w (Go.Sort.grow (w.drewN q) os) :=
  ⟨rfl, rfl, rfl, by simp [Go.Sort.grow, World.drewN], fun k hk => by
    show (w.heap ++ os)[k]? = _
    rw [Array.getElem?_append_left hk]⟩
theorem c_compareKeys {a b : List Int} (ha : a.length = 32) (hb : b.length = 32) (w : World) : Ret Tryz.prog n_impl_compareKeys [.agg (u8s a).toArray, .agg (u8s b).toArray] w [.int .i64] (fun r _ => r = cmpL a b) :=
  (c_compareKeysG ha hb w).mono fun _ _ ⟨he, q, os, hw⟩ => ⟨_, he, cmpL a b, rfl, by rw [hw]; exact below_grow _ _ _, rfl⟩

def keyOk (k : List Int) : Prop := k.length = 32 ∧ bytesOk k
structure KsR (w : World) (s : Sl) (ks : List (List Int)) : Prop where
  of : SlOf w s 32 u8s ks
  ok : ∀ k ∈ ks, keyOk k
theorem KsR.below {w w' : World} {s : Sl} {ks : List (List Int)} (h : KsR w s ks) (hb : Below w.heap.size w w') : KsR w' s ks := ⟨h.of.below hb, h.ok⟩
theorem KsR.at {w w' : World} {ls : List Blk} {s : Sl} {ks : List (List Int)} (h : KsR w s ks) (hA : At w w' ls) : KsR w' s ks := h.below hA.below
theorem KsR.n {w : World} {s : Sl} {ks : List (List Int)} (h : KsR w s ks) : s.n = ks.length := h.of.n
theorem KsR.get {w : World} {s : Sl} {ks : List (List Int)} (h : KsR w s ks) {i : Nat} (hi : i < ks.length) : ∃ k p, ks[i]? = some k ∧ k ∈ ks ∧ s.a = some p ∧ keyOk k ∧ ldOk w 32 (p.add (i * 32)) .agg (u8s k).toArray := by
  have hk : ks[i]? = some ks[i] := List.getElem?_eq_getElem hi
  obtain ⟨p, hp, _⟩ := h.of.cell hk
  exact ⟨_, p, hk, List.getElem_mem hi, hp, h.ok _ (List.getElem_mem hi), h.of.agg hk hp⟩
theorem u8s_klen {ks : List (List Int)} (h : ∀ k ∈ ks, keyOk k) : ∀ k ∈ ks, (u8s k).length = 32 := fun k hk => by rw [u8s_len]; exact (h k hk).1
theorem ownS_ks {w0 w : World} {ls L : List Blk} {s : Sl} {ks : List (List Int)} (h : OwnS ty_impl_Key 32 s (ks.flatMap u8s) L) (hA : At w0 w ls) (hs : L.Sublist ls) (hk : ∀ k ∈ ks, keyOk k) : KsR w s ks := ⟨h.of hA hs (u8s_klen hk) (by omega), hk⟩
theorem slO_ks {w0 w : World} {ls : List Blk} {s : Sl} {ks : List (List Int)} (h : SlO w0 w ls ty_impl_Key 32 s (ks.flatMap u8s)) (hk : ∀ k ∈ ks, keyOk k) : KsR w s ks := ⟨h.of (u8s_klen hk) (by omega), hk⟩
theorem T_sl_Key : SlT Tryz.prog ty_sl_impl_Key ty_impl_Key 32 32 := slT_of (by kernel_rfl)
theorem flatU8 (ks : List (List Int)) : ks.flatMap u8s = u8s ks.flatten := by
  induction ks with
  | nil => rfl
  | cons k ks ih => simp [ih, u8s]

theorem c_CloneKeys {w : World} {s : Sl} {ks : List (List Int)} (hs : KsR w s ks) (hmax : ks.length ≤ 1073741824) : Ret Tryz.prog n_slices_Clone_sl_impl_Key_impl_Key [.slice s.a s.n s.c] w [.slice] (fun r w' => SlO w w' [] ty_impl_Key 32 r (ks.flatMap u8s) ∧ r.n = ks.length) := slices_Clone_sl_impl_Key_impl_Key_calls s (by
  unfold slices_Clone_sl_impl_Key_impl_Key
  have hn := hs.n
  refine r_pur _ (fun w' => run_eql_sl (e := ty_impl_Key) (by kernel_rfl) _ _ _ _ _ w') ?_
  cases ha : s.a with
  | none =>
    refine r_true rfl ?_
    have : ks = [] := by
      cases ks with
      | nil => rfl
      | cons k r => obtain ⟨p, hp, _⟩ := hs.of.cell (i := 0) rfl; rw [ha] at hp; cases hp
    subst this
    exact r_ret (At.refl w) ⟨none, 0, 0⟩ rfl ⟨SlO.nil (At.refl w) _ _, rfl⟩
  | some p =>
    refine r_false (by simp) ?_
    refine r_bs0 T_sl_Key (At.refl w) fun y w1 hy hyn => ?_
    have hs1 : SlAt w1 ⟨some p, s.n, s.c⟩ 32 (ks.flatMap u8s) := by have := (hs.at hy.at_).of.sl; rw [← ha]; exact this
    refine r_append T_sl_Key hy (y := ⟨some p, s.n, s.c⟩) hs1 (by rw [flatU8]; exact u8s_one) (by dsimp only; omega) (by dsimp only; omega) fun y' w2 hy' hyn' => ?_
    dsimp only at hyn'
    exact r_ret hy'.at_ y' rfl ⟨by simpa using hy', by omega⟩)

abbrev K32 := {l : List Int // l.length = 32}
instance : Inhabited K32 := ⟨⟨List.replicate 32 0, by simp⟩⟩
def encK (k : K32) : List Value := u8s k.1
def cfK (a b : K32) : Int := cmpL a.1 b.1
theorem swoK : Go.Sort.SWO (ltOf cfK) where
  irrefl := fun x => decide_eq_false (by unfold cfK; rw [cmpL_self]; omega)
  trans := fun x y z h1 h2 => decide_eq_true (cmpL_trans (of_decide_eq_true h1) (of_decide_eq_true h2))
  ntrans := fun x y z h1 h2 => decide_eq_false fun h3 => by
    have h1 := of_decide_eq_false h1
    have h2 := of_decide_eq_false h2
    rcases not_ltL (a := x.1) (b := y.1) h1 with e | h1
    · unfold cfK at h3 h2
      rw [← e] at h3
      exact h2 h3
    · exact h2 (ltL_trans (a := y.1) (b := x.1) h1 h3)

theorem cmpLaysK (blk off size : Nat) (w : World) : CmpLays Tryz.prog n_impl_compareKeys #[] encK 32 cfK blk off size w := fun m os dk _ x y => by
  have := c_compareKeysG x.2 y.2 (sortWorldK encK 32 w blk off m dk os)
  simpa [encK, cfK] using this

end Go.Proofs.YtkifkdkjljcclaaGreat
