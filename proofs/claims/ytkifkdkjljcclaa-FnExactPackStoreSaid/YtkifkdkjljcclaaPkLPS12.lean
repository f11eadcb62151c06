/- Own slices told apart from the world; slices of records; reslicing with three bounds; copies; cleared cells. -/
import Derived.Deep.Slices
import Derived.Test.YtkifkdkjljcclaaPkLPS11
namespace Go.Sx
open Go.RowKit (Below)
open Go.Deep (add_add)
variable {P : Program} {R : Value → World → Prop} {w0 w : World} {ls : List Blk}

theorem At.perm {l l' : List Blk} (h : At w0 w l) (hp : l.Perm l') : At w0 w l' :=
  ⟨h.below, fun x hx => h.own x (hp.mem_iff.2 hx), fun x hx => h.ge x (hp.mem_iff.2 hx), (hp.map _).nodup_iff.1 h.nodup⟩
theorem At.rot {A B C : List Blk} (h : At w0 w (A ++ (B ++ C))) : At w0 w (B ++ (A ++ C)) :=
  h.perm (by rw [← List.append_assoc, ← List.append_assoc]; exact List.perm_append_comm.append_right C)
theorem At.swap {A B : List Blk} (h : At w0 w (A ++ B)) : At w0 w (B ++ A) := h.perm List.perm_append_comm
theorem At.mid {a : Blk} {A C : List Blk} (h : At w0 w (a :: (A ++ C))) : At w0 w (A ++ (a :: C)) := h.perm List.perm_middle.symm
theorem At.unmid {a : Blk} {A C : List Blk} (h : At w0 w (A ++ (a :: C))) : At w0 w (a :: (A ++ C)) := h.perm List.perm_middle
theorem At.right {A B : List Blk} (h : At w0 w (A ++ B)) : At w0 w B := h.take _ (List.sublist_append_right _ _)
theorem At.left {A B : List Blk} (h : At w0 w (A ++ B)) : At w0 w A := h.take _ (List.sublist_append_left _ _)
theorem At.tail {a : Blk} {B : List Blk} (h : At w0 w (a :: B)) : At w0 w B := h.take _ (List.sublist_cons_self _ _)

theorem At.pull3 {A B C D : List Blk} (h : At w0 w (A ++ (B ++ (C ++ D)))) : At w0 w (C ++ (A ++ (B ++ D))) := h.perm (((List.perm_append_comm_assoc B C D).append_left A).trans (List.perm_append_comm_assoc A C (B ++ D)))
theorem At.push3 {A B C D : List Blk} (h : At w0 w (C ++ (A ++ (B ++ D)))) : At w0 w (A ++ (B ++ (C ++ D))) := h.perm ((List.perm_append_comm_assoc C A (B ++ D)).trans ((List.perm_append_comm_assoc C B D).append_left A))

theorem At.join {w' : World} {L : List Blk} (hA : At w0 w ls) (h : At w w' L) : At w0 w' (L ++ ls) := by
  have hA' := hA.trans h.below
  refine ⟨hA'.below, ?_, ?_, ?_⟩
  · intro x hx
    rcases List.mem_append.1 hx with hx | hx
    · exact h.own x hx
    · exact hA'.own x hx
  · intro x hx
    rcases List.mem_append.1 hx with hx | hx
    · exact Nat.le_trans hA.size (h.ge x hx)
    · exact hA'.ge x hx
  · rw [List.map_append, List.nodup_append]
    refine ⟨h.nodup, hA'.nodup, ?_⟩
    intro a ha b hb hab
    obtain ⟨x, hx, rfl⟩ := List.mem_map.1 ha
    obtain ⟨y, hy, rfl⟩ := List.mem_map.1 hb
    have h1 := h.ge x hx
    have h2 := lt_of_some (hA.own y hy)
    omega
def OwnS (e z : Nat) (s : Sl) (xs : List Value) (L : List Blk) : Prop :=
  xs.length = s.n * z ∧ ((s.a = none ∧ s.n = 0 ∧ s.c = 0 ∧ L = []) ∨ ∃ g cur, L = [(g, cur, e)] ∧ s.a = some ⟨g, 0, none⟩ ∧ s.n ≤ s.c ∧ s.c ≤ maxLen ∧ cur.size = s.c * z ∧ cur.toList.take xs.length = xs)

theorem SlO.split {e z : Nat} {s : Sl} {xs : List Value} (h : SlO w0 w ls e z s xs) : ∃ L, OwnS e z s xs L ∧ At w0 w (L ++ ls) := by
  rcases h.own with ⟨ha, hn, hc⟩ | ⟨g, cur, ha, hA, h1, h2, h3, h4⟩
  · exact ⟨[], ⟨h.len, .inl ⟨ha, hn, hc, rfl⟩⟩, h.at_⟩
  · exact ⟨[(g, cur, e)], ⟨h.len, .inr ⟨g, cur, rfl, ha, h1, h2, h3, h4⟩⟩, hA⟩
theorem OwnS.slo {e z : Nat} {s : Sl} {xs : List Value} {L : List Blk} (h : OwnS e z s xs L) (hA : At w0 w (L ++ ls)) : SlO w0 w ls e z s xs := by
  obtain ⟨hl, h⟩ := h
  rcases h with ⟨ha, hn, hc, rfl⟩ | ⟨g, cur, rfl, ha, h1, h2, h3, h4⟩
  · exact ⟨hA, hl, .inl ⟨ha, hn, hc⟩⟩
  · exact ⟨hA.right, hl, .inr ⟨g, cur, ha, hA, h1, h2, h3, h4⟩⟩
theorem OwnS.nil (e z : Nat) : OwnS e z ⟨none, 0, 0⟩ [] [] := ⟨by simp, .inl ⟨rfl, rfl, rfl, rfl⟩⟩
theorem OwnS.sl {e z : Nat} {s : Sl} {xs : List Value} {L : List Blk} (h : OwnS e z s xs L) (hA : At w0 w ls) (hs : L.Sublist ls) : SlAt w s z xs := (h.slo (ls := []) (by simpa using hA.take _ hs)).sl
theorem OwnS.cap {e z : Nat} {s : Sl} {xs : List Value} {L : List Blk} (h : OwnS e z s xs L) : s.n ≤ s.c := by
  rcases h.2 with ⟨_, h1, h2, _⟩ | ⟨_, _, _, _, h1, _⟩ <;> omega
theorem SlO.cap {e z : Nat} {s : Sl} {xs : List Value} (h : SlO w0 w ls e z s xs) : s.n ≤ s.c := by
  obtain ⟨L, h, _⟩ := h.split
  exact h.cap
theorem OwnS.max {e z : Nat} {s : Sl} {xs : List Value} {L : List Blk} (h : OwnS e z s xs L) : s.c ≤ maxLen := by
  rcases h.2 with ⟨_, h1, h2, _⟩ | ⟨_, _, _, _, h1, h2, _⟩
  · rw [h2]; exact Nat.zero_le _
  · exact h2

theorem SlO.own_of {w' : World} {e z : Nat} {s : Sl} {xs : List Value} (hA : At w0 w ls) (h : SlO w w' [] e z s xs) : ∃ L, OwnS e z s xs L ∧ At w0 w' (L ++ ls) := (SlO.lift hA h).split

theorem r_stO {L : List Blk} {e z n : Nat} {s : Sl} {xs : List Value} {p q : Addr} {v : Value} {k : World → Prop}
    (hA : At w0 w (L ++ ls)) (hO : OwnS e z s xs L) (hp : s.a = some p) (o : Nat) (hq : q = p.add o) (hn : v.cells.size = n) (ho : o + n ≤ xs.length) (h1 : ∀ u ∈ v.cells.toList, oneC u = true)
    (h : ∀ w' L', At w0 w' (L' ++ ls) → OwnS e z s (xs.take o ++ v.cells.toList ++ xs.drop (o + n)) L' → k w') : ((real P R).st n q v k : World → Prop) w := by
  obtain ⟨hl, hO⟩ := hO
  rcases hO with ⟨ha, _⟩ | ⟨g, cur, rfl, ha, hnc, hcm, hcs, htk⟩
  · rw [hp] at ha; cases ha
  rw [hp] at ha
  cases ha
  subst hq
  rw [add_lit, Nat.zero_add]
  have hb : w.heap[g]? = some (.cells cur e (0, 0)) := hA.get (i := 0) rfl
  have hxc : xs.length ≤ cur.size := by rw [hl, hcs]; exact Nat.mul_le_mul_right _ hnc
  obtain ⟨k1, k2, k3, k4, k5, k6, k7⟩ := stW_heap v.cells.toList o 0 w cur hb (by simp; omega) h1
  have hvl : v.cells.toList.length = n := by simpa using hn
  have hlen : (xs.take o ++ v.cells.toList ++ xs.drop (o + n)).length = xs.length := by simp [hvl]; omega
  refine ⟨hn, k1, h _ [(g, _, e)] (hA.write (i := 0) rfl k2 k3 k4 k5 k6 k7) ⟨by rw [hlen, hl], .inr ⟨g, _, rfl, hp, hnc, hcm, ?_, ?_⟩⟩⟩
  · simp [hvl]; omega
  · simp only [Nat.add_zero, hlen, hvl]
    rw [← htk]
    simp only [List.length_take, Array.length_toList]
    have e1 : min xs.length cur.size = xs.length := by omega
    rw [List.take_append, List.take_append]
    simp only [List.length_append, List.length_take, Array.length_toList, hvl, e1]
    rw [List.take_take, List.take_take]
    congr 1
    · congr 1
      · congr 1; omega
      · exact List.take_of_length_le (by rw [hvl]; omega)
    · rw [List.drop_take]
      congr 1
      omega

theorem seg_take {cur ds : List Value} {o n : Nat} (h : o + n ≤ cur.length) (hn : ds.length = n) : (cur.take o ++ ds ++ cur.drop (o + n)).take (o + n) = cur.take o ++ ds := by
  rw [List.take_append_of_le_length (by simp; omega), List.take_of_length_le (by simp; omega)]

theorem r_mkO {t e z by_ : Nat} (hT : SlT P t e z by_) (hA : At w0 w ls) {n : Nat} (hb : by_ * n ≤ 281474976710656) (hn : n ≤ 281474976710656) {k : Sl → World → Prop}
    (h : ∀ s xs L w', At w0 w' (L ++ ls) → OwnS e z s xs L → s.n = n → (∃ p, s.a = some p) → k s w') :
    ((real P R).sem (Instr.makeSlice t (.int .i64 (n : Int)) (.int .i64 (n : Int))) .slice k : World → Prop) w :=
  r_mk hT hA hb hn fun g cur w' hA' hcs => h ⟨some ⟨g, 0, none⟩, n, n⟩ cur.toList [(g, cur, e)] w' hA' ⟨by simpa using hcs, .inr ⟨g, cur, rfl, rfl, Nat.le_refl _, by unfold maxLen; show n ≤ _; omega, hcs, List.take_of_length_le (Nat.le_refl _)⟩⟩ rfl ⟨_, rfl⟩

theorem OwnS.addr {e z : Nat} {s : Sl} {xs : List Value} {L : List Blk} (h : OwnS e z s xs L) (hn : 0 < s.n) : ∃ p, s.a = some p := by
  rcases h.2 with ⟨_, h0, _⟩ | ⟨g, _, _, ha, _⟩
  · omega
  · exact ⟨_, ha⟩

section
variable {α : Type}

structure SlOf (w : World) (s : Sl) (z : Nat) (cs : α → List Value) (xs : List α) : Prop where
  sl : SlAt w s z (xs.flatMap cs)
  one : ∀ x ∈ xs, (cs x).length = z
  cap : s.n ≤ s.c
  pos : 0 < z

theorem flatMap_length {z : Nat} {cs : α → List Value} : ∀ {xs : List α}, (∀ x ∈ xs, (cs x).length = z) → (xs.flatMap cs).length = xs.length * z
  | [], _ => by simp
  | x :: r, h => by
    rw [List.flatMap_cons, List.length_append, flatMap_length (fun y hy => h y (by simp [hy])), h x (by simp), List.length_cons, Nat.add_mul]
    omega

theorem flatMap_get {z : Nat} {cs : α → List Value} : ∀ {xs : List α} {i : Nat} {x : α} {j : Nat} {v : Value}, (∀ x ∈ xs, (cs x).length = z) → xs[i]? = some x → (cs x)[j]? = some v → (xs.flatMap cs)[i * z + j]? = some v
  | [], i, x, j, v, _, hx, _ => by simp at hx
  | y :: r, 0, x, j, v, h, hx, hj => by
    simp at hx
    subst hx
    have : j < (cs y).length := (List.getElem?_eq_some_iff.1 hj).1
    rw [List.flatMap_cons, List.getElem?_append_left (by omega)]
    simpa using hj
  | y :: r, i + 1, x, j, v, h, hx, hj => by
    have hy := h y (by simp)
    rw [List.flatMap_cons, List.getElem?_append_right (by rw [hy, Nat.add_mul]; omega), hy]
    have e : (i + 1) * z + j - z = i * z + j := by rw [Nat.add_mul]; omega
    rw [e]
    exact flatMap_get (fun y hy => h y (by simp [hy])) (by simpa using hx) hj

variable {s : Sl} {z : Nat} {cs : α → List Value} {xs : List α}

theorem SlOf.n (h : SlOf w s z cs xs) : s.n = xs.length := by
  have h1 := h.sl.len
  rw [flatMap_length h.one] at h1
  exact (Nat.eq_of_mul_eq_mul_right h.pos h1).symm
theorem SlOf.below {w' : World} (h : SlOf w s z cs xs) (hb : Below w.heap.size w w') : SlOf w' s z cs xs := ⟨h.sl.below hb, h.one, h.cap, h.pos⟩
theorem SlOf.at (h : SlOf w0 s z cs xs) (hA : At w0 w ls) : SlOf w s z cs xs := h.below hA.below
theorem SlOf.drew (h : SlOf w s z cs xs) : SlOf w.drew s z cs xs := h.below (drew_below w)
theorem SlOf.nil (pos : 0 < z) : SlOf w ⟨none, 0, 0⟩ z cs [] := ⟨⟨by simp, fun j v hv => by simp at hv⟩, by simp, Nat.le_refl _, pos⟩

theorem SlOf.cell (h : SlOf w s z cs xs) {i : Nat} {x : α} (hx : xs[i]? = some x) : ∃ p, s.a = some p ∧ ∀ j v, (cs x)[j]? = some v → w.cell? (p.add (i * z + j)) = some v := by
  have hz := h.one x (List.mem_of_getElem? hx)
  have hp := h.pos
  obtain ⟨p, hp, _⟩ := h.sl.cell (i * z + 0) _ (flatMap_get h.one hx (List.getElem?_eq_getElem (show 0 < (cs x).length by omega)))
  refine ⟨p, hp, fun j v hv => ?_⟩
  obtain ⟨q, hq, hc⟩ := h.sl.cell (i * z + j) v (flatMap_get h.one hx hv)
  rw [hp] at hq
  cases hq
  exact hc
theorem SlOf.agg (h : SlOf w s z cs xs) {i : Nat} {x : α} (hx : xs[i]? = some x) {p : Addr} (hp : s.a = some p) : ldOk w z (p.add (i * z)) .agg (cs x).toArray := by
  obtain ⟨q, hq, hc⟩ := h.cell hx
  rw [hp] at hq
  cases hq
  refine ⟨by simpa using h.one x (List.mem_of_getElem? hx), fun j v hv => ?_⟩
  rw [add_add]
  exact hc j v (by simpa using hv)
theorem SlOf.fld (h : SlOf w s z cs xs) {i : Nat} {x : α} (hx : xs[i]? = some x) {p : Addr} (hp : s.a = some p) {sh : Sh} {y : sh.T} (j : Nat) (hy : (cs x)[j]? = some (sh.emb y)) (hs : ∀ ds, sh.emb y ≠ .agg ds) {n : Nat} : ldOk w n (p.add (i * z + j)) sh y := by
  obtain ⟨q, hq, hc⟩ := h.cell hx
  rw [hp] at hq
  cases hq
  have := hc j _ hy
  cases sh
  case agg => exact (hs y rfl).elim
  all_goals exact this
theorem SlOf.part (h : SlOf w s z cs xs) {i : Nat} {x : α} (hx : xs[i]? = some x) {p : Addr} (hp : s.a = some p) (j : Nat) {n : Nat} {l : List Value} (hl : l.length = n) (hy : ∀ k v, l[k]? = some v → (cs x)[j + k]? = some v) : ldOk w n (p.add (i * z + j)) .agg l.toArray := by
  obtain ⟨q, hq, hc⟩ := h.cell hx
  rw [hp] at hq
  cases hq
  refine ⟨by simpa using hl, fun k v hv => ?_⟩
  rw [add_add]
  have := hc (j + k) v (hy k v (by simpa using hv))
  rwa [Nat.add_assoc]

theorem SlOf.sub (h : SlOf w s z cs xs) (l k : Nat) (h1 : l ≤ k) (h2 : k ≤ s.n) : SlOf w ⟨if s.c = l then s.a else s.a.map (·.add (l * z)), k - l, s.c - l⟩ z cs ((xs.drop l).take (k - l)) := by
  have hs := h.sl.slice h.pos l k h1 h2 h.cap
  have e : ((xs.flatMap cs).drop (l * z)).take ((k - l) * z) = ((xs.drop l).take (k - l)).flatMap cs := by
    have key : ∀ (n : Nat) (ys : List α), (∀ x ∈ ys, (cs x).length = z) → (ys.flatMap cs).take (n * z) = (ys.take n).flatMap cs ∧ (ys.flatMap cs).drop (n * z) = (ys.drop n).flatMap cs := by
      intro n
      induction n with
      | zero => intro ys _; simp
      | succ n ih =>
        intro ys hy
        cases ys with
        | nil => simp
        | cons y r =>
          have hz := hy y (by simp)
          obtain ⟨i1, i2⟩ := ih r (fun x hx => hy x (by simp [hx]))
          rw [List.flatMap_cons, Nat.add_mul, Nat.one_mul, Nat.add_comm, List.take_succ_cons, List.drop_succ_cons, List.flatMap_cons]
          constructor
          · rw [List.take_append, hz, List.take_of_length_le (by omega), Nat.add_sub_cancel_left, i1]
          · rw [List.drop_append, hz, List.drop_eq_nil_of_le (by omega), Nat.add_sub_cancel_left, i2, List.nil_append]
    rw [(key l xs h.one).2, (key (k - l) _ (fun x hx => h.one x (List.mem_of_mem_drop hx))).1]
  rw [e] at hs
  exact ⟨hs, fun x hx => h.one x (List.mem_of_mem_drop (List.mem_of_mem_take hx)), by have := h.cap; simp only; omega, h.pos⟩

theorem OwnS.of {e : Nat} {L : List Blk} (h : OwnS e z s (xs.flatMap cs) L) (hA : At w0 w ls) (hs : L.Sublist ls) (one : ∀ x ∈ xs, (cs x).length = z) (pos : 0 < z) : SlOf w s z cs xs := ⟨h.sl hA hs, one, h.cap, pos⟩
theorem SlO.of {e : Nat} (h : SlO w0 w ls e z s (xs.flatMap cs)) (one : ∀ x ∈ xs, (cs x).length = z) (pos : 0 < z) : SlOf w s z cs xs := ⟨h.sl, one, h.cap, pos⟩
end

theorem r_ldN {sh : Sh} {n : Nat} {p : Addr} {k : sh.T → World → Prop} (x : sh.T) (hx : ldOk w n p sh x) (h : k x w) : ((real P R).ld sh n p k : World → Prop) w := ⟨x, hx, h⟩

theorem run_eqi_sl {t e : TypeId} (hu : P.underlying t = some (.slice e)) (a : Option Addr) (n c d : Nat) (w : World) : (Op.equalIn (d + 1) t (.slice a n c) (.slice none 0 0)).run P w = .ok (decide (a = none)) w := by
  cases a <;> simp [Op.equalIn, run_underlying hu]
theorem run_eql_sl {t e : TypeId} (hu : P.underlying t = some (.slice e)) (x y : Operand) (a : Option Addr) (n c : Nat) (w : World) : (eqB .eql t x y (.slice a n c) (.slice none 0 0)).run P w = .ok (.bool (decide (a = none))) w := by
  have h1 := run_eqi_sl hu a n c 9999 w
  simp [eqB, eqGuard, binOp, Op.equal, Op.maxDepth, h1]
end Go.Sx
