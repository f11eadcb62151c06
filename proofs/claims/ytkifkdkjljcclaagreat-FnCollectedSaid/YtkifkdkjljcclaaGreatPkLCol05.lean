/- Own slices told apart from the world; slices of records; reslicing with three bounds; copies; cleared cells. More rules for own slices: shrunk, cleared, copied into, a string made of bytes, a clone. From a function's contract to the given statement: arguments opened (arrays of bytes, slices of such), the row's step, for any law that returns true. -/
import Derived.Deep.Slices
import Derived.Laws.BytesString
import Derived.Carry
import Derived.OpenShut
import Derived.ProofKit
import Derived.Test.YtkifkdkjljcclaaGreatPkLCol04
namespace Go.Sx
open Go.RowKit (Below)
open Go.Deep (add_add)
variable {P : Program} {R : Value → World → Prop} {w0 w : World} {ls : List Blk}

theorem At.perm {l l' : List Blk} (h : At w0 w l) (hp : l.Perm l') : At w0 w l' :=
  ⟨h.below, fun x hx => h.own x (hp.mem_iff.2 hx), fun x hx => h.ge x (hp.mem_iff.2 hx), (hp.map _).nodup_iff.1 h.nodup⟩
theorem At.rot {A B C : List Blk} (h : At w0 w (A ++ (B ++ C))) : At w0 w (B ++ (A ++ C)) :=
  h.perm (by rw [← List.append_assoc, ← List.append_assoc]; exact List.perm_append_comm.append_right C)
theorem At.swap {A B : List Blk} (h : At w0 w (A ++ B)) : At w0 w (B ++ A) := h.perm List.perm_append_comm
theorem At.mid {a : Blk} {A C : List Blk} (h : At w0 w (a :: (A ++ C))) : At w0 w (A ++ (a :: C)) := h.perm List.perm_middle.symm
theorem At.unmid {a : Blk} {A C : List Blk} (h : At w0 w (A ++ (a :: C))) : At w0 w (a :: (A ++ C)) := h.perm List.perm_middle
theorem At.right {A B : List Blk} (h : At w0 w (A ++ B)) : At w0 w B := h.take _ (List.sublist_append_right _ _)
theorem At.left {A B : List Blk} (h : At w0 w (A ++ B)) : At w0 w A := h.take _ (List.sublist_append_left _ _)
theorem At.tail {a : Blk} {B : List Blk} (h : At w0 w (a :: B)) : At w0 w B := h.take _ (List.sublist_cons_self _ _)

theorem At.join {w' : World} {L : List Blk} (hA : At w0 w ls) (h : At w w' L) : At w0 w' (L ++ ls) := by
  have hA' := hA.trans h.below
  refine ⟨hA'.below, ?_, ?_, ?_⟩
  · intro x hx
    rcases List.mem_append.1 hx with hx | hx
    · exact h.own x hx
    · exact hA'.own x hx
  · intro x hx
    rcases List.mem_append.1 hx with hx | hx
    · exact Nat.le_trans hA.size (h.ge x hx)
    · exact hA'.ge x hx
  · rw [List.map_append, List.nodup_append]
    refine ⟨h.nodup, hA'.nodup, ?_⟩
    intro a ha b hb hab
    obtain ⟨x, hx, rfl⟩ := List.mem_map.1 ha
    obtain ⟨y, hy, rfl⟩ := List.mem_map.1 hb
    have h1 := h.ge x hx
    have h2 := lt_of_some (hA.own y hy)
    omega
def OwnS (e z : Nat) (s : Sl) (xs : List Value) (L : List Blk) : Prop :=
  xs.length = s.n * z ∧ ((s.a = none ∧ s.n = 0 ∧ s.c = 0 ∧ L = []) ∨ ∃ g cur, L = [(g, cur, e)] ∧ s.a = some ⟨g, 0, none⟩ ∧ s.n ≤ s.c ∧ s.c ≤ maxLen ∧ cur.size = s.c * z ∧ cur.toList.take xs.length = xs)

theorem SlO.split {e z : Nat} {s : Sl} {xs : List Value} (h : SlO w0 w ls e z s xs) : ∃ L, OwnS e z s xs L ∧ At w0 w (L ++ ls) := by
  rcases h.own with ⟨ha, hn, hc⟩ | ⟨g, cur, ha, hA, h1, h2, h3, h4⟩
  · exact ⟨[], ⟨h.len, .inl ⟨ha, hn, hc, rfl⟩⟩, h.at_⟩
  · exact ⟨[(g, cur, e)], ⟨h.len, .inr ⟨g, cur, rfl, ha, h1, h2, h3, h4⟩⟩, hA⟩
theorem OwnS.slo {e z : Nat} {s : Sl} {xs : List Value} {L : List Blk} (h : OwnS e z s xs L) (hA : At w0 w (L ++ ls)) : SlO w0 w ls e z s xs := by
  obtain ⟨hl, h⟩ := h
  rcases h with ⟨ha, hn, hc, rfl⟩ | ⟨g, cur, rfl, ha, h1, h2, h3, h4⟩
  · exact ⟨hA, hl, .inl ⟨ha, hn, hc⟩⟩
  · exact ⟨hA.right, hl, .inr ⟨g, cur, ha, hA, h1, h2, h3, h4⟩⟩
theorem OwnS.nil (e z : Nat) : OwnS e z ⟨none, 0, 0⟩ [] [] := ⟨by simp, .inl ⟨rfl, rfl, rfl, rfl⟩⟩
theorem OwnS.sl {e z : Nat} {s : Sl} {xs : List Value} {L : List Blk} (h : OwnS e z s xs L) (hA : At w0 w ls) (hs : L.Sublist ls) : SlAt w s z xs := (h.slo (ls := []) (by simpa using hA.take _ hs)).sl
theorem OwnS.cap {e z : Nat} {s : Sl} {xs : List Value} {L : List Blk} (h : OwnS e z s xs L) : s.n ≤ s.c := by
  rcases h.2 with ⟨_, h1, h2, _⟩ | ⟨_, _, _, _, h1, _⟩ <;> omega
theorem SlO.cap {e z : Nat} {s : Sl} {xs : List Value} (h : SlO w0 w ls e z s xs) : s.n ≤ s.c := by
  obtain ⟨L, h, _⟩ := h.split
  exact h.cap
theorem OwnS.max {e z : Nat} {s : Sl} {xs : List Value} {L : List Blk} (h : OwnS e z s xs L) : s.c ≤ maxLen := by
  rcases h.2 with ⟨_, h1, h2, _⟩ | ⟨_, _, _, _, h1, h2, _⟩
  · rw [h2]; exact Nat.zero_le _
  · exact h2

theorem SlO.own_of {w' : World} {e z : Nat} {s : Sl} {xs : List Value} (hA : At w0 w ls) (h : SlO w w' [] e z s xs) : ∃ L, OwnS e z s xs L ∧ At w0 w' (L ++ ls) := (SlO.lift hA h).split

theorem r_stO {L : List Blk} {e z n : Nat} {s : Sl} {xs : List Value} {p q : Addr} {v : Value} {k : World → Prop}
    (hA : At w0 w (L ++ ls)) (hO : OwnS e z s xs L) (hp : s.a = some p) (o : Nat) (hq : q = p.add o) (hn : v.cells.size = n) (ho : o + n ≤ xs.length) (h1 : ∀ u ∈ v.cells.toList, oneC u = true)
    (h : ∀ w' L', At w0 w' (L' ++ ls) → OwnS e z s (xs.take o ++ v.cells.toList ++ xs.drop (o + n)) L' → k w') : ((real P R).st n q v k : World → Prop) w := by
  obtain ⟨hl, hO⟩ := hO
  rcases hO with ⟨ha, _⟩ | ⟨g, cur, rfl, ha, hnc, hcm, hcs, htk⟩
  · rw [hp] at ha; cases ha
  rw [hp] at ha
  cases ha
  subst hq
  rw [add_lit, Nat.zero_add]
  have hb : w.heap[g]? = some (.cells cur e (0, 0)) := hA.get (i := 0) rfl
  have hxc : xs.length ≤ cur.size := by rw [hl, hcs]; exact Nat.mul_le_mul_right _ hnc
  obtain ⟨k1, k2, k3, k4, k5, k6, k7⟩ := stW_heap v.cells.toList o 0 w cur hb (by simp; omega) h1
  have hvl : v.cells.toList.length = n := by simpa using hn
  have hlen : (xs.take o ++ v.cells.toList ++ xs.drop (o + n)).length = xs.length := by simp [hvl]; omega
  refine ⟨hn, k1, h _ [(g, _, e)] (hA.write (i := 0) rfl k2 k3 k4 k5 k6 k7) ⟨by rw [hlen, hl], .inr ⟨g, _, rfl, hp, hnc, hcm, ?_, ?_⟩⟩⟩
  · simp [hvl]; omega
  · simp only [Nat.add_zero, hlen, hvl]
    rw [← htk]
    simp only [List.length_take, Array.length_toList]
    have e1 : min xs.length cur.size = xs.length := by omega
    rw [List.take_append, List.take_append]
    simp only [List.length_append, List.length_take, Array.length_toList, hvl, e1]
    rw [List.take_take, List.take_take]
    congr 1
    · congr 1
      · congr 1; omega
      · exact List.take_of_length_le (by rw [hvl]; omega)
    · rw [List.drop_take]
      congr 1
      omega

theorem r_mkO {t e z by_ : Nat} (hT : SlT P t e z by_) (hA : At w0 w ls) {n : Nat} (hb : by_ * n ≤ 281474976710656) (hn : n ≤ 281474976710656) {k : Sl → World → Prop}
    (h : ∀ s xs L w', At w0 w' (L ++ ls) → OwnS e z s xs L → s.n = n → (∃ p, s.a = some p) → k s w') :
    ((real P R).sem (Instr.makeSlice t (.int .i64 (n : Int)) (.int .i64 (n : Int))) .slice k : World → Prop) w :=
  r_mk hT hA hb hn fun g cur w' hA' hcs => h ⟨some ⟨g, 0, none⟩, n, n⟩ cur.toList [(g, cur, e)] w' hA' ⟨by simpa using hcs, .inr ⟨g, cur, rfl, rfl, Nat.le_refl _, by unfold maxLen; show n ≤ _; omega, hcs, List.take_of_length_le (Nat.le_refl _)⟩⟩ rfl ⟨_, rfl⟩

theorem OwnS.addr {e z : Nat} {s : Sl} {xs : List Value} {L : List Blk} (h : OwnS e z s xs L) (hn : 0 < s.n) : ∃ p, s.a = some p := by
  rcases h.2 with ⟨_, h0, _⟩ | ⟨g, _, _, ha, _⟩
  · omega
  · exact ⟨_, ha⟩

section
variable {α : Type}

structure SlOf (w : World) (s : Sl) (z : Nat) (cs : α → List Value) (xs : List α) : Prop where
  sl : SlAt w s z (xs.flatMap cs)
  one : ∀ x ∈ xs, (cs x).length = z
  cap : s.n ≤ s.c
  pos : 0 < z

theorem flatMap_length {z : Nat} {cs : α → List Value} : ∀ {xs : List α}, (∀ x ∈ xs, (cs x).length = z) → (xs.flatMap cs).length = xs.length * z
  | [], _ => by simp
  | x :: r, h => by
    rw [List.flatMap_cons, List.length_append, flatMap_length (fun y hy => h y (by simp [hy])), h x (by simp), List.length_cons, Nat.add_mul]
    omega

theorem flatMap_get {z : Nat} {cs : α → List Value} : ∀ {xs : List α} {i : Nat} {x : α} {j : Nat} {v : Value}, (∀ x ∈ xs, (cs x).length = z) → xs[i]? = some x → (cs x)[j]? = some v → (xs.flatMap cs)[i * z + j]? = some v
  | [], i, x, j, v, _, hx, _ => by simp at hx
  | y :: r, 0, x, j, v, h, hx, hj => by
    simp at hx
    subst hx
    have : j < (cs y).length := (List.getElem?_eq_some_iff.1 hj).1
    rw [List.flatMap_cons, List.getElem?_append_left (by omega)]
    simpa using hj
  | y :: r, i + 1, x, j, v, h, hx, hj => by
    have hy := h y (by simp)
    rw [List.flatMap_cons, List.getElem?_append_right (by rw [hy, Nat.add_mul]; omega), hy]
    have e : (i + 1) * z + j - z = i * z + j := by rw [Nat.add_mul]; omega
    rw [e]
    exact flatMap_get (fun y hy => h y (by simp [hy])) (by simpa using hx) hj

variable {s : Sl} {z : Nat} {cs : α → List Value} {xs : List α}

theorem SlOf.n (h : SlOf w s z cs xs) : s.n = xs.length := by
  have h1 := h.sl.len
  rw [flatMap_length h.one] at h1
  exact (Nat.eq_of_mul_eq_mul_right h.pos h1).symm
theorem SlOf.below {w' : World} (h : SlOf w s z cs xs) (hb : Below w.heap.size w w') : SlOf w' s z cs xs := ⟨h.sl.below hb, h.one, h.cap, h.pos⟩
theorem SlOf.at (h : SlOf w0 s z cs xs) (hA : At w0 w ls) : SlOf w s z cs xs := h.below hA.below
theorem SlOf.drew (h : SlOf w s z cs xs) : SlOf w.drew s z cs xs := h.below (drew_below w)
theorem SlOf.nil (pos : 0 < z) : SlOf w ⟨none, 0, 0⟩ z cs [] := ⟨⟨by simp, fun j v hv => by simp at hv⟩, by simp, Nat.le_refl _, pos⟩

theorem SlOf.cell (h : SlOf w s z cs xs) {i : Nat} {x : α} (hx : xs[i]? = some x) : ∃ p, s.a = some p ∧ ∀ j v, (cs x)[j]? = some v → w.cell? (p.add (i * z + j)) = some v := by
  have hz := h.one x (List.mem_of_getElem? hx)
  have hp := h.pos
  obtain ⟨p, hp, _⟩ := h.sl.cell (i * z + 0) _ (flatMap_get h.one hx (List.getElem?_eq_getElem (show 0 < (cs x).length by omega)))
  refine ⟨p, hp, fun j v hv => ?_⟩
  obtain ⟨q, hq, hc⟩ := h.sl.cell (i * z + j) v (flatMap_get h.one hx hv)
  rw [hp] at hq
  cases hq
  exact hc
theorem SlOf.agg (h : SlOf w s z cs xs) {i : Nat} {x : α} (hx : xs[i]? = some x) {p : Addr} (hp : s.a = some p) : ldOk w z (p.add (i * z)) .agg (cs x).toArray := by
  obtain ⟨q, hq, hc⟩ := h.cell hx
  rw [hp] at hq
  cases hq
  refine ⟨by simpa using h.one x (List.mem_of_getElem? hx), fun j v hv => ?_⟩
  rw [add_add]
  exact hc j v (by simpa using hv)
theorem SlOf.fld (h : SlOf w s z cs xs) {i : Nat} {x : α} (hx : xs[i]? = some x) {p : Addr} (hp : s.a = some p) {sh : Sh} {y : sh.T} (j : Nat) (hy : (cs x)[j]? = some (sh.emb y)) (hs : ∀ ds, sh.emb y ≠ .agg ds) {n : Nat} : ldOk w n (p.add (i * z + j)) sh y := by
  obtain ⟨q, hq, hc⟩ := h.cell hx
  rw [hp] at hq
  cases hq
  have := hc j _ hy
  cases sh
  case agg => exact (hs y rfl).elim
  all_goals exact this
theorem SlOf.part (h : SlOf w s z cs xs) {i : Nat} {x : α} (hx : xs[i]? = some x) {p : Addr} (hp : s.a = some p) (j : Nat) {n : Nat} {l : List Value} (hl : l.length = n) (hy : ∀ k v, l[k]? = some v → (cs x)[j + k]? = some v) : ldOk w n (p.add (i * z + j)) .agg l.toArray := by
  obtain ⟨q, hq, hc⟩ := h.cell hx
  rw [hp] at hq
  cases hq
  refine ⟨by simpa using hl, fun k v hv => ?_⟩
  rw [add_add]
  have := hc (j + k) v (hy k v (by simpa using hv))
  rwa [Nat.add_assoc]

theorem SlOf.sub (h : SlOf w s z cs xs) (l k : Nat) (h1 : l ≤ k) (h2 : k ≤ s.n) : SlOf w ⟨if s.c = l then s.a else s.a.map (·.add (l * z)), k - l, s.c - l⟩ z cs ((xs.drop l).take (k - l)) := by
  have hs := h.sl.slice h.pos l k h1 h2 h.cap
  have e : ((xs.flatMap cs).drop (l * z)).take ((k - l) * z) = ((xs.drop l).take (k - l)).flatMap cs := by
    have key : ∀ (n : Nat) (ys : List α), (∀ x ∈ ys, (cs x).length = z) → (ys.flatMap cs).take (n * z) = (ys.take n).flatMap cs ∧ (ys.flatMap cs).drop (n * z) = (ys.drop n).flatMap cs := by
      intro n
      induction n with
      | zero => intro ys _; simp
      | succ n ih =>
        intro ys hy
        cases ys with
        | nil => simp
        | cons y r =>
          have hz := hy y (by simp)
          obtain ⟨i1, i2⟩ := ih r (fun x hx => hy x (by simp [hx]))
          rw [List.flatMap_cons, Nat.add_mul, Nat.one_mul, Nat.add_comm, List.take_succ_cons, List.drop_succ_cons, List.flatMap_cons]
          constructor
          · rw [List.take_append, hz, List.take_of_length_le (by omega), Nat.add_sub_cancel_left, i1]
          · rw [List.drop_append, hz, List.drop_eq_nil_of_le (by omega), Nat.add_sub_cancel_left, i2, List.nil_append]
    rw [(key l xs h.one).2, (key (k - l) _ (fun x hx => h.one x (List.mem_of_mem_drop hx))).1]
  rw [e] at hs
  exact ⟨hs, fun x hx => h.one x (List.mem_of_mem_drop (List.mem_of_mem_take hx)), by have := h.cap; simp only; omega, h.pos⟩

theorem OwnS.of {e : Nat} {L : List Blk} (h : OwnS e z s (xs.flatMap cs) L) (hA : At w0 w ls) (hs : L.Sublist ls) (one : ∀ x ∈ xs, (cs x).length = z) (pos : 0 < z) : SlOf w s z cs xs := ⟨h.sl hA hs, one, h.cap, pos⟩
theorem SlO.of {e : Nat} (h : SlO w0 w ls e z s (xs.flatMap cs)) (one : ∀ x ∈ xs, (cs x).length = z) (pos : 0 < z) : SlOf w s z cs xs := ⟨h.sl, one, h.cap, pos⟩
end

theorem r_ldN {sh : Sh} {n : Nat} {p : Addr} {k : sh.T → World → Prop} (x : sh.T) (hx : ldOk w n p sh x) (h : k x w) : ((real P R).ld sh n p k : World → Prop) w := ⟨x, hx, h⟩

theorem r_dp {o : Option Addr} {a : Addr} {k : Addr → World → Prop} (ho : o = some a) (h : k a w) : ((dpT (real P R) o k : World → Prop)) w := by subst ho; exact h

theorem r_semL {s : Sem Value} {l : List Sh} {k : TL l → World → Prop} (x : TL l) (w' : World) (hr : s.run P w = .ok (valL (embL l x)) w') (h : k x w') : ((real P R).semL s l k : World → Prop) w := ⟨x, w', hr, h⟩
theorem run_eqi_sl {t e : TypeId} (hu : P.underlying t = some (.slice e)) (a : Option Addr) (n c d : Nat) (w : World) : (Op.equalIn (d + 1) t (.slice a n c) (.slice none 0 0)).run P w = .ok (decide (a = none)) w := by
  cases a <;> simp [Op.equalIn, run_underlying hu]
theorem run_eql_sl {t e : TypeId} (hu : P.underlying t = some (.slice e)) (x y : Operand) (a : Option Addr) (n c : Nat) (w : World) : (eqB .eql t x y (.slice a n c) (.slice none 0 0)).run P w = .ok (.bool (decide (a = none))) w := by
  have h1 := run_eqi_sl hu a n c 9999 w
  simp [eqB, eqGuard, binOp, Op.equal, Op.maxDepth, h1]
theorem run_neq_str (t : TypeId) (x y : Operand) (a b : ByteArray) (w : World) : (eqB .neq t x y (.string a) (.string b)).run P w = .ok (.bool (!(a.toList == b.toList))) w := by
  simp [eqB, eqGuard, binOp, Op.stringOp]
theorem run_geq_str (t : TypeId) (x y : Operand) (a b : ByteArray) (w : World) : (eqB .geq t x y (.string a) (.string b)).run P w = .ok (.bool (!Op.bytesLess a.toList b.toList)) w := by
  simp [eqB, eqGuard, binOp, Op.stringOp]

end Go.Sx

namespace Go.Sx
open Go.RowKit (Below)
open Go.Deep (add_add)
variable {P : Program} {R : Value → World → Prop} {w0 w : World} {ls L : List Blk} {e z : Nat} {s : Sl} {xs : List Value}

theorem r_drawB {P : Program} {R : Value → World → Prop} {w0 w : World} {ls : List Blk} {s : World → Prop} (hA : At w0 w ls) (h : ∀ w', At w0 w' ls → Below w.heap.size w w' → s w') : ((real P R).draw s : World → Prop) w := h _ hA.drew (drew_below w)

theorem add_zero (p : Addr) : p.add 0 = p := by unfold Addr.add; simp

theorem ldOk_own {w0 w : World} {ls : List Blk} (hA : At w0 w ls) (i : Nat) {b : Nat} {cs : Array Value} {t : TypeId} (hl : ls[i]? = some (b, cs, t)) (o : Nat) {sh : Sh} {x : sh.T} (hx : cs[o]? = some (sh.emb x)) (hs : ∀ ds, sh.emb x ≠ .agg ds) {n : Nat} : ldOk w n ((⟨b, 0, none⟩ : Addr).add o) sh x := by
  have hc : w.cell? ((⟨b, 0, none⟩ : Addr).add o) = some (sh.emb x) := by rw [add_lit, Nat.zero_add]; simp [World.cell?, hA.get hl, hx]
  cases sh
  case agg => exact (hs x rfl).elim
  all_goals exact hc

theorem r_chk2 {P : Program} {R : Value → World → Prop} {w : World} {h1 h2 : Held} {k : World → Prop} (e1 : ldOk w h1.n h1.p h1.sh h1.x) (e2 : ldOk w h2.n h2.p h2.sh h2.x) (h : k w) : ((real P R).chk [h1, h2] k : World → Prop) w :=
  ⟨fun x hx => by
    rcases List.mem_cons.1 hx with e | hx
    · rw [e]; exact e1
    · rw [List.mem_singleton.1 hx]; exact e2, h⟩

theorem r_bs1A {P : Program} {R : Value → World → Prop} {w0 w : World} {ls : List Blk} {t e z by_ : Nat} (hT : SlT P t e z by_) (hA : At w0 w ls) {v : Value} (hv : v.cells.size = z) (hz : z ≤ 16777216) {k : Sl → World → Prop} (h : ∀ s w', At w0 w' ls → Below w.heap.size w w' → SlAt w' s z v.cells.toList → s.n = 1 → k s w') :
    ((real P R).sem (Instr.buildSlice t 1 #[(0, v)]) .slice k : World → Prop) w :=
  r_bs1 hT (At.refl w) hv hz fun s w' hs hn => h s w' (hA.trans hs.at_.below) hs.at_.below hs.sl hn

theorem OwnS.shrink (h : OwnS e z s xs L) (n : Nat) (hn : n ≤ s.n) : OwnS e z ⟨s.a, n, s.c⟩ (xs.take (n * z)) L := by
  obtain ⟨hl, h⟩ := h
  have hm : n * z ≤ xs.length := by rw [hl]; exact Nat.mul_le_mul_right _ hn
  refine ⟨by simp; omega, ?_⟩
  rcases h with ⟨ha, h0, hc, rfl⟩ | ⟨g, cur, rfl, ha, hnc, hcm, hcs, htk⟩
  · exact .inl ⟨ha, by show n = 0; omega, hc, rfl⟩
  · refine .inr ⟨g, cur, rfl, ha, by show n ≤ s.c; omega, hcm, hcs, ?_⟩
    rw [List.length_take, Nat.min_eq_left hm]
    rw [← htk, List.take_take, Nat.min_eq_left hm]

theorem r_slPre {a : Option Addr} {n c z : Nat} {lo hi : Option Int} {k : Sl → World → Prop} (h : Nat) (hl : lo.getD 0 = (0 : Int)) (hh : hi.getD n = (h : Int)) (h2 : h ≤ c)
    (hk : k ⟨a, h, c⟩ w) : ((real P R).sl a n c z lo hi none k : World → Prop) w := by
  refine r_sl 0 h (by simpa using hl) hh (Nat.zero_le _) h2 ?_
  have e1 : (if c = 0 then a else a.map (·.add (0 * z))) = a := by
    split
    · rfl
    · cases a <;> simp [add_zero]
  rw [e1]
  exact hk
theorem r_slSuf {a : Option Addr} {n c z : Nat} {lo hi : Option Int} {k : Sl → World → Prop} (l : Nat) (hl : lo.getD 0 = (l : Int)) (hh : hi.getD n = (n : Int)) (h1 : l ≤ n) (h2 : n ≤ c)
    (hk : ∀ y : Sl, y.n = n - l → y.c = c - l → (l < n → y.a = a.map (·.add (l * z))) → k y w) : ((real P R).sl a n c z lo hi none k : World → Prop) w :=
  r_sl l n hl hh h1 h2 (hk _ rfl rfl fun hlt => by
    show (if c = l then a else _) = _
    rw [if_neg (by omega)])

def zOne (P : Program) (e : TypeId) : Bool := match P.info? e with
  | some i => match i.zero with | some v => v.cells.toList.all oneC | none => false
  | none => false

theorem zeroCells_one {zero : Array Value} (h : ∀ v ∈ zero.toList, oneC v = true) (hz : 0 < zero.size) (n : Nat) : ∀ v ∈ (Builtin.zeroCells zero n).toList, oneC v = true := by
  intro v hv
  simp only [Builtin.zeroCells, Array.toList_map, List.mem_map] at hv
  obtain ⟨i, _, rfl⟩ := hv
  have hi : i % zero.size < zero.size := Nat.mod_lt _ hz
  rw [getElem!_pos zero _ hi]
  exact h _ (by simp)

theorem own_stores {p : Addr} {news : List Value} (hA : At w0 w (L ++ ls)) (hO : OwnS e z s xs L) (hp : s.a = some p) (o : Nat) (ho : o + news.length ≤ xs.length) (h1 : ∀ u ∈ news, oneC u = true) :
    ∃ w' L', (storeCells (p.add o) news 0).run P w = .ok () w' ∧ At w0 w' (L' ++ ls) ∧ OwnS e z s (xs.take o ++ news ++ xs.drop (o + news.length)) L' := by
  have key := r_stO (P := P) (R := fun _ _ => False) (n := news.length) (q := p.add o) (v := .agg news.toArray) (k := fun w' => ∃ L', At w0 w' (L' ++ ls) ∧ OwnS e z s (xs.take o ++ news ++ xs.drop (o + news.length)) L') hA hO hp o rfl (by simp [Value.cells]) ho (by simpa [Value.cells] using h1)
    (fun w' L' hA' hO' => ⟨L', hA', by simpa [Value.cells] using hO'⟩)
  obtain ⟨_, hst, L', hA', hO'⟩ := key
  have hst' : stOk w (p.add o) news 0 := by simpa [Value.cells] using hst
  have hA'' : At w0 (stW w (p.add o) news 0) (L' ++ ls) := by simpa [Value.cells] using hA'
  exact ⟨_, L', run_storeCells _ _ _ _ hst', hA'', hO'⟩

theorem r_clearO {t ty by_ : Nat} (hT : SlT P t e z by_) (hz1 : zOne P e = true) (hA : At w0 w (L ++ ls)) (hO : OwnS e z s xs L) {y : Sl} (m : Nat) (hm : m + y.n ≤ s.n) (hy : 0 < y.n → y.a = s.a.map (·.add (m * z))) {k : Value → World → Prop}
    (h : ∀ v w' L' xs', At w0 w' (L' ++ ls) → OwnS e z s xs' L' → xs'.take (m * z) = xs.take (m * z) → k v w') : ((real P R).sem (Builtin.clear_ #[t] ty #[.slice y.a y.n y.c]) .val k : World → Prop) w := by
  obtain ⟨i, zv, hi, hzv, hsz, _, hzs⟩ := hT.ex
  have hpos := hT.pos
  rcases Nat.eq_zero_or_pos y.n with h0 | h0
  · refine ⟨.tuple #[], w, ?_, h _ w L xs hA hO rfl⟩
    rw [h0]
    cases y.a <;> simp [Builtin.clear_, run_underlying hT.ut, Sh.emb]
  · have hya := hy h0
    obtain ⟨p, hp⟩ := hO.addr (by omega)
    rw [hp] at hya
    simp only [Option.map_some] at hya
    have hall : ∀ v ∈ zv.cells.toList, oneC v = true := by
      unfold zOne at hz1
      rw [hi] at hz1
      simp only [hzv] at hz1
      exact List.all_eq_true.1 hz1
    have hlen : (Builtin.zeroCells zv.cells y.n).toList.length = y.n * z := by simp [size_zeroCells, hzs]
    have hbound : m * z + y.n * z ≤ xs.length := by rw [hO.1, ← Nat.add_mul]; exact Nat.mul_le_mul_right _ hm
    obtain ⟨w', L', hr, hA', hO'⟩ := own_stores (P := P) (news := (Builtin.zeroCells zv.cells y.n).toList) hA hO hp (m * z) (by rw [hlen]; exact hbound) (zeroCells_one hall (by omega) _)
    refine ⟨.tuple #[], w', ?_, h _ w' L' _ hA' hO' ?_⟩
    · rw [hya]
      obtain ⟨q, hq⟩ : ∃ q, y.n = q + 1 := ⟨y.n - 1, by omega⟩
      rw [hq] at hr ⊢
      simp [Builtin.clear_, run_underlying hT.ut, Sh.emb, zeroValue, typeInfo, hi, hzv, hr]
    · rw [List.append_assoc, List.take_append_of_le_length (by simp; omega), List.take_take, Nat.min_self]

def strOf (l : List Int) : ByteArray := l.foldl (fun r n => r.push (UInt8.ofNat n.toNat)) ByteArray.empty
theorem strOf_data (l : List Int) (r : ByteArray) : (l.foldl (fun r n => r.push (UInt8.ofNat n.toNat)) r).data.toList = r.data.toList ++ l.map fun n => UInt8.ofNat n.toNat := by
  induction l generalizing r with
  | nil => simp
  | cons x l ih => rw [List.foldl_cons, ih]; simp
theorem r_toStr {src dst : TypeId} (hs : P.underlying src = some (.slice e)) (he : P.underlying e = some (.int .u8)) (hd : P.underlying dst = some .string) {l : List Int} (hl : SlAt w s 1 (l.map (Value.int .u8))) {k : ByteArray → World → Prop}
    (h : k (strOf l) w) : ((real P R).sem (convert src dst (.slice s.a s.n s.c)) .str k : World → Prop) w := by
  refine ⟨strOf l, w, ?_, h⟩
  rw [run_convert_bytes_string w src dst e _ _ _ hs he hd]
  cases ha : s.a with
  | none =>
    have : l = [] := by
      cases l with
      | nil => rfl
      | cons v r => obtain ⟨p, hp, _⟩ := hl.cell 0 _ rfl; rw [ha] at hp; cases hp
    subst this
    simp [Conv.bytesToString, Sh.emb, strOf]
  | some p =>
    have hlen : l.length = s.n := by have := hl.len; simp at this; omega
    have hlc := run_loadCells_list (P := P) w p (l.map (Value.int .u8)) (fun j v hv => by
      obtain ⟨q, hq, hc⟩ := hl.cell j v hv
      rw [ha] at hq
      cases hq
      exact hc)
    rw [List.length_map, hlen] at hlc
    exact run_bytesToString w p s.n s.c l hlc

end Go.Sx

namespace Go.Sx
open Go.ChangeShapes Go.WideShapes Go.ChangeAt Go.RowKit Go.Deep

section
variable {H : Type} {enc : TypeId × Value → H} {P : Program} {w : World} {base : Nat} {spare : Nat → Bool} {held : Bool}

theorem open_u8s {r : Reach} {b0 : Nat} {t e : TypeId} {v : Value} {d : DataW H} {ps : List MemPlace} (ht : P.underlying t = some (.slice e)) (he : P.underlying e = some (.int .u8)) (hc : P.cellsOf e = 1)
    (hval : Value.okWide P w r b0 t v) (hd : DataW.Trod enc P w base spare held t v d ps) : ∃ (s : Sl) (l : List Int), v = .slice s.a s.n s.c ∧ SlAt w s 1 (l.map (Value.int .u8)) ∧ (∀ b ∈ l, 0 ≤ b ∧ b < 256) ∧ s.n ≤ s.c ∧ s.c ≤ maxLen := by
  obtain ⟨a, len, cap, rfl⟩ := okWide_slice ht hval
  obtain ⟨fuel, hf⟩ := hd
  rcases open_slice ht hf with ⟨hcs, _⟩ | ⟨a', len', cap', m, k, D, Pl, hcs, _, hl, hm, hmm, _, hx⟩
  · simp [Value.cells] at hcs
    obtain ⟨rfl, rfl, rfl⟩ := hcs
    exact ⟨⟨none, 0, 0⟩, [], rfl, ⟨by simp, fun j v hv => by simp at hv⟩, by simp, Nat.le_refl _, Nat.zero_le _⟩
  · simp [Value.cells] at hcs
    obtain ⟨rfl, rfl, rfl⟩ := hcs
    have hlm : len ≤ m := by rw [hmm]; split <;> omega
    have each : ∀ j, j < len → ∃ b : Int, w.cell? (a'.add j) = some (.int .u8 b) ∧ 0 ≤ b ∧ b < 256 := by
      intro j hj
      obtain ⟨cs', h1, h2⟩ := hx j (by omega)
      rw [hc, Nat.mul_one] at h1
      obtain ⟨_, hlen, hcell⟩ := World.cells?_some h1
      obtain ⟨b, hb, _, hw⟩ := DataW.trod_int he h2
      have hb2 := bounds_u8 hw
      refine ⟨b, ?_, hb2.1, by omega⟩
      have := hcell 0 (by omega)
      rw [add_add, Nat.add_zero] at this
      rw [this, hb]
      rfl
    obtain ⟨g, hg⟩ := choose_lt (α := Int) (p := fun j b => w.cell? (a'.add j) = some (.int .u8 b) ∧ 0 ≤ b ∧ b < 256) each
    refine ⟨⟨some a', len, cap⟩, (List.range len).map g, rfl, ⟨by simp, fun j v hv => ⟨a', rfl, ?_⟩⟩, ?_, hl, hm⟩
    · rcases Nat.lt_or_ge j len with hj | hj
      · rw [(hg j hj).1, ← hv]; simp [hj]
      · rw [List.getElem?_eq_none (by simp; omega)] at hv; cases hv
    · intro b hb
      simp only [List.mem_map, List.mem_range] at hb
      obtain ⟨j, hj, rfl⟩ := hb
      exact (hg j hj).2

theorem trodAll_stays (hl : laidOutB P = true) {W W' : World} : ∀ {ts : List TypeId} {vs : List Value} {ds : List (DataW H)} {ps : List MemPlace}, (∀ t ∈ ts, P.readableRec t = true ∧ t < P.types.size) → DataW.TrodAll enc P W 0 (fun _ => true) true ts vs ds ps → Below W.heap.size W W' →
    (∀ x ∈ ps, x.block < W.heap.size) → DataW.TrodAll enc P W' 0 (fun b => decide (b < W.heap.size)) true ts vs ds ps
  | [], vs, ds, ps, _, h, _, _ => by
    obtain ⟨rfl, rfl, rfl⟩ := trodAll_nil h
    exact trodAll_mk0
  | t :: ts, vs, ds, ps, ht, h, hb, hlt => by
    obtain ⟨v, vs', d, ds', p, q, rfl, rfl, rfl, h1, h2⟩ := trodAll_cons h
    have ht1 := ht t (by simp)
    exact trodAll_cons_mk (Below.trod hl ht1.1 ht1.2 h1 hb fun x hx => hlt x (by simp [hx])) (trodAll_stays hl (fun t h => ht t (by simp [h])) h2 hb fun x hx => hlt x (by simp [hx]))

theorem trodAll_len : ∀ {ts : List TypeId} {vs : List Value} {ds : List (DataW H)} {ps : List MemPlace}, DataW.TrodAll enc P w base spare held ts vs ds ps → ds.length = ts.length
  | [], _, _, _, h => by obtain ⟨_, rfl, _⟩ := trodAll_nil h; rfl
  | _ :: _, _, _, _, h => by
    obtain ⟨v, vs', d, ds', p, q, rfl, rfl, rfl, _, h2⟩ := trodAll_cons h
    simp [trodAll_len h2]
end

theorem law_lifted {C : Checked} {os : Os} {f : FuncId} {fn : Func} {s : ChangeSpec} {conds : List PathCond} {tb : TypeId} (own : ownKnob C.prog.godebug = none) (started : os.Started) (noInit : C.prog.inits.idxOf? f = none) (hfn : C.prog.funcs[f]? = some fn)
    (hl : laidOutB C.prog = true) (hpar : (fn.params.toList.all fun t => C.prog.readableRec t && decide (t < C.prog.types.size)) = true) (hres : fn.resultTypes = #[tb]) (hb : C.prog.underlying tb = some .bool) (hv : s.vars = [])
    {H : Type} {enc : TypeId × Value → H}
    (hspec : ∀ ds : List (DataW H), ds.length = fn.params.size → (s.fn H ds).results = [.lit (.bool true)] ∧ (s.fn H ds).args = ds ∧ (s.fn H ds).vars = [])
    (witness : ∃ (w : World) (tape : Tape) (i : Input), w.os = os ∧ (w.forCall tape i).Shaped C.prog ∧ i.vars = [] ∧ Input.okWide C.prog (w.forCall tape i) .any w.heap.size f i ∧
      s.pre6 enc C.prog fn conds false (w.forCall tape i).memory i.args ∧ Assume.holds {} C.prog (lone (Frame.enter C.prog f i.args .normal) [] (w.forCall tape i)))
    (contract : ∀ (W : World) (base : Nat) (args : Array Value) (ds : List (DataW H)) (p : List MemPlace), (∀ (j : Nat) t v, fn.params[j]? = some t → args[j]? = some v → Value.okWide C.prog W .any base t v) →
      DataW.TrodAll enc C.prog W 0 (fun _ => true) true fn.params.toList args.toList ds p → Ret C.prog f args.toList W [.bool] (fun r _ => r = true)) :
    ReturnsInHanded {} C os f .any (s.pre6 enc C.prog fn conds false) (s.post enc C.prog fn false true false false) := by
  refine returnsInHanded_of_change own started noInit hfn witness ?_
  intro W base args ds gs before hval hW _ _
  have hW' := hW
  obtain ⟨p, q, hA, hV, rfl, hfz, hnd⟩ := hW
  rw [hv] at hV
  obtain ⟨rfl, rfl⟩ := trodVars_none hV
  have hlen := trodAll_len hA
  obtain ⟨e1, e2, e3⟩ := hspec ds (by simpa using hlen)
  have hlt : ∀ x ∈ p, x.block < W.heap.size := fun x hx => by simpa using hW'.lt x (by simpa using hx)
  have hcall : Calls C.prog f args W fun e w' => ∃ v, e = .returned v ∧ RR W [.bool] (fun r _ => r = true) v w' := contract W base args ds p hval hA
  refine hcall.mono fun e W' ⟨v, he, x, hv', hbel, hx⟩ => ?_
  subst hx
  have hv'' : v = .bool true := hv'
  subst hv''
  refine ⟨_, he, ds, [], p ++ [], [], p, [], hW', ?_, ?_, ?_, hbel.frame _, fun h => by cases h⟩
  · rw [List.append_nil, e1, hres]
    exact trodAll_mk1 (shut_bool hb _)
  · rw [List.append_nil, e2]
    refine trodAll_stays hl (fun t ht => ?_) hA hbel hlt
    have := List.all_eq_true.1 hpar t ht
    simpa using this
  · rw [List.append_nil, e3, hv]
    rfl

end Go.Sx
