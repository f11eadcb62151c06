/- More rules: slice literals of two, made slices, equal arrays of bytes, calls told of the whole world. Own slices told apart from the world; slices of records; reslicing with three bounds; copies; cleared cells. More rules for own slices: shrunk, cleared, copied into, a string made of bytes, a clone. -/
import Derived.ChangeKeysEq
import Derived.Laws.MakeOwn
import Derived.Deep.Slices
import Derived.Laws.BytesString
import Derived.Test.YtkifkdkjljcclaaGreatPkLTor04
namespace Go.Sx
open Go.RowKit (Below)
variable {P : Program} {R : Value → World → Prop} {w0 w : World} {ls : List Blk}

theorem run_bs2 {t e z by_ : Nat} (hT : SlT P t e z by_) {v u : Value} (hv : v.cells.size = z) (hu : u.cells.size = z) (hz : z ≤ 4096) (w : World) :
    (Instr.buildSlice t 2 #[(0, v), (1, u)]).run P w = .ok (.slice (some ⟨w.heap.size, 0, none⟩) 2 2) (w.alloc (.cells (v.cells ++ u.cells) e)) := by
  obtain ⟨i, zv, hi, hzv, hsz, hby, hzs⟩ := hT.ex
  have h0 : ¬ (16777216 < 2 * z) := by omega
  have hz0 : ¬ z = 0 := by have := hT.pos; omega
  have hf : ∀ cs : Array Value, cs.size = 2 * z → Instr.fill (fun i => some (i * z, z)) cs [(0, v), (1, u)] = some (v.cells ++ u.cells) := by
    intro cs hcs
    rw [fill_one (off := 0) hv (by omega) _ 0 (by simp) _, fill_one (off := z) hu (by simp [hv]; omega) _ 1 (by simp) []]
    simp only [Instr.fill, List.take_zero, List.nil_append, Nat.zero_add]
    congr 1
    have e1 : (v.cells.toList ++ cs.toList.drop z).take z = v.cells.toList := by
      rw [List.take_append_of_le_length (by simp [hv]), List.take_of_length_le (by simp [hv])]
    have e2 : (v.cells.toList ++ cs.toList.drop z).drop (z + z) = [] := List.drop_eq_nil_of_le (by simp [hv]; omega)
    rw [e1, e2, List.append_nil]
    apply Array.ext'
    simp
  simp [Instr.buildSlice, run_underlying hT.ut, sizeOf, typeInfo, hi, hsz, h0, hz0, zeroValue, hzv, hf, newRow]

theorem r_bs2 {t e z by_ : Nat} (hT : SlT P t e z by_) (hA : At w0 w ls) {v u : Value} (hv : v.cells.size = z) (hu : u.cells.size = z) (hz : z ≤ 4096) {k : Sl → World → Prop} (h : ∀ s w', SlO w0 w' ls e z s (v.cells.toList ++ u.cells.toList) → s.n = 2 → k s w') :
    ((real P R).sem (Instr.buildSlice t 2 #[(0, v), (1, u)]) .slice k : World → Prop) w :=
  ⟨⟨some ⟨w.heap.size, 0, none⟩, 2, 2⟩, _, run_bs2 hT hv hu hz w, h _ _ (SlO.made hA (below_alloc w _) (heap_alloc_self w _) (Nat.le_refl _) (by simp [hv, hu]; omega) (Nat.le_refl _) (by unfold maxLen; omega) (by simp [hv, hu]; omega) (by rw [List.take_of_length_le (by simp)]; simp)) rfl⟩

theorem r_mk {t e z by_ : Nat} (hT : SlT P t e z by_) (hA : At w0 w ls) {n : Nat} (hb : by_ * n ≤ 281474976710656) (hn : n ≤ 281474976710656) {k : Sl → World → Prop}
    (h : ∀ g cur w', At w0 w' ((g, cur, e) :: ls) → cur.size = n * z → k ⟨some ⟨g, 0, none⟩, n, n⟩ w') :
    ((real P R).sem (Instr.makeSlice t (.int .i64 (n : Int)) (.int .i64 (n : Int))) .slice k : World → Prop) w := by
  obtain ⟨i, zv, hi, hzv, hsz, hby, hzs⟩ := hT.ex
  have hm : ((by_ : Int) * (n : Int)) = ((by_ * n : Nat) : Int) := by simp
  have hr := run_make w t e i zv hT.ut hi hzv .i64 .i64 (n : Int) (n : Int) (by omega) (Int.le_refl _) (by rw [hby, hm]; omega) (by omega)
  refine ⟨⟨some ⟨w.heap.size, 0, none⟩, n, n⟩, w.alloc (.cells (madeCells zv.cells (n * z)) e), ?_, h _ _ _ ((hA.trans (below_alloc w _)).add (heap_alloc_self w _) hA.size (hA.fresh (Nat.le_refl _))) (size_madeCells _ _)⟩
  rw [hr, hsz]
  rfl

theorem run_eqItems_u8 {e : TypeId} (he : tyOf P e = some (.int .u8, 1)) (d : Nat) (w : World) {a b : List Int} (hl : a.length = b.length) : ∀ is : List Nat, (∀ i ∈ is, i < a.length) →
    (Op.eqItems (d + 1) e 1 (a.map (Value.int .u8)).toArray (b.map (Value.int .u8)).toArray is).run P w = .ok (is.all fun i => a.getD i 0 == b.getD i 0) w
  | [], _ => by simp [Op.eqItems]
  | i :: is, h => by
    have hi : i < a.length := h i (by simp)
    have hp : ∀ l : List Int, i < l.length → (part e (l.map (Value.int .u8)).toArray (i * 1)).run P w = .ok (.int .u8 (l.getD i 0)) w := fun l hl =>
      run_part (sh := .int .u8) he (by simp [aggB]) (by simp [hl, List.getD]) w
    obtain ⟨dd, ii, hd, hinfo, hsh, _⟩ := tyOf_some he
    have hk : P.underlying e = some (.int .u8) := by
      rw [hd]
      cases dd <;> first | (simp_all [shD]; done) | (simp only [shD, ptrSh] at hsh; split at hsh <;> simp_all)
    have ih := run_eqItems_u8 he d w hl is fun j hj => h j (by simp [hj])
    simp only [Op.eqItems, Sem.run_bind, hp a hi, hp b (by omega), Result.andThen_ok, run_equalIn_int w d e .u8 .u8 _ _ hk]
    simp only [List.all_cons]
    generalize (a.getD i 0 == b.getD i 0) = c
    cases c
    · simp
    · simpa using ih

theorem all_getD {a b : List Int} (hl : a.length = b.length) : ((List.range a.length).all fun i => a.getD i 0 == b.getD i 0) = decide (a = b) := by
  by_cases h : a = b
  · subst h; simp
  · have : ((List.range a.length).all fun i => a.getD i 0 == b.getD i 0) ≠ true := by
      intro hall
      apply h
      apply List.ext_getElem? 
      intro i
      rcases Nat.lt_or_ge i a.length with hi | hi
      · have := List.all_eq_true.1 hall i (List.mem_range.2 hi)
        simp [List.getD, hi, show i < b.length by omega] at this
        simp [hi, show i < b.length by omega, this]
      · rw [List.getElem?_eq_none hi, List.getElem?_eq_none (by omega)]
    simp only [h, decide_false]
    cases hh : ((List.range a.length).all fun i => a.getD i 0 == b.getD i 0)
    · rfl
    · exact absurd hh this

theorem cellsOf_info {t : TypeId} {i : TypeInfo} (h : P.info? t = some i) : P.cellsOf t = i.size := by simp [Program.cellsOf, h]

theorem run_eql_u8 {t e n : Nat} (hu : P.underlying t = some (.array n e)) (he : tyOf P e = some (.int .u8, 1)) (hg : P.eqGuardType P.depth t = false) (x y : Operand) {a b : List Int} (ha : a.length = n) (hb : b.length = n) (w : World) :
    (eqB .eql t x y (.agg (a.map (Value.int .u8)).toArray) (.agg (b.map (Value.int .u8)).toArray)).run P w = .ok (.bool (decide (a = b))) w := by
  obtain ⟨dd, ii, hd, hinfo, hsh, hsz⟩ := tyOf_some he
  have h1 := run_equalIn_array w 9999 (a.map (Value.int .u8)).toArray (b.map (Value.int .u8)).toArray hu hinfo
  rw [cellsOf_info hinfo, hsz, ← ha, run_eqItems_u8 he 9998 w (by omega) _ (fun i hi => List.mem_range.1 hi), all_getD (by omega)] at h1
  simp [eqB, eqGuard, hg, binOp, Op.equal, Op.maxDepth, h1]
theorem run_neq_u8 {t e n : Nat} (hu : P.underlying t = some (.array n e)) (he : tyOf P e = some (.int .u8, 1)) (hg : P.eqGuardType P.depth t = false) (x y : Operand) {a b : List Int} (ha : a.length = n) (hb : b.length = n) (w : World) :
    (eqB .neq t x y (.agg (a.map (Value.int .u8)).toArray) (.agg (b.map (Value.int .u8)).toArray)).run P w = .ok (.bool (!decide (a = b))) w := by
  obtain ⟨dd, ii, hd, hinfo, hsh, hsz⟩ := tyOf_some he
  have h1 := run_equalIn_array w 9999 (a.map (Value.int .u8)).toArray (b.map (Value.int .u8)).toArray hu hinfo
  rw [cellsOf_info hinfo, hsz, ← ha, run_eqItems_u8 he 9998 w (by omega) _ (fun i hi => List.mem_range.1 hi), all_getD (by omega)] at h1
  simp [eqB, eqGuard, hg, binOp, Op.equal, Op.maxDepth, h1]

theorem run_neqB {t : TypeId} (hu : P.underlying t = some .bool) (x y : Operand) (a b : Bool) (w : World) : (eqB .neq t x y (.bool a) (.bool b)).run P w = .ok (.bool (a != b)) w := by
  have h1 := run_equalIn_bool' w 9999 t a b hu
  simp [eqB, eqGuard, binOp, Op.equal, Op.maxDepth, h1]
  cases a <;> cases b <;> rfl

theorem r_callVR {g : FuncId} {fs cs : Array Value} {args : List Value} {l : List Sh} {R1 : Value → World → Prop} {k : TL l → World → Prop} (hg : isGo P g = true)
    (hc : Calls P g (fs.toList ++ args ++ cs.toList).toArray w fun e w' => ∃ v, e = .returned v ∧ R1 v w')
    (h : ∀ v w', R1 v w' → ∃ x, v = valL (embL l x) ∧ k x w') : ((real P R).callV (.func (.func g) fs cs) args l k : World → Prop) w :=
  ⟨g, fs, cs, rfl, hg, Calls.mono hc fun _ _ ⟨v, he, hv⟩ => let ⟨x, hx, hk⟩ := h v _ hv; ⟨x, by rw [he, hx], hk⟩⟩

theorem r_all2 {s t : World → Prop} (h1 : s w) (h2 : t w) : ((real P R).all [s, t] : World → Prop) w := ⟨h1, h2⟩
theorem r_all3 {s t u : World → Prop} (h1 : s w) (h2 : t w) (h3 : u w) : ((real P R).all [s, t, u] : World → Prop) w := ⟨h1, h2, h3⟩

end Go.Sx

namespace Go.Sx
open Go.RowKit (Below)
open Go.Deep (add_add)
variable {P : Program} {R : Value → World → Prop} {w0 w : World} {ls : List Blk}

theorem At.perm {l l' : List Blk} (h : At w0 w l) (hp : l.Perm l') : At w0 w l' :=
  ⟨h.below, fun x hx => h.own x (hp.mem_iff.2 hx), fun x hx => h.ge x (hp.mem_iff.2 hx), (hp.map _).nodup_iff.1 h.nodup⟩
theorem At.rot {A B C : List Blk} (h : At w0 w (A ++ (B ++ C))) : At w0 w (B ++ (A ++ C)) :=
  h.perm (by rw [← List.append_assoc, ← List.append_assoc]; exact List.perm_append_comm.append_right C)
theorem At.swap {A B : List Blk} (h : At w0 w (A ++ B)) : At w0 w (B ++ A) := h.perm List.perm_append_comm
theorem At.unmid {a : Blk} {A C : List Blk} (h : At w0 w (A ++ (a :: C))) : At w0 w (a :: (A ++ C)) := h.perm List.perm_middle
theorem At.right {A B : List Blk} (h : At w0 w (A ++ B)) : At w0 w B := h.take _ (List.sublist_append_right _ _)
theorem At.left {A B : List Blk} (h : At w0 w (A ++ B)) : At w0 w A := h.take _ (List.sublist_append_left _ _)
theorem At.tail {a : Blk} {B : List Blk} (h : At w0 w (a :: B)) : At w0 w B := h.take _ (List.sublist_cons_self _ _)

theorem At.join {w' : World} {L : List Blk} (hA : At w0 w ls) (h : At w w' L) : At w0 w' (L ++ ls) := by
  have hA' := hA.trans h.below
  refine ⟨hA'.below, ?_, ?_, ?_⟩
  · intro x hx
    rcases List.mem_append.1 hx with hx | hx
    · exact h.own x hx
    · exact hA'.own x hx
  · intro x hx
    rcases List.mem_append.1 hx with hx | hx
    · exact Nat.le_trans hA.size (h.ge x hx)
    · exact hA'.ge x hx
  · rw [List.map_append, List.nodup_append]
    refine ⟨h.nodup, hA'.nodup, ?_⟩
    intro a ha b hb hab
    obtain ⟨x, hx, rfl⟩ := List.mem_map.1 ha
    obtain ⟨y, hy, rfl⟩ := List.mem_map.1 hb
    have h1 := h.ge x hx
    have h2 := lt_of_some (hA.own y hy)
    omega
def OwnS (e z : Nat) (s : Sl) (xs : List Value) (L : List Blk) : Prop :=
  xs.length = s.n * z ∧ ((s.a = none ∧ s.n = 0 ∧ s.c = 0 ∧ L = []) ∨ ∃ g cur, L = [(g, cur, e)] ∧ s.a = some ⟨g, 0, none⟩ ∧ s.n ≤ s.c ∧ s.c ≤ maxLen ∧ cur.size = s.c * z ∧ cur.toList.take xs.length = xs)

theorem SlO.split {e z : Nat} {s : Sl} {xs : List Value} (h : SlO w0 w ls e z s xs) : ∃ L, OwnS e z s xs L ∧ At w0 w (L ++ ls) := by
  rcases h.own with ⟨ha, hn, hc⟩ | ⟨g, cur, ha, hA, h1, h2, h3, h4⟩
  · exact ⟨[], ⟨h.len, .inl ⟨ha, hn, hc, rfl⟩⟩, h.at_⟩
  · exact ⟨[(g, cur, e)], ⟨h.len, .inr ⟨g, cur, rfl, ha, h1, h2, h3, h4⟩⟩, hA⟩
theorem OwnS.slo {e z : Nat} {s : Sl} {xs : List Value} {L : List Blk} (h : OwnS e z s xs L) (hA : At w0 w (L ++ ls)) : SlO w0 w ls e z s xs := by
  obtain ⟨hl, h⟩ := h
  rcases h with ⟨ha, hn, hc, rfl⟩ | ⟨g, cur, rfl, ha, h1, h2, h3, h4⟩
  · exact ⟨hA, hl, .inl ⟨ha, hn, hc⟩⟩
  · exact ⟨hA.right, hl, .inr ⟨g, cur, ha, hA, h1, h2, h3, h4⟩⟩
theorem OwnS.nil (e z : Nat) : OwnS e z ⟨none, 0, 0⟩ [] [] := ⟨by simp, .inl ⟨rfl, rfl, rfl, rfl⟩⟩
theorem OwnS.sl {e z : Nat} {s : Sl} {xs : List Value} {L : List Blk} (h : OwnS e z s xs L) (hA : At w0 w ls) (hs : L.Sublist ls) : SlAt w s z xs := (h.slo (ls := []) (by simpa using hA.take _ hs)).sl
theorem OwnS.cap {e z : Nat} {s : Sl} {xs : List Value} {L : List Blk} (h : OwnS e z s xs L) : s.n ≤ s.c := by
  rcases h.2 with ⟨_, h1, h2, _⟩ | ⟨_, _, _, _, h1, _⟩ <;> omega
theorem SlO.cap {e z : Nat} {s : Sl} {xs : List Value} (h : SlO w0 w ls e z s xs) : s.n ≤ s.c := by
  obtain ⟨L, h, _⟩ := h.split
  exact h.cap
theorem OwnS.max {e z : Nat} {s : Sl} {xs : List Value} {L : List Blk} (h : OwnS e z s xs L) : s.c ≤ maxLen := by
  rcases h.2 with ⟨_, h1, h2, _⟩ | ⟨_, _, _, _, h1, h2, _⟩
  · rw [h2]; exact Nat.zero_le _
  · exact h2

theorem SlO.own_of {w' : World} {e z : Nat} {s : Sl} {xs : List Value} (hA : At w0 w ls) (h : SlO w w' [] e z s xs) : ∃ L, OwnS e z s xs L ∧ At w0 w' (L ++ ls) := (SlO.lift hA h).split

theorem r_stO {L : List Blk} {e z n : Nat} {s : Sl} {xs : List Value} {p q : Addr} {v : Value} {k : World → Prop}
    (hA : At w0 w (L ++ ls)) (hO : OwnS e z s xs L) (hp : s.a = some p) (o : Nat) (hq : q = p.add o) (hn : v.cells.size = n) (ho : o + n ≤ xs.length) (h1 : ∀ u ∈ v.cells.toList, oneC u = true)
    (h : ∀ w' L', At w0 w' (L' ++ ls) → OwnS e z s (xs.take o ++ v.cells.toList ++ xs.drop (o + n)) L' → k w') : ((real P R).st n q v k : World → Prop) w := by
  obtain ⟨hl, hO⟩ := hO
  rcases hO with ⟨ha, _⟩ | ⟨g, cur, rfl, ha, hnc, hcm, hcs, htk⟩
  · rw [hp] at ha; cases ha
  rw [hp] at ha
  cases ha
  subst hq
  rw [add_lit, Nat.zero_add]
  have hb : w.heap[g]? = some (.cells cur e (0, 0)) := hA.get (i := 0) rfl
  have hxc : xs.length ≤ cur.size := by rw [hl, hcs]; exact Nat.mul_le_mul_right _ hnc
  obtain ⟨k1, k2, k3, k4, k5, k6, k7⟩ := stW_heap v.cells.toList o 0 w cur hb (by simp; omega) h1
  have hvl : v.cells.toList.length = n := by simpa using hn
  have hlen : (xs.take o ++ v.cells.toList ++ xs.drop (o + n)).length = xs.length := by simp [hvl]; omega
  refine ⟨hn, k1, h _ [(g, _, e)] (hA.write (i := 0) rfl k2 k3 k4 k5 k6 k7) ⟨by rw [hlen, hl], .inr ⟨g, _, rfl, hp, hnc, hcm, ?_, ?_⟩⟩⟩
  · simp [hvl]; omega
  · simp only [Nat.add_zero, hlen, hvl]
    rw [← htk]
    simp only [List.length_take, Array.length_toList]
    have e1 : min xs.length cur.size = xs.length := by omega
    rw [List.take_append, List.take_append]
    simp only [List.length_append, List.length_take, Array.length_toList, hvl, e1]
    rw [List.take_take, List.take_take]
    congr 1
    · congr 1
      · congr 1; omega
      · exact List.take_of_length_le (by rw [hvl]; omega)
    · rw [List.drop_take]
      congr 1
      omega

theorem r_mkO {t e z by_ : Nat} (hT : SlT P t e z by_) (hA : At w0 w ls) {n : Nat} (hb : by_ * n ≤ 281474976710656) (hn : n ≤ 281474976710656) {k : Sl → World → Prop}
    (h : ∀ s xs L w', At w0 w' (L ++ ls) → OwnS e z s xs L → s.n = n → (∃ p, s.a = some p) → k s w') :
    ((real P R).sem (Instr.makeSlice t (.int .i64 (n : Int)) (.int .i64 (n : Int))) .slice k : World → Prop) w :=
  r_mk hT hA hb hn fun g cur w' hA' hcs => h ⟨some ⟨g, 0, none⟩, n, n⟩ cur.toList [(g, cur, e)] w' hA' ⟨by simpa using hcs, .inr ⟨g, cur, rfl, rfl, Nat.le_refl _, by unfold maxLen; show n ≤ _; omega, hcs, List.take_of_length_le (Nat.le_refl _)⟩⟩ rfl ⟨_, rfl⟩

theorem OwnS.addr {e z : Nat} {s : Sl} {xs : List Value} {L : List Blk} (h : OwnS e z s xs L) (hn : 0 < s.n) : ∃ p, s.a = some p := by
  rcases h.2 with ⟨_, h0, _⟩ | ⟨g, _, _, ha, _⟩
  · omega
  · exact ⟨_, ha⟩

section
variable {α : Type}

structure SlOf (w : World) (s : Sl) (z : Nat) (cs : α → List Value) (xs : List α) : Prop where
  sl : SlAt w s z (xs.flatMap cs)
  one : ∀ x ∈ xs, (cs x).length = z
  cap : s.n ≤ s.c
  pos : 0 < z

theorem flatMap_length {z : Nat} {cs : α → List Value} : ∀ {xs : List α}, (∀ x ∈ xs, (cs x).length = z) → (xs.flatMap cs).length = xs.length * z
  | [], _ => by simp
  | x :: r, h => by
    rw [List.flatMap_cons, List.length_append, flatMap_length (fun y hy => h y (by simp [hy])), h x (by simp), List.length_cons, Nat.add_mul]
    omega

theorem flatMap_get {z : Nat} {cs : α → List Value} : ∀ {xs : List α} {i : Nat} {x : α} {j : Nat} {v : Value}, (∀ x ∈ xs, (cs x).length = z) → xs[i]? = some x → (cs x)[j]? = some v → (xs.flatMap cs)[i * z + j]? = some v
  | [], i, x, j, v, _, hx, _ => by simp at hx
  | y :: r, 0, x, j, v, h, hx, hj => by
    simp at hx
    subst hx
    have : j < (cs y).length := (List.getElem?_eq_some_iff.1 hj).1
    rw [List.flatMap_cons, List.getElem?_append_left (by omega)]
    simpa using hj
  | y :: r, i + 1, x, j, v, h, hx, hj => by
    have hy := h y (by simp)
    rw [List.flatMap_cons, List.getElem?_append_right (by rw [hy, Nat.add_mul]; omega), hy]
    have e : (i + 1) * z + j - z = i * z + j := by rw [Nat.add_mul]; omega
    rw [e]
    exact flatMap_get (fun y hy => h y (by simp [hy])) (by simpa using hx) hj

variable {s : Sl} {z : Nat} {cs : α → List Value} {xs : List α}

theorem SlOf.n (h : SlOf w s z cs xs) : s.n = xs.length := by
  have h1 := h.sl.len
  rw [flatMap_length h.one] at h1
  exact (Nat.eq_of_mul_eq_mul_right h.pos h1).symm
theorem SlOf.below {w' : World} (h : SlOf w s z cs xs) (hb : Below w.heap.size w w') : SlOf w' s z cs xs := ⟨h.sl.below hb, h.one, h.cap, h.pos⟩
theorem SlOf.at (h : SlOf w0 s z cs xs) (hA : At w0 w ls) : SlOf w s z cs xs := h.below hA.below
theorem SlOf.drew (h : SlOf w s z cs xs) : SlOf w.drew s z cs xs := h.below (drew_below w)
theorem SlOf.nil (pos : 0 < z) : SlOf w ⟨none, 0, 0⟩ z cs [] := ⟨⟨by simp, fun j v hv => by simp at hv⟩, by simp, Nat.le_refl _, pos⟩

theorem SlOf.cell (h : SlOf w s z cs xs) {i : Nat} {x : α} (hx : xs[i]? = some x) : ∃ p, s.a = some p ∧ ∀ j v, (cs x)[j]? = some v → w.cell? (p.add (i * z + j)) = some v := by
  have hz := h.one x (List.mem_of_getElem? hx)
  have hp := h.pos
  obtain ⟨p, hp, _⟩ := h.sl.cell (i * z + 0) _ (flatMap_get h.one hx (List.getElem?_eq_getElem (show 0 < (cs x).length by omega)))
  refine ⟨p, hp, fun j v hv => ?_⟩
  obtain ⟨q, hq, hc⟩ := h.sl.cell (i * z + j) v (flatMap_get h.one hx hv)
  rw [hp] at hq
  cases hq
  exact hc
theorem SlOf.agg (h : SlOf w s z cs xs) {i : Nat} {x : α} (hx : xs[i]? = some x) {p : Addr} (hp : s.a = some p) : ldOk w z (p.add (i * z)) .agg (cs x).toArray := by
  obtain ⟨q, hq, hc⟩ := h.cell hx
  rw [hp] at hq
  cases hq
  refine ⟨by simpa using h.one x (List.mem_of_getElem? hx), fun j v hv => ?_⟩
  rw [add_add]
  exact hc j v (by simpa using hv)
theorem SlOf.fld (h : SlOf w s z cs xs) {i : Nat} {x : α} (hx : xs[i]? = some x) {p : Addr} (hp : s.a = some p) {sh : Sh} {y : sh.T} (j : Nat) (hy : (cs x)[j]? = some (sh.emb y)) (hs : ∀ ds, sh.emb y ≠ .agg ds) {n : Nat} : ldOk w n (p.add (i * z + j)) sh y := by
  obtain ⟨q, hq, hc⟩ := h.cell hx
  rw [hp] at hq
  cases hq
  have := hc j _ hy
  cases sh
  case agg => exact (hs y rfl).elim
  all_goals exact this
theorem SlOf.part (h : SlOf w s z cs xs) {i : Nat} {x : α} (hx : xs[i]? = some x) {p : Addr} (hp : s.a = some p) (j : Nat) {n : Nat} {l : List Value} (hl : l.length = n) (hy : ∀ k v, l[k]? = some v → (cs x)[j + k]? = some v) : ldOk w n (p.add (i * z + j)) .agg l.toArray := by
  obtain ⟨q, hq, hc⟩ := h.cell hx
  rw [hp] at hq
  cases hq
  refine ⟨by simpa using hl, fun k v hv => ?_⟩
  rw [add_add]
  have := hc (j + k) v (hy k v (by simpa using hv))
  rwa [Nat.add_assoc]

theorem SlOf.sub (h : SlOf w s z cs xs) (l k : Nat) (h1 : l ≤ k) (h2 : k ≤ s.n) : SlOf w ⟨if s.c = l then s.a else s.a.map (·.add (l * z)), k - l, s.c - l⟩ z cs ((xs.drop l).take (k - l)) := by
  have hs := h.sl.slice h.pos l k h1 h2 h.cap
  have e : ((xs.flatMap cs).drop (l * z)).take ((k - l) * z) = ((xs.drop l).take (k - l)).flatMap cs := by
    have key : ∀ (n : Nat) (ys : List α), (∀ x ∈ ys, (cs x).length = z) → (ys.flatMap cs).take (n * z) = (ys.take n).flatMap cs ∧ (ys.flatMap cs).drop (n * z) = (ys.drop n).flatMap cs := by
      intro n
      induction n with
      | zero => intro ys _; simp
      | succ n ih =>
        intro ys hy
        cases ys with
        | nil => simp
        | cons y r =>
          have hz := hy y (by simp)
          obtain ⟨i1, i2⟩ := ih r (fun x hx => hy x (by simp [hx]))
          rw [List.flatMap_cons, Nat.add_mul, Nat.one_mul, Nat.add_comm, List.take_succ_cons, List.drop_succ_cons, List.flatMap_cons]
          constructor
          · rw [List.take_append, hz, List.take_of_length_le (by omega), Nat.add_sub_cancel_left, i1]
          · rw [List.drop_append, hz, List.drop_eq_nil_of_le (by omega), Nat.add_sub_cancel_left, i2, List.nil_append]
    rw [(key l xs h.one).2, (key (k - l) _ (fun x hx => h.one x (List.mem_of_mem_drop hx))).1]
  rw [e] at hs
  exact ⟨hs, fun x hx => h.one x (List.mem_of_mem_drop (List.mem_of_mem_take hx)), by have := h.cap; simp only; omega, h.pos⟩

theorem OwnS.of {e : Nat} {L : List Blk} (h : OwnS e z s (xs.flatMap cs) L) (hA : At w0 w ls) (hs : L.Sublist ls) (one : ∀ x ∈ xs, (cs x).length = z) (pos : 0 < z) : SlOf w s z cs xs := ⟨h.sl hA hs, one, h.cap, pos⟩
theorem SlO.of {e : Nat} (h : SlO w0 w ls e z s (xs.flatMap cs)) (one : ∀ x ∈ xs, (cs x).length = z) (pos : 0 < z) : SlOf w s z cs xs := ⟨h.sl, one, h.cap, pos⟩
end

theorem r_ldN {sh : Sh} {n : Nat} {p : Addr} {k : sh.T → World → Prop} (x : sh.T) (hx : ldOk w n p sh x) (h : k x w) : ((real P R).ld sh n p k : World → Prop) w := ⟨x, hx, h⟩

theorem r_dp {o : Option Addr} {a : Addr} {k : Addr → World → Prop} (ho : o = some a) (h : k a w) : ((dpT (real P R) o k : World → Prop)) w := by subst ho; exact h

theorem run_eqi_sl {t e : TypeId} (hu : P.underlying t = some (.slice e)) (a : Option Addr) (n c d : Nat) (w : World) : (Op.equalIn (d + 1) t (.slice a n c) (.slice none 0 0)).run P w = .ok (decide (a = none)) w := by
  cases a <;> simp [Op.equalIn, run_underlying hu]
theorem run_eql_sl {t e : TypeId} (hu : P.underlying t = some (.slice e)) (x y : Operand) (a : Option Addr) (n c : Nat) (w : World) : (eqB .eql t x y (.slice a n c) (.slice none 0 0)).run P w = .ok (.bool (decide (a = none))) w := by
  have h1 := run_eqi_sl hu a n c 9999 w
  simp [eqB, eqGuard, binOp, Op.equal, Op.maxDepth, h1]
theorem run_eql_str (t : TypeId) (x y : Operand) (a b : ByteArray) (w : World) : (eqB .eql t x y (.string a) (.string b)).run P w = .ok (.bool (a.toList == b.toList)) w := by
  simp [eqB, eqGuard, binOp, Op.stringOp]
theorem run_neq_str (t : TypeId) (x y : Operand) (a b : ByteArray) (w : World) : (eqB .neq t x y (.string a) (.string b)).run P w = .ok (.bool (!(a.toList == b.toList))) w := by
  simp [eqB, eqGuard, binOp, Op.stringOp]
theorem run_geq_str (t : TypeId) (x y : Operand) (a b : ByteArray) (w : World) : (eqB .geq t x y (.string a) (.string b)).run P w = .ok (.bool (!Op.bytesLess a.toList b.toList)) w := by
  simp [eqB, eqGuard, binOp, Op.stringOp]

end Go.Sx

namespace Go.Sx
open Go.RowKit (Below)
open Go.Deep (add_add)
variable {P : Program} {R : Value → World → Prop} {w0 w : World} {ls L : List Blk} {e z : Nat} {s : Sl} {xs : List Value}

theorem add_zero (p : Addr) : p.add 0 = p := by unfold Addr.add; simp

theorem ldOk_own {w0 w : World} {ls : List Blk} (hA : At w0 w ls) (i : Nat) {b : Nat} {cs : Array Value} {t : TypeId} (hl : ls[i]? = some (b, cs, t)) (o : Nat) {sh : Sh} {x : sh.T} (hx : cs[o]? = some (sh.emb x)) (hs : ∀ ds, sh.emb x ≠ .agg ds) {n : Nat} : ldOk w n ((⟨b, 0, none⟩ : Addr).add o) sh x := by
  have hc : w.cell? ((⟨b, 0, none⟩ : Addr).add o) = some (sh.emb x) := by rw [add_lit, Nat.zero_add]; simp [World.cell?, hA.get hl, hx]
  cases sh
  case agg => exact (hs x rfl).elim
  all_goals exact hc

theorem r_chk2 {P : Program} {R : Value → World → Prop} {w : World} {h1 h2 : Held} {k : World → Prop} (e1 : ldOk w h1.n h1.p h1.sh h1.x) (e2 : ldOk w h2.n h2.p h2.sh h2.x) (h : k w) : ((real P R).chk [h1, h2] k : World → Prop) w :=
  ⟨fun x hx => by
    rcases List.mem_cons.1 hx with e | hx
    · rw [e]; exact e1
    · rw [List.mem_singleton.1 hx]; exact e2, h⟩

theorem r_bs1A {P : Program} {R : Value → World → Prop} {w0 w : World} {ls : List Blk} {t e z by_ : Nat} (hT : SlT P t e z by_) (hA : At w0 w ls) {v : Value} (hv : v.cells.size = z) (hz : z ≤ 16777216) {k : Sl → World → Prop} (h : ∀ s w', At w0 w' ls → Below w.heap.size w w' → SlAt w' s z v.cells.toList → s.n = 1 → k s w') :
    ((real P R).sem (Instr.buildSlice t 1 #[(0, v)]) .slice k : World → Prop) w :=
  r_bs1 hT (At.refl w) hv hz fun s w' hs hn => h s w' (hA.trans hs.at_.below) hs.at_.below hs.sl hn

theorem OwnS.shrink (h : OwnS e z s xs L) (n : Nat) (hn : n ≤ s.n) : OwnS e z ⟨s.a, n, s.c⟩ (xs.take (n * z)) L := by
  obtain ⟨hl, h⟩ := h
  have hm : n * z ≤ xs.length := by rw [hl]; exact Nat.mul_le_mul_right _ hn
  refine ⟨by simp; omega, ?_⟩
  rcases h with ⟨ha, h0, hc, rfl⟩ | ⟨g, cur, rfl, ha, hnc, hcm, hcs, htk⟩
  · exact .inl ⟨ha, by show n = 0; omega, hc, rfl⟩
  · refine .inr ⟨g, cur, rfl, ha, by show n ≤ s.c; omega, hcm, hcs, ?_⟩
    rw [List.length_take, Nat.min_eq_left hm]
    rw [← htk, List.take_take, Nat.min_eq_left hm]

theorem r_slPre {a : Option Addr} {n c z : Nat} {lo hi : Option Int} {k : Sl → World → Prop} (h : Nat) (hl : lo.getD 0 = (0 : Int)) (hh : hi.getD n = (h : Int)) (h2 : h ≤ c)
    (hk : k ⟨a, h, c⟩ w) : ((real P R).sl a n c z lo hi none k : World → Prop) w := by
  refine r_sl 0 h (by simpa using hl) hh (Nat.zero_le _) h2 ?_
  have e1 : (if c = 0 then a else a.map (·.add (0 * z))) = a := by
    split
    · rfl
    · cases a <;> simp [add_zero]
  rw [e1]
  exact hk
def strOf (l : List Int) : ByteArray := l.foldl (fun r n => r.push (UInt8.ofNat n.toNat)) ByteArray.empty
theorem strOf_data (l : List Int) (r : ByteArray) : (l.foldl (fun r n => r.push (UInt8.ofNat n.toNat)) r).data.toList = r.data.toList ++ l.map fun n => UInt8.ofNat n.toNat := by
  induction l generalizing r with
  | nil => simp
  | cons x l ih => rw [List.foldl_cons, ih]; simp
theorem strOf_inj {a b : List Int} (ha : ∀ x ∈ a, 0 ≤ x ∧ x < 256) (hb : ∀ x ∈ b, 0 ≤ x ∧ x < 256) (h : strOf a = strOf b) : a = b := by
  have h1 := congrArg (fun s : ByteArray => s.data.toList) h
  simp only [strOf, strOf_data] at h1
  replace h1 : a.map (fun n => UInt8.ofNat n.toNat) = b.map (fun n => UInt8.ofNat n.toNat) := by simpa using h1
  clear h
  induction a generalizing b with
  | nil =>
    cases b with
    | nil => rfl
    | cons y b => simp at h1
  | cons x a ih =>
    cases b with
    | nil => simp at h1
    | cons y b =>
      simp only [List.map_cons, List.cons.injEq] at h1
      have hx := ha x (by simp)
      have hy := hb y (by simp)
      have hxy : x = y := by
        have := congrArg UInt8.toNat h1.1
        simp only [UInt8.toNat_ofNat'] at this
        omega
      rw [hxy, ih (fun u hu => ha u (by simp [hu])) (fun u hu => hb u (by simp [hu])) h1.2]

theorem r_toStr {src dst : TypeId} (hs : P.underlying src = some (.slice e)) (he : P.underlying e = some (.int .u8)) (hd : P.underlying dst = some .string) {l : List Int} (hl : SlAt w s 1 (l.map (Value.int .u8))) {k : ByteArray → World → Prop}
    (h : k (strOf l) w) : ((real P R).sem (convert src dst (.slice s.a s.n s.c)) .str k : World → Prop) w := by
  refine ⟨strOf l, w, ?_, h⟩
  rw [run_convert_bytes_string w src dst e _ _ _ hs he hd]
  cases ha : s.a with
  | none =>
    have : l = [] := by
      cases l with
      | nil => rfl
      | cons v r => obtain ⟨p, hp, _⟩ := hl.cell 0 _ rfl; rw [ha] at hp; cases hp
    subst this
    simp [Conv.bytesToString, Sh.emb, strOf]
  | some p =>
    have hlen : l.length = s.n := by have := hl.len; simp at this; omega
    have hlc := run_loadCells_list (P := P) w p (l.map (Value.int .u8)) (fun j v hv => by
      obtain ⟨q, hq, hc⟩ := hl.cell j v hv
      rw [ha] at hq
      cases hq
      exact hc)
    rw [List.length_map, hlen] at hlc
    exact run_bytesToString w p s.n s.c l hlc

end Go.Sx
