/- More rules: slice literals of two, made slices, equal arrays of bytes, calls told of the whole world. -/
import Derived.ChangeKeysEq
import Derived.Laws.MakeOwn
import Derived.Test.YtaadgdbegpmlmaaGreatPkLCA04
namespace Go.Sx
open Go.RowKit (Below)
variable {P : Program} {R : Value → World → Prop} {w0 w : World} {ls : List Blk}

/-- A slice literal of two elements. -/
theorem run_bs2 {t e z by_ : Nat} (hT : SlT P t e z by_) {v u : Value} (hv : v.cells.size = z) (hu : u.cells.size = z) (hz : z ≤ 4096) (w : World) :
    (Instr.buildSlice t 2 #[(0, v), (1, u)]).run P w = .ok (.slice (some ⟨w.heap.size, 0, none⟩) 2 2) (w.alloc (.cells (v.cells ++ u.cells) e)) := by
  obtain ⟨i, zv, hi, hzv, hsz, hby, hzs⟩ := hT.ex
  have h0 : ¬ (16777216 < 2 * z) := by omega
  have hz0 : ¬ z = 0 := by have := hT.pos; omega
  have hf : ∀ cs : Array Value, cs.size = 2 * z → Instr.fill (fun i => some (i * z, z)) cs [(0, v), (1, u)] = some (v.cells ++ u.cells) := by
    intro cs hcs
    rw [fill_one (off := 0) hv (by omega) _ 0 (by simp) _, fill_one (off := z) hu (by simp [hv]; omega) _ 1 (by simp) []]
    simp only [Instr.fill, List.take_zero, List.nil_append, Nat.zero_add]
    congr 1
    have e1 : (v.cells.toList ++ cs.toList.drop z).take z = v.cells.toList := by
      rw [List.take_append_of_le_length (by simp [hv]), List.take_of_length_le (by simp [hv])]
    have e2 : (v.cells.toList ++ cs.toList.drop z).drop (z + z) = [] := List.drop_eq_nil_of_le (by simp [hv]; omega)
    rw [e1, e2, List.append_nil]
    apply Array.ext'
    simp
  simp [Instr.buildSlice, run_underlying hT.ut, sizeOf, typeInfo, hi, hsz, h0, hz0, zeroValue, hzv, hf, newRow]

/-- '[]T{v, u}'. -/
theorem r_bs2 {t e z by_ : Nat} (hT : SlT P t e z by_) (hA : At w0 w ls) {v u : Value} (hv : v.cells.size = z) (hu : u.cells.size = z) (hz : z ≤ 4096) {k : Sl → World → Prop} (h : ∀ s w', SlO w0 w' ls e z s (v.cells.toList ++ u.cells.toList) → s.n = 2 → k s w') :
    ((real P R).sem (Instr.buildSlice t 2 #[(0, v), (1, u)]) .slice k : World → Prop) w :=
  ⟨⟨some ⟨w.heap.size, 0, none⟩, 2, 2⟩, _, run_bs2 hT hv hu hz w, h _ _ (SlO.made hA (below_alloc w _) (heap_alloc_self w _) (Nat.le_refl _) (by simp [hv, hu]; omega) (Nat.le_refl _) (by unfold maxLen; omega) (by simp [hv, hu]; omega) (by rw [List.take_of_length_le (by simp)]; simp)) rfl⟩

/-- 'make([]T, n)'. -/
theorem r_mk {t e z by_ : Nat} (hT : SlT P t e z by_) (hA : At w0 w ls) {n : Nat} (hb : by_ * n ≤ 281474976710656) (hn : n ≤ 281474976710656) {k : Sl → World → Prop}
    (h : ∀ g cur w', At w0 w' ((g, cur, e) :: ls) → cur.size = n * z → k ⟨some ⟨g, 0, none⟩, n, n⟩ w') :
    ((real P R).sem (Instr.makeSlice t (.int .i64 (n : Int)) (.int .i64 (n : Int))) .slice k : World → Prop) w := by
  obtain ⟨i, zv, hi, hzv, hsz, hby, hzs⟩ := hT.ex
  have hm : ((by_ : Int) * (n : Int)) = ((by_ * n : Nat) : Int) := by simp
  have hr := run_make w t e i zv hT.ut hi hzv .i64 .i64 (n : Int) (n : Int) (by omega) (Int.le_refl _) (by rw [hby, hm]; omega) (by omega)
  refine ⟨⟨some ⟨w.heap.size, 0, none⟩, n, n⟩, w.alloc (.cells (madeCells zv.cells (n * z)) e), ?_, h _ _ _ ((hA.trans (below_alloc w _)).add (heap_alloc_self w _) hA.size (hA.fresh (Nat.le_refl _))) (size_madeCells _ _)⟩
  rw [hr, hsz]
  rfl

theorem run_eqItems_u8 {e : TypeId} (he : tyOf P e = some (.int .u8, 1)) (d : Nat) (w : World) {a b : List Int} (hl : a.length = b.length) : ∀ is : List Nat, (∀ i ∈ is, i < a.length) →
    (Op.eqItems (d + 1) e 1 (a.map (Value.int .u8)).toArray (b.map (Value.int .u8)).toArray is).run P w = .ok (is.all fun i => a.getD i 0 == b.getD i 0) w
  | [], _ => by simp [Op.eqItems]
  | i :: is, h => by
    have hi : i < a.length := h i (by simp)
    have hp : ∀ l : List Int, i < l.length → (part e (l.map (Value.int .u8)).toArray (i * 1)).run P w = .ok (.int .u8 (l.getD i 0)) w := fun l hl =>
      run_part (sh := .int .u8) he (by simp [aggB]) (by simp [hl, List.getD]) w
    obtain ⟨dd, ii, hd, hinfo, hsh, _⟩ := tyOf_some he
    have hk : P.underlying e = some (.int .u8) := by
      rw [hd]
      cases dd <;> first | (simp_all [shD]; done) | (simp only [shD, ptrSh] at hsh; split at hsh <;> simp_all)
    have ih := run_eqItems_u8 he d w hl is fun j hj => h j (by simp [hj])
    simp only [Op.eqItems, Sem.run_bind, hp a hi, hp b (by omega), Result.andThen_ok, run_equalIn_int w d e .u8 .u8 _ _ hk]
    simp only [List.all_cons]
    generalize (a.getD i 0 == b.getD i 0) = c
    cases c
    · simp
    · simpa using ih

theorem all_getD {a b : List Int} (hl : a.length = b.length) : ((List.range a.length).all fun i => a.getD i 0 == b.getD i 0) = decide (a = b) := by
  by_cases h : a = b
  · subst h; simp
  · have : ((List.range a.length).all fun i => a.getD i 0 == b.getD i 0) ≠ true := by
      intro hall
      apply h
      apply List.ext_getElem? 
      intro i
      rcases Nat.lt_or_ge i a.length with hi | hi
      · have := List.all_eq_true.1 hall i (List.mem_range.2 hi)
        simp [List.getD, hi, show i < b.length by omega] at this
        simp [hi, show i < b.length by omega, this]
      · rw [List.getElem?_eq_none hi, List.getElem?_eq_none (by omega)]
    simp only [h, decide_false]
    cases hh : ((List.range a.length).all fun i => a.getD i 0 == b.getD i 0)
    · rfl
    · exact absurd hh this

theorem cellsOf_info {t : TypeId} {i : TypeInfo} (h : P.info? t = some i) : P.cellsOf t = i.size := by simp [Program.cellsOf, h]

theorem run_eql_u8 {t e n : Nat} (hu : P.underlying t = some (.array n e)) (he : tyOf P e = some (.int .u8, 1)) (hg : P.eqGuardType P.depth t = false) (x y : Operand) {a b : List Int} (ha : a.length = n) (hb : b.length = n) (w : World) :
    (eqB .eql t x y (.agg (a.map (Value.int .u8)).toArray) (.agg (b.map (Value.int .u8)).toArray)).run P w = .ok (.bool (decide (a = b))) w := by
  obtain ⟨dd, ii, hd, hinfo, hsh, hsz⟩ := tyOf_some he
  have h1 := run_equalIn_array w 9999 (a.map (Value.int .u8)).toArray (b.map (Value.int .u8)).toArray hu hinfo
  rw [cellsOf_info hinfo, hsz, ← ha, run_eqItems_u8 he 9998 w (by omega) _ (fun i hi => List.mem_range.1 hi), all_getD (by omega)] at h1
  simp [eqB, eqGuard, hg, binOp, Op.equal, Op.maxDepth, h1]
theorem run_neq_u8 {t e n : Nat} (hu : P.underlying t = some (.array n e)) (he : tyOf P e = some (.int .u8, 1)) (hg : P.eqGuardType P.depth t = false) (x y : Operand) {a b : List Int} (ha : a.length = n) (hb : b.length = n) (w : World) :
    (eqB .neq t x y (.agg (a.map (Value.int .u8)).toArray) (.agg (b.map (Value.int .u8)).toArray)).run P w = .ok (.bool (!decide (a = b))) w := by
  obtain ⟨dd, ii, hd, hinfo, hsh, hsz⟩ := tyOf_some he
  have h1 := run_equalIn_array w 9999 (a.map (Value.int .u8)).toArray (b.map (Value.int .u8)).toArray hu hinfo
  rw [cellsOf_info hinfo, hsz, ← ha, run_eqItems_u8 he 9998 w (by omega) _ (fun i hi => List.mem_range.1 hi), all_getD (by omega)] at h1
  simp [eqB, eqGuard, hg, binOp, Op.equal, Op.maxDepth, h1]

theorem run_neqB {t : TypeId} (hu : P.underlying t = some .bool) (x y : Operand) (a b : Bool) (w : World) : (eqB .neq t x y (.bool a) (.bool b)).run P w = .ok (.bool (a != b)) w := by
  have h1 := run_equalIn_bool' w 9999 t a b hu
  simp [eqB, eqGuard, binOp, Op.equal, Op.maxDepth, h1]
  cases a <;> cases b <;> rfl

theorem r_all2 {s t : World → Prop} (h1 : s w) (h2 : t w) : ((real P R).all [s, t] : World → Prop) w := ⟨h1, h2⟩
theorem r_all3 {s t u : World → Prop} (h1 : s w) (h2 : t w) (h3 : u w) : ((real P R).all [s, t, u] : World → Prop) w := ⟨h1, h2, h3⟩

end Go.Sx
