/- More rules: slice literals of two, made slices, equal arrays of bytes, calls told of the whole world. Contract of the hash (program): the key of some data. -/
import Derived.ChangeKeysEq
import Derived.Laws.MakeOwn
import Derived.Test.YtkifkdkjljcclaaPkLPS04
import Derived.Test.YtkifkdkjljcclaaPkLPS10
namespace Go.Sx
open Go.RowKit (Below)
variable {P : Program} {R : Value → World → Prop} {w0 w : World} {ls : List Blk}

theorem run_bs2 {t e z by_ : Nat} (hT : SlT P t e z by_) {v u : Value} (hv : v.cells.size = z) (hu : u.cells.size = z) (hz : z ≤ 4096) (w : World) :
    (Instr.buildSlice t 2 #[(0, v), (1, u)]).run P w = .ok (.slice (some ⟨w.heap.size, 0, none⟩) 2 2) (w.alloc (.cells (v.cells ++ u.cells) e)) := by
  obtain ⟨i, zv, hi, hzv, hsz, hby, hzs⟩ := hT.ex
  have h0 : ¬ (16777216 < 2 * z) := by omega
  have hz0 : ¬ z = 0 := by have := hT.pos; omega
  have hf : ∀ cs : Array Value, cs.size = 2 * z → Instr.fill (fun i => some (i * z, z)) cs [(0, v), (1, u)] = some (v.cells ++ u.cells) := by
    intro cs hcs
    rw [fill_one (off := 0) hv (by omega) _ 0 (by simp) _, fill_one (off := z) hu (by simp [hv]; omega) _ 1 (by simp) []]
    simp only [Instr.fill, List.take_zero, List.nil_append, Nat.zero_add]
    congr 1
    have e1 : (v.cells.toList ++ cs.toList.drop z).take z = v.cells.toList := by
      rw [List.take_append_of_le_length (by simp [hv]), List.take_of_length_le (by simp [hv])]
    have e2 : (v.cells.toList ++ cs.toList.drop z).drop (z + z) = [] := List.drop_eq_nil_of_le (by simp [hv]; omega)
    rw [e1, e2, List.append_nil]
    apply Array.ext'
    simp
  simp [Instr.buildSlice, run_underlying hT.ut, sizeOf, typeInfo, hi, hsz, h0, hz0, zeroValue, hzv, hf, newRow]

theorem r_bs2 {t e z by_ : Nat} (hT : SlT P t e z by_) (hA : At w0 w ls) {v u : Value} (hv : v.cells.size = z) (hu : u.cells.size = z) (hz : z ≤ 4096) {k : Sl → World → Prop} (h : ∀ s w', SlO w0 w' ls e z s (v.cells.toList ++ u.cells.toList) → s.n = 2 → k s w') :
    ((real P R).sem (Instr.buildSlice t 2 #[(0, v), (1, u)]) .slice k : World → Prop) w :=
  ⟨⟨some ⟨w.heap.size, 0, none⟩, 2, 2⟩, _, run_bs2 hT hv hu hz w, h _ _ (SlO.made hA (below_alloc w _) (heap_alloc_self w _) (Nat.le_refl _) (by simp [hv, hu]; omega) (Nat.le_refl _) (by unfold maxLen; omega) (by simp [hv, hu]; omega) (by rw [List.take_of_length_le (by simp)]; simp)) rfl⟩

theorem r_mk {t e z by_ : Nat} (hT : SlT P t e z by_) (hA : At w0 w ls) {n : Nat} (hb : by_ * n ≤ 281474976710656) (hn : n ≤ 281474976710656) {k : Sl → World → Prop}
    (h : ∀ g cur w', At w0 w' ((g, cur, e) :: ls) → cur.size = n * z → k ⟨some ⟨g, 0, none⟩, n, n⟩ w') :
    ((real P R).sem (Instr.makeSlice t (.int .i64 (n : Int)) (.int .i64 (n : Int))) .slice k : World → Prop) w := by
  obtain ⟨i, zv, hi, hzv, hsz, hby, hzs⟩ := hT.ex
  have hm : ((by_ : Int) * (n : Int)) = ((by_ * n : Nat) : Int) := by simp
  have hr := run_make w t e i zv hT.ut hi hzv .i64 .i64 (n : Int) (n : Int) (by omega) (Int.le_refl _) (by rw [hby, hm]; omega) (by omega)
  refine ⟨⟨some ⟨w.heap.size, 0, none⟩, n, n⟩, w.alloc (.cells (madeCells zv.cells (n * z)) e), ?_, h _ _ _ ((hA.trans (below_alloc w _)).add (heap_alloc_self w _) hA.size (hA.fresh (Nat.le_refl _))) (size_madeCells _ _)⟩
  rw [hr, hsz]
  rfl

theorem run_eqItems_u8 {e : TypeId} (he : tyOf P e = some (.int .u8, 1)) (d : Nat) (w : World) {a b : List Int} (hl : a.length = b.length) : ∀ is : List Nat, (∀ i ∈ is, i < a.length) →
    (Op.eqItems (d + 1) e 1 (a.map (Value.int .u8)).toArray (b.map (Value.int .u8)).toArray is).run P w = .ok (is.all fun i => a.getD i 0 == b.getD i 0) w
  | [], _ => by simp [Op.eqItems]
  | i :: is, h => by
    have hi : i < a.length := h i (by simp)
    have hp : ∀ l : List Int, i < l.length → (part e (l.map (Value.int .u8)).toArray (i * 1)).run P w = .ok (.int .u8 (l.getD i 0)) w := fun l hl =>
      run_part (sh := .int .u8) he (by simp [aggB]) (by simp [hl, List.getD]) w
    obtain ⟨dd, ii, hd, hinfo, hsh, _⟩ := tyOf_some he
    have hk : P.underlying e = some (.int .u8) := by
      rw [hd]
      cases dd <;> first | (simp_all [shD]; done) | (simp only [shD, ptrSh] at hsh; split at hsh <;> simp_all)
    have ih := run_eqItems_u8 he d w hl is fun j hj => h j (by simp [hj])
    simp only [Op.eqItems, Sem.run_bind, hp a hi, hp b (by omega), Result.andThen_ok, run_equalIn_int w d e .u8 .u8 _ _ hk]
    simp only [List.all_cons]
    generalize (a.getD i 0 == b.getD i 0) = c
    cases c
    · simp
    · simpa using ih

theorem all_getD {a b : List Int} (hl : a.length = b.length) : ((List.range a.length).all fun i => a.getD i 0 == b.getD i 0) = decide (a = b) := by
  by_cases h : a = b
  · subst h; simp
  · have : ((List.range a.length).all fun i => a.getD i 0 == b.getD i 0) ≠ true := by
      intro hall
      apply h
      apply List.ext_getElem? 
      intro i
      rcases Nat.lt_or_ge i a.length with hi | hi
      · have := List.all_eq_true.1 hall i (List.mem_range.2 hi)
        simp [List.getD, hi, show i < b.length by omega] at this
        simp [hi, show i < b.length by omega, this]
      · rw [List.getElem?_eq_none hi, List.getElem?_eq_none (by omega)]
    simp only [h, decide_false]
    cases hh : ((List.range a.length).all fun i => a.getD i 0 == b.getD i 0)
    · rfl
    · exact absurd hh this

theorem cellsOf_info {t : TypeId} {i : TypeInfo} (h : P.info? t = some i) : P.cellsOf t = i.size := by simp [Program.cellsOf, h]

theorem run_eql_u8 {t e n : Nat} (hu : P.underlying t = some (.array n e)) (he : tyOf P e = some (.int .u8, 1)) (hg : P.eqGuardType P.depth t = false) (x y : Operand) {a b : List Int} (ha : a.length = n) (hb : b.length = n) (w : World) :
    (eqB .eql t x y (.agg (a.map (Value.int .u8)).toArray) (.agg (b.map (Value.int .u8)).toArray)).run P w = .ok (.bool (decide (a = b))) w := by
  obtain ⟨dd, ii, hd, hinfo, hsh, hsz⟩ := tyOf_some he
  have h1 := run_equalIn_array w 9999 (a.map (Value.int .u8)).toArray (b.map (Value.int .u8)).toArray hu hinfo
  rw [cellsOf_info hinfo, hsz, ← ha, run_eqItems_u8 he 9998 w (by omega) _ (fun i hi => List.mem_range.1 hi), all_getD (by omega)] at h1
  simp [eqB, eqGuard, hg, binOp, Op.equal, Op.maxDepth, h1]
theorem run_neq_u8 {t e n : Nat} (hu : P.underlying t = some (.array n e)) (he : tyOf P e = some (.int .u8, 1)) (hg : P.eqGuardType P.depth t = false) (x y : Operand) {a b : List Int} (ha : a.length = n) (hb : b.length = n) (w : World) :
    (eqB .neq t x y (.agg (a.map (Value.int .u8)).toArray) (.agg (b.map (Value.int .u8)).toArray)).run P w = .ok (.bool (!decide (a = b))) w := by
  obtain ⟨dd, ii, hd, hinfo, hsh, hsz⟩ := tyOf_some he
  have h1 := run_equalIn_array w 9999 (a.map (Value.int .u8)).toArray (b.map (Value.int .u8)).toArray hu hinfo
  rw [cellsOf_info hinfo, hsz, ← ha, run_eqItems_u8 he 9998 w (by omega) _ (fun i hi => List.mem_range.1 hi), all_getD (by omega)] at h1
  simp [eqB, eqGuard, hg, binOp, Op.equal, Op.maxDepth, h1]

theorem r_callVR {g : FuncId} {fs cs : Array Value} {args : List Value} {l : List Sh} {R1 : Value → World → Prop} {k : TL l → World → Prop} (hg : isGo P g = true)
    (hc : Calls P g (fs.toList ++ args ++ cs.toList).toArray w fun e w' => ∃ v, e = .returned v ∧ R1 v w')
    (h : ∀ v w', R1 v w' → ∃ x, v = valL (embL l x) ∧ k x w') : ((real P R).callV (.func (.func g) fs cs) args l k : World → Prop) w :=
  ⟨g, fs, cs, rfl, hg, Calls.mono hc fun _ _ ⟨v, he, hv⟩ => let ⟨x, hx, hk⟩ := h v _ hv; ⟨x, by rw [he, hx], hk⟩⟩

theorem r_all2 {s t : World → Prop} (h1 : s w) (h2 : t w) : ((real P R).all [s, t] : World → Prop) w := ⟨h1, h2⟩
end Go.Sx

namespace Go.Proofs.Ytkifkdkjljcclaa
open Go.Sx Go.RowKit

theorem padT_bound (m : Nat) (len : Int) : (padT m len).length ≤ 40 := by rw [padT_len]; unfold padZ; omega

theorem c_hash (tag : Int) {s : Sl} {d : List Int} {w : World} (hs : SlAt w s 1 (u8s d)) (hb : bytesOk d) (hmax : d.length ≤ 35184372088832) :
    Ret Try.prog n_impl_hash [.int .u8 tag, .slice s.a s.n s.c] w [.agg] (fun cs _ => cs = (u8s (hashL tag d)).toArray) := impl_hash_calls tag s (by
  unfold impl_hash
  have hn := sl_len hs
  refine r_new (At.refl w) fun b4 w1 h => ?_
  refine r_callp (c_size_byte s) ?_
  rw [hn]
  refine r_callS h (c_padding d.length (by omega) w1) fun p w2 hp hpn => ?_
  have hpb := padT_bound d.length d.length
  obtain ⟨g, cur, hpa, h2, hpc, htk⟩ := hp.entry (by rw [hpn, padT_len]; omega)
  refine r_bs2 T_sl_sl_uint8 h2 rfl rfl (by omega) fun x w3 hx hxn => ?_
  have hsx : SlAt w3 ⟨s.a, d.length, s.c⟩ 1 (u8s d) := by
    have := hs.at hx.at_
    rw [← hn]; exact this
  have hpx : SlAt w3 p 1 (u8s (padT d.length d.length)) := hx.at_.sl 0 rfl hpa hp.len (by simpa using htk)
  refine r_callS hx.at_ (c_Concat2 (y1 := ⟨s.a, d.length, s.c⟩) (y2 := p) (by simpa [Value.cells] using hx.sl) hsx hpx (by omega) (by omega)) fun y w4 hy hyn => ?_
  have hyl : (d ++ padT d.length d.length).length = d.length + (padT d.length d.length).length := List.length_append
  have hy0 : 0 < y.n := by rw [hyn, hyl, padT_len]; omega
  obtain ⟨g2, cur2, hya, h4, hyc, htk2⟩ := hy.entry hy0
  have hm32 : (d ++ padT d.length d.length).length % 32 = 0 := by rw [hyl]; exact padT_mod _ _
  have hlb : bytesOk (d ++ padT d.length d.length) := hb.append (padT_ok _ _)
  refine r_call h4 (c_blocks (hy.sl) hyc (by omega)) fun r w5 h5 hb5 ⟨hr1, hr1n, _, _⟩ => ?_
  have e1 : (d ++ padT d.length d.length).take (32 * ((d ++ padT d.length d.length).length / 32)) = d ++ padT d.length d.length := List.take_of_length_le (by omega)
  rw [e1] at hr1
  refine r_call h5 (c_StartState tag w5) fun st w6 h6 hb6 hst => ?_
  subst hst
  refine r_call h6 (c_mixed (startL_ok tag) (hr1.sl.below hb6) hlb (by omega)) fun ms w7 h7 _ hms => ?_
  subst hms
  rw [hr1n] 
  refine r_call h7 (c_keyOf (mixAll_ok (startL_ok tag) _) w7) fun k w8 h8 _ hk => ?_
  subst hk
  refine r_stA h8 2 rfl rfl (by simp [keyB_len]) (by simp [Value.cells]) (by simpa using u8s_one) fun w9 h9 => ?_
  refine r_ldA h9 2 rfl rfl (by simp [keyB_len]) ?_
  exact r_ret h9 _ rfl rfl)

end Go.Proofs.Ytkifkdkjljcclaa
