/- Rules for slices.Insert: room made by append, copies within one slice, do two slices overlap. The links of a blob: what both sides answer. From a function's contract to the given statement: arguments opened (arrays of bytes, slices of such), the row's step, for any law that returns true. Arguments opened at their cells: slices of anything, slices of bytes, stores. -/
import Derived.Lib.Overlaps
import Derived.Carry
import Derived.Deep.Slices
import Derived.OpenShut
import Derived.ProofKit
import Derived.ChangeSame
import Derived.Test.YthaecdelaifccaaGreatPkLSM15
import Derived.Test.YthaecdelaifccaaGreatPkLSM21
namespace Go.Sx
open Go.RowKit (Below)
variable {P : Program} {R : Value → World → Prop} {w0 w : World} {ls L : List Blk} {e z : Nat} {s : Sl} {xs : List Value}

theorem r_chk3 {h1 h2 h3 : Held} {k : World → Prop} (a : ldOk w h1.n h1.p h1.sh h1.x) (b : ldOk w h2.n h2.p h2.sh h2.x) (c : ldOk w h3.n h3.p h3.sh h3.x) (h : k w) : ((real P R).chk [h1, h2, h3] k : World → Prop) w :=
  ⟨fun x hx => by
    rcases List.mem_cons.1 hx with e | hx
    · rw [e]; exact a
    rcases List.mem_cons.1 hx with e | hx
    · rw [e]; exact b
    · rw [List.mem_singleton.1 hx]; exact c, h⟩

/-- An own slice up to more of its room. -/
theorem OwnS.grow (h : OwnS e z s xs L) (n : Nat) (h1 : s.n ≤ n) (h2 : n ≤ s.c) : ∃ ys, OwnS e z ⟨s.a, n, s.c⟩ ys L ∧ ys.take (s.n * z) = xs := by
  obtain ⟨hl, h⟩ := h
  rcases h with ⟨ha, h0, hc, rfl⟩ | ⟨g, cur, rfl, ha, hnc, hcm, hcs, htk⟩
  · have hn : n = 0 := by omega
    subst hn
    refine ⟨[], ⟨by simp, .inl ⟨ha, rfl, hc, rfl⟩⟩, ?_⟩
    rw [h0] at hl
    rw [List.take_nil, List.eq_nil_of_length_eq_zero (by omega : xs.length = 0)]
  · have hb : n * z ≤ s.c * z := Nat.mul_le_mul_right _ h2
    have hb1 : s.n * z ≤ n * z := Nat.mul_le_mul_right _ h1
    refine ⟨cur.toList.take (n * z), ⟨by simp; omega, .inr ⟨g, cur, rfl, ha, h2, hcm, hcs, ?_⟩⟩, ?_⟩
    · simp only [List.length_take, Array.length_toList]
      rw [show min (n * z) cur.size = n * z by omega]
    · rw [List.take_take, show min (s.n * z) (n * z) = s.n * z by omega, ← hl]
      exact htk

/-- What is appended by 'make' where there is no room: new memory. -/
theorem r_appendMake {t ti ty by_ : Nat} (hT : SlT P t e z by_) (hti : P.underlying ti = some (.int .i64)) (hA : At w0 w ls) {x : Sl} {news : List Value} (hx : SlAt w x z news) (m : Nat) {k : Sl → World → Prop}
    (hgrow : x.c < x.n + m) (hbytes : (x.n + m) * by_ ≤ 140737488355328) (hmax : x.n + m ≤ 140737488355328)
    (h : ∀ s' xs' L' w', At w0 w' (L' ++ ls) → OwnS e z s' xs' L' → s'.n = x.n + m → xs'.take (x.n * z) = news → k s' w') :
    ((real P R).sem (Builtin.append_ #[t, ti] ty #[.slice x.a x.n x.c, .int .i64 (m : Int)]) .slice k : World → Prop) w := by
  obtain ⟨i, zv, hi, hzv, hsz, hby, hzs⟩ := hT.ex
  have hpos := hT.pos
  have hmx : x.n + m ≤ maxLen := by unfold maxLen; omega
  have hw : IntKind.wrap .i64 (m : Int) = m := IntWalk.i64_in m (by omega)
  have hm0 : ¬ ((m : Int) < 0) := by omega
  have hbm : m * by_ ≤ (x.n + m) * by_ := Nat.mul_le_mul_right _ (by omega)
  have hb48 : ¬ (281474976710656 < (m : Int) * (i.bytes : Int)) := by
    rw [hby]
    have : ((m * by_ : Nat) : Int) = (m : Int) * (by_ : Int) := by simp
    omega
  have hroom : ¬ (x.n + m ≤ x.c) := by omega
  have hfx := run_first (P := P) hx.drew'
  have h63' : ¬ (9223372036854775807 < ((x.n : Int) + (m : Int))) := by omega
  have hfit := growslice_fits (need := x.n + m) (old := x.c) (bytes := by_) (by omega) hbytes
  have h48' : ¬ (281474976710656 < Builtin.nextslicecap (x.n + m) x.c * i.bytes) := by rw [hby]; omega
  have hge := grownCap_ge w (x.n + m) x.c e
  have hcm := grownCap_le_maxLen w (x.n + m) x.c e hmx
  have hsz' : (news.toArray ++ Builtin.zeroCells zv.cells m ++ Builtin.zeroCells zv.cells (grownCap w (x.n + m) x.c e - (x.n + m))).size = grownCap w (x.n + m) x.c e * z := by
    simp only [Array.size_append, List.size_toArray, size_zeroCells, hzs, hx.len, ← Nat.add_mul]
    congr 1
    omega
  have hlen : news.length = x.n * z := hx.len
  refine ⟨⟨some ⟨w.heap.size, 0, none⟩, x.n + m, grownCap w (x.n + m) x.c e⟩, w.drew.alloc (.cells (news.toArray ++ Builtin.zeroCells zv.cells m ++ Builtin.zeroCells zv.cells (grownCap w (x.n + m) x.c e - (x.n + m))) e), ?_,
    h _ (news ++ (Builtin.zeroCells zv.cells m).toList) [(w.heap.size, news.toArray ++ Builtin.zeroCells zv.cells m ++ Builtin.zeroCells zv.cells (grownCap w (x.n + m) x.c e - (x.n + m)), e)] _ ?_ ⟨?_, .inr ⟨_, _, rfl, rfl, hge, hcm, hsz', ?_⟩⟩ rfl ?_⟩
  · simp only [Sh.emb]
    simp [Builtin.append_, run_underlying hT.ut, run_underlying hti, sizeOf, typeInfo, hi, hsz, Builtin.lenOf, asInt, asIntOf, hw, hm0, hb48, hroom, h63', h48', Question.forced, hfx, newRow, grownCap, zeroValue, hzv]
    intro h0
    have hm : m = 0 := by
      rcases Nat.mul_eq_zero.1 h0 with h | h
      · exact h
      · omega
    subst hm
    have hz0 : Builtin.zeroCells zv.cells 0 = #[] := Array.eq_empty_of_size_eq_zero (by simp [size_zeroCells])
    rw [hz0]
    simp
  · have := (hA.trans (drew_below w)).trans (below_alloc w.drew (.cells (news.toArray ++ Builtin.zeroCells zv.cells m ++ Builtin.zeroCells zv.cells (grownCap w (x.n + m) x.c e - (x.n + m))) e))
    exact (this.add (heap_alloc_self w.drew _) hA.size (hA.fresh (Nat.le_refl _)))
  · simp [size_zeroCells, hzs, hlen, Nat.add_mul]
  · simp only [Array.toList_append]
    exact List.take_left
  · rw [← hlen]
    exact List.take_left

/-- copy into an own slice, of what may be longer. -/
theorem r_copyO2 {dT sT ty by_ : Nat} (hT : SlT P dT e z by_) (hA : At w0 w (L ++ ls)) (hO : OwnS e z s xs L) {x y : Sl} {news : List Value} (m : Nat) (hm : m + x.n ≤ s.n) (hx : 0 < x.n → x.a = s.a.map (·.add (m * z))) (hy : SlAt w y z news) (hyn : x.n ≤ y.n) (h1 : ∀ u ∈ news.take (x.n * z), oneC u = true) {k : Int → World → Prop}
    (h : ∀ w' L', At w0 w' (L' ++ ls) → OwnS e z s (xs.take (m * z) ++ news.take (x.n * z) ++ xs.drop (m * z + x.n * z)) L' → k x.n w') : ((real P R).sem (Builtin.copy_ #[dT, sT] ty #[.slice x.a x.n x.c, .slice y.a y.n y.c]) (.int .i64) k : World → Prop) w := by
  have e1 : Builtin.copy_ #[dT, sT] ty #[.slice x.a x.n x.c, .slice y.a y.n y.c] = Builtin.copy_ #[dT, sT] ty #[.slice x.a x.n x.c, .slice y.a x.n y.c] := by
    have h1 : min y.n x.n = x.n := by omega
    cases hya : y.a <;> simp [Builtin.copy_, Builtin.lenOf, Builtin.firstCells, h1]
  rw [e1]
  have hnl : (news.take (x.n * z)).length = x.n * z := by
    rw [List.length_take, hy.len]
    have := Nat.mul_le_mul_right z hyn
    omega
  have hy' : SlAt w ⟨y.a, x.n, y.c⟩ z (news.take (x.n * z)) := ⟨hnl, fun j v hv => by
    rw [List.getElem?_take] at hv
    split at hv
    · exact hy.cell j v hv
    · cases hv⟩
  exact r_copyO hT hA hO (y := ⟨y.a, x.n, y.c⟩) m hm hx hy' (Nat.le_refl _) h1 fun w' L' hA' hO' => h w' L' hA' (by rw [hnl] at hO'; exact hO')

/-- Two own slices do not overlap. -/
theorem r_overlaps {f t tr by_ : Nat} {fn : Func} (hT : SlT P t e z by_) (hf : P.funcs[f]? = some fn) (hname : (fn.name == "runtime.NumGoroutine") = false) (hb : fn.body.isNone = true) (hn : Extern.findNext fn = none) (he : Extern.find fn = some (Extern.SlicesOverlaps.overlaps #[t, t] #[tr]))
    {Lv : List Blk} {v y : Sl} {vs : List Value} (hA : At w0 w (L ++ ls)) (hsub : Lv.Sublist ls) (hO : OwnS e z s xs L) (hv : OwnS e z v vs Lv) (hs0 : 0 < s.n) (hv0 : 0 < v.n) (m : Nat) (hy : y.a = s.a.map (·.add (m * z)))
    {k : Bool → World → Prop} (h : k false w) : ((real P R).ext f [.slice v.a v.n v.c, .slice y.a y.n y.c] [.bool] k : World → Prop) w := by
  obtain ⟨i, zv, hi, hzv, hsz, hby, hzs⟩ := hT.ex
  have hpos := hT.pos
  refine ⟨false, w, ?_, h⟩
  rw [run_callFunc_extern hf hname hb hn he]
  have hz : ∀ w, (Go.sizeOf e).run P w = .ok z w := fun w => by simp [sizeOf, typeInfo, hi, hsz]
  rcases hv.2 with ⟨_, hv0', _⟩ | ⟨gv, cv, rfl, hva, hvn, hvm, hvs, _⟩
  · omega
  rcases hO.2 with ⟨_, hs0', _⟩ | ⟨g, cur, rfl, hsa, hsn, hsm, hss, _⟩
  · omega
  have hg := hA.get (i := 0) rfl
  have hmem : (gv, cv, e) ∈ ls := hsub.subset (by simp)
  have hgv : w.heap[gv]? = some (.cells cv e (0, 0)) := hA.own _ (List.mem_append.2 (.inr hmem))
  have hne : gv ≠ g := by
    have := hA.nodup
    rw [List.map_append, List.nodup_append] at this
    exact fun hh => this.2.2 g (by simp) gv (List.mem_map.2 ⟨_, hmem, rfl⟩) hh.symm
  have hcs : cur.size ≠ 0 := by rw [hss]; have := Nat.mul_le_mul_right z hsn; have := Nat.mul_le_mul_right z hs0; omega
  rw [hy, hva, hsa]
  simp only [Option.map_some]
  rw [Go.Lib.run_overlaps_apart w t tr e hT.ut z hz ⟨gv, 0, none⟩ ((⟨g, 0, none⟩ : Addr).add (m * z)) v.n v.c y.n y.c (by rw [add_lit]; exact hne) e e cv.size cur.size (by simp [World.shape?, hgv]) (by rw [add_lit]; simp [World.shape?, hg]) hcs (by simp [World.frozen?, hgv]) (by simp [World.frozen?, hgv])]
  rfl
end Go.Sx

namespace Go.Sx
theorem SlO.base {w0 w : World} {ls : List Blk} {e z : Nat} {s : Sl} {xs : List Value} (h : SlO w0 w ls e z s xs) : SlO w0 w [] e z s xs := by
  obtain ⟨L, hO, hA⟩ := h.split
  exact hO.slo (ls := []) (by simpa using hA.left)
end Go.Sx
namespace Go.Proofs.YthaecdelaifccaaGreat
open Go.Sx Go.RowKit

end Go.Proofs.YthaecdelaifccaaGreat

namespace Go.Sx
open Go.ChangeShapes Go.WideShapes Go.ChangeAt Go.RowKit Go.Deep

section
variable {H : Type} {enc : TypeId × Value → H} {P : Program} {w : World} {base : Nat} {spare : Nat → Bool} {held : Bool}

theorem trodAll_stays (hl : laidOutB P = true) {W W' : World} : ∀ {ts : List TypeId} {vs : List Value} {ds : List (DataW H)} {ps : List MemPlace}, (∀ t ∈ ts, P.readableRec t = true ∧ t < P.types.size) → DataW.TrodAll enc P W 0 (fun _ => true) true ts vs ds ps → Below W.heap.size W W' →
    (∀ x ∈ ps, x.block < W.heap.size) → DataW.TrodAll enc P W' 0 (fun b => decide (b < W.heap.size)) true ts vs ds ps
  | [], vs, ds, ps, _, h, _, _ => by
    obtain ⟨rfl, rfl, rfl⟩ := trodAll_nil h
    exact trodAll_mk0
  | t :: ts, vs, ds, ps, ht, h, hb, hlt => by
    obtain ⟨v, vs', d, ds', p, q, rfl, rfl, rfl, h1, h2⟩ := trodAll_cons h
    have ht1 := ht t (by simp)
    exact trodAll_cons_mk (Below.trod hl ht1.1 ht1.2 h1 hb fun x hx => hlt x (by simp [hx])) (trodAll_stays hl (fun t h => ht t (by simp [h])) h2 hb fun x hx => hlt x (by simp [hx]))

theorem trodAll_len : ∀ {ts : List TypeId} {vs : List Value} {ds : List (DataW H)} {ps : List MemPlace}, DataW.TrodAll enc P w base spare held ts vs ds ps → ds.length = ts.length
  | [], _, _, _, h => by obtain ⟨_, rfl, _⟩ := trodAll_nil h; rfl
  | _ :: _, _, _, _, h => by
    obtain ⟨v, vs', d, ds', p, q, rfl, rfl, rfl, _, h2⟩ := trodAll_cons h
    simp [trodAll_len h2]
end

/-- THE ROW's STEP for a law that returns true and leaves all that was there. -/
theorem law_lifted {C : Checked} {os : Os} {f : FuncId} {fn : Func} {s : ChangeSpec} {conds : List PathCond} {tb : TypeId} (own : ownKnob C.prog.godebug = none) (started : os.Started) (noInit : C.prog.inits.idxOf? f = none) (hfn : C.prog.funcs[f]? = some fn)
    (hl : laidOutB C.prog = true) (hpar : (fn.params.toList.all fun t => C.prog.readableRec t && decide (t < C.prog.types.size)) = true) (hres : fn.resultTypes = #[tb]) (hb : C.prog.underlying tb = some .bool) (hv : s.vars = [])
    {H : Type} {enc : TypeId × Value → H}
    (hspec : ∀ ds : List (DataW H), ds.length = fn.params.size → (s.fn H ds).results = [.lit (.bool true)] ∧ (s.fn H ds).args = ds ∧ (s.fn H ds).vars = [])
    (witness : ∃ (w : World) (tape : Tape) (i : Input), w.os = os ∧ (w.forCall tape i).Shaped C.prog ∧ i.vars = [] ∧ Input.okWide C.prog (w.forCall tape i) .any w.heap.size f i ∧
      s.pre6 enc C.prog fn conds false (w.forCall tape i).memory i.args ∧ Assume.holds {} C.prog (lone (Frame.enter C.prog f i.args .normal) [] (w.forCall tape i)))
    (contract : ∀ (W : World) (base : Nat) (args : Array Value) (ds : List (DataW H)) (p : List MemPlace), (∀ (j : Nat) t v, fn.params[j]? = some t → args[j]? = some v → Value.okWide C.prog W .any base t v) →
      DataW.TrodAll enc C.prog W 0 (fun _ => true) true fn.params.toList args.toList ds p → Ret C.prog f args.toList W [.bool] (fun r _ => r = true)) :
    ReturnsInHanded {} C os f .any (s.pre6 enc C.prog fn conds false) (s.post enc C.prog fn false true false false) := by
  refine returnsInHanded_of_change own started noInit hfn witness ?_
  intro W base args ds gs before hval hW _ _
  have hW' := hW
  obtain ⟨p, q, hA, hV, rfl, hfz, hnd⟩ := hW
  rw [hv] at hV
  obtain ⟨rfl, rfl⟩ := trodVars_none hV
  have hlen := trodAll_len hA
  obtain ⟨e1, e2, e3⟩ := hspec ds (by simpa using hlen)
  have hlt : ∀ x ∈ p, x.block < W.heap.size := fun x hx => by simpa using hW'.lt x (by simpa using hx)
  have hcall : Calls C.prog f args W fun e w' => ∃ v, e = .returned v ∧ RR W [.bool] (fun r _ => r = true) v w' := contract W base args ds p hval hA
  refine hcall.mono fun e W' ⟨v, he, x, hv', hbel, hx⟩ => ?_
  subst hx
  have hv'' : v = .bool true := hv'
  subst hv''
  refine ⟨_, he, ds, [], p ++ [], [], p, [], hW', ?_, ?_, ?_, hbel.frame _, fun h => by cases h⟩
  · rw [List.append_nil, e1, hres]
    exact trodAll_mk1 (shut_bool hb _)
  · rw [List.append_nil, e2]
    refine trodAll_stays hl (fun t ht => ?_) hA hbel hlt
    have := List.all_eq_true.1 hpar t ht
    simpa using this
  · rw [List.append_nil, e3, hv]
    rfl

end Go.Sx

namespace Go.Sx
open Go.ChangeShapes Go.WideShapes Go.ChangeAt Go.RowKit Go.Deep

section
variable {H : Type} {enc : TypeId × Value → H} {P : Program} {w : World} {base : Nat} {spare : Nat → Bool} {held : Bool}

theorem trod_sl {α : Type} [Inhabited α] {t u z : Nat} {cells : α → List Value} {ok : α → Prop} (ht : P.underlying t = some (.slice u)) (hc : P.cellsOf u = z) (hz : 0 < z) (hlen : ∀ a, ok a → (cells a).length = z)
    (elem : ∀ (fuel : Nat) (cs : List Value) (x : DataW H × List MemPlace), DataW.trod enc P w base spare held fuel u cs = some x → ∃ a : α, cs = cells a ∧ ok a)
    {fuel : Nat} {cs : List Value} {x : DataW H × List MemPlace} (h : DataW.trod enc P w base spare held fuel t cs = some x) :
    ∃ (s : Sl) (xs : List α), cs = [.slice s.a s.n s.c] ∧ SlOf w s z cells xs ∧ s.c ≤ maxLen ∧ ∀ a ∈ xs, ok a := by
  rcases open_slice ht h with ⟨rfl, _⟩ | ⟨a', len, cap, m, k, D, Pl, rfl, _, hl, hm, hmm, _, hx⟩
  · exact ⟨⟨none, 0, 0⟩, [], rfl, SlOf.nil hz, Nat.zero_le _, by simp⟩
  · have hlm : len ≤ m := by rw [hmm]; split <;> omega
    obtain ⟨g, hg⟩ := choose_lt (α := α) (n := len) (p := fun i y => ok y ∧ ∀ j v, (cells y)[j]? = some v → w.cell? ((a'.add (i * z)).add j) = some v) (fun i hi => by
      obtain ⟨cs', h1, h2⟩ := hx i (by omega)
      rw [hc] at h1
      obtain ⟨y, rfl, hy⟩ := elem _ _ _ h2
      obtain ⟨_, hlen', hcell⟩ := World.cells?_some h1
      refine ⟨y, hy, fun j v hv => ?_⟩
      rw [hcell j (by have := (List.getElem?_eq_some_iff.1 hv).1; omega), hv])
    have hmem : ∀ y ∈ (List.range len).map g, ok y := by
      intro y hy
      simp only [List.mem_map, List.mem_range] at hy
      obtain ⟨i, hi, rfl⟩ := hy
      exact (hg i hi).1
    have hone : ∀ y ∈ (List.range len).map g, (cells y).length = z := fun y hy => hlen y (hmem y hy)
    have hfl : (((List.range len).map g).flatMap cells).length = len * z := by rw [flatMap_length hone]; simp
    refine ⟨⟨some a', len, cap⟩, (List.range len).map g, rfl, ⟨⟨hfl, fun j v hv => ⟨a', rfl, ?_⟩⟩, hone, hl, hz⟩, hm, hmem⟩
    have hj : j < len * z := by rw [← hfl]; exact (List.getElem?_eq_some_iff.1 hv).1
    have hi : j / z < len := (Nat.div_lt_iff_lt_mul hz).2 hj
    have hr : j % z < z := Nat.mod_lt _ hz
    obtain ⟨h1, h2⟩ := hg (j / z) hi
    have hr' : j % z < (cells (g (j / z))).length := by rw [hlen _ h1]; exact hr
    have e := flatMap_get (cs := cells) (i := j / z) (j := j % z) hone (by simp [hi]) (List.getElem?_eq_getElem hr')
    rw [Nat.div_add_mod', hv] at e
    have := h2 (j % z) _ (List.getElem?_eq_getElem hr')
    rwa [add_add, Nat.div_add_mod', ← e] at this

theorem trod_u8s {t e : Nat} (ht : P.underlying t = some (.slice e)) (he : P.underlying e = some (.int .u8)) (hc : P.cellsOf e = 1) {fuel : Nat} {cs : List Value} {x : DataW H × List MemPlace} (h : DataW.trod enc P w base spare held fuel t cs = some x) :
    ∃ (s : Sl) (l : List Int), cs = [.slice s.a s.n s.c] ∧ SlAt w s 1 (l.map (Value.int .u8)) ∧ (∀ b ∈ l, 0 ≤ b ∧ b < 256) ∧ s.n ≤ s.c ∧ s.c ≤ maxLen := by
  obtain ⟨s, xs, h1, h2, h3, h4⟩ := trod_sl (α := Int) (ok := fun b => 0 ≤ b ∧ b < 256) (cells := fun b => [Value.int .u8 b]) ht hc (by omega) (fun _ _ => rfl) (fun fuel cs x h => by
    obtain ⟨b, hb, _, hw⟩ := DataW.trod_int he h
    have hb2 := bounds_u8 hw
    exact ⟨b, hb, hb2.1, by omega⟩) h
  refine ⟨s, xs, h1, ?_, h4, h2.cap, h3⟩
  have := h2.sl
  rwa [show xs.flatMap (fun b => [Value.int .u8 b]) = xs.map (Value.int .u8) from (List.map_eq_flatMap ..).symm] at this

theorem okWide_struct {r : Reach} {b0 : Nat} {t : TypeId} {fs : Array Field} {v : Value} (ht : P.underlying t = some (.struct fs)) (h : Value.okWide P w r b0 t v) : ∃ cs, v = .agg cs := by
  simp only [Value.okWide, ht] at h
  obtain ⟨cs, h1, _⟩ := h
  exact ⟨cs, h1⟩
/-- A type's fields: their types and where they stand. -/
def structB (P : Program) (t : TypeId) (l : List (TypeId × Nat)) : Bool := match P.underlying t with
  | some (.struct fs) => (fs.toList.map fun f => (f.type, f.offset)) == l
  | _ => false
theorem structB_of {t : TypeId} {l : List (TypeId × Nat)} (h : structB P t l = true) : ∃ fs, P.underlying t = some (.struct fs) ∧ fs.toList.map (fun f => (f.type, f.offset)) = l := by
  unfold structB at h
  split at h
  · rename_i fs hu
    exact ⟨fs, hu, by simpa using h⟩
  · cases h
theorem okWide_structB {r : Reach} {b0 : Nat} {t : TypeId} {l : List (TypeId × Nat)} {v : Value} (ht : structB P t l = true) (h : Value.okWide P w r b0 t v) : ∃ cs, v = .agg cs := by
  obtain ⟨fs, hu, _⟩ := structB_of ht
  exact okWide_struct hu h
theorem trod_fields {t : TypeId} {l : List (TypeId × Nat)} {fuel : Nat} {cs : List Value} {x : DataW H × List MemPlace} (ht : structB P t l = true) (h : DataW.trod enc P w base spare held fuel t cs = some x) :
    cs.length = P.cellsOf t ∧ ∀ (i : Nat) ty off, l[i]? = some (ty, off) → ∃ n y, DataW.trod enc P w base spare held n ty ((cs.drop off).take (P.cellsOf ty)) = some y := by
  obtain ⟨fs, hu, hl⟩ := structB_of ht
  obtain ⟨xs, n, _, rfl, hlen, hxl, hf⟩ := DataW.trod_struct hu h
  refine ⟨hlen, fun i ty off hi => ?_⟩
  rw [← hl, List.getElem?_map] at hi
  cases hfi : fs.toList[i]? with
  | none => rw [hfi] at hi; cases hi
  | some f =>
    rw [hfi] at hi
    simp only [Option.map_some, Option.some.injEq, Prod.mk.injEq] at hi
    obtain ⟨rfl, rfl⟩ := hi
    have hfi' : fs[i]? = some f := by rw [← Array.getElem?_toList]; exact hfi
    have := hf i f hfi'
    have hlt : i < xs.length := by rw [hxl]; exact (Array.getElem?_eq_some_iff.1 hfi').1
    rw [List.getElem?_eq_getElem hlt] at this
    exact ⟨n, _, this⟩

/-- A record of a byte and bytes. -/
theorem trod_tagged {t b s e : TypeId} {fuel : Nat} {cs : List Value} {x : DataW H × List MemPlace} (ht : structB P t [(b, 0), (s, 1)] = true) (hct : P.cellsOf t = 2) (hcb : P.cellsOf b = 1) (hcs : P.cellsOf s = 1)
    (hb : P.underlying b = some (.int .u8)) (hs : P.underlying s = some (.slice e)) (he : P.underlying e = some (.int .u8)) (hce : P.cellsOf e = 1) (h : DataW.trod enc P w base spare held fuel t cs = some x) :
    ∃ (c : Int) (d : Sl) (l : List Int), cs = [.int .u8 c, .slice d.a d.n d.c] ∧ (0 ≤ c ∧ c < 256) ∧ SlAt w d 1 (l.map (Value.int .u8)) ∧ (∀ b ∈ l, 0 ≤ b ∧ b < 256) ∧ d.n ≤ d.c ∧ d.c ≤ maxLen := by
  obtain ⟨hl, hf⟩ := trod_fields ht h
  obtain ⟨_, _, t0⟩ := hf 0 _ _ rfl
  obtain ⟨_, _, t1⟩ := hf 1 _ _ rfl
  rw [hcb] at t0
  rw [hcs] at t1
  rw [hct] at hl
  match cs, hl with
  | [v0, v1], _ =>
    simp at t0 t1
    obtain ⟨c, hc, _, hw⟩ := DataW.trod_int hb t0
    have hb2 := bounds_u8 hw
    obtain ⟨d, l, hd, k1, k2, k3, k4⟩ := trod_u8s hs he hce t1
    simp at hc hd
    subst hc hd
    exact ⟨c, d, l, rfl, ⟨hb2.1, by omega⟩, k1, k2, k3, k4⟩
end
end Go.Sx
namespace Go.Proofs.YthaecdelaifccaaGreat
open Go.Sx Go.RowKit
section
variable {H : Type} {enc : TypeId × Value → H} {w : World} {base : Nat} {spare : Nat → Bool} {held : Bool}
instance : Inhabited BR := ⟨⟨0, ⟨none, 0, 0⟩, []⟩⟩

set_option maxRecDepth 100000 in
theorem open_Blobs {fuel : Nat} {cs : List Value} {x : DataW H × List MemPlace} (h : DataW.trod enc Tryz.prog w base spare held fuel ty_sl_laws_Blob cs = some x) :
    ∃ (s : Sl) (bs : List BR), cs = [.slice s.a s.n s.c] ∧ BsR w s bs ∧ s.c ≤ maxLen ∧ ∀ b ∈ bs, b.d.c ≤ maxLen := by
  obtain ⟨s, bs, h1, h2, h3, h4⟩ := trod_sl (u := ty_laws_Blob) (z := 2) (cells := BR.cells) (ok := fun b => b.Ok w ∧ b.d.c ≤ maxLen) (by kernel_rfl) (by kernel_rfl) (by omega) (fun b _ => cells_len b) (fun fuel cs x h => by
    obtain ⟨c, d, l, h1, h2, h3, h4, h5, h6⟩ := trod_tagged (b := ty_uint8) (s := ty_sl_uint8) (e := ty_uint8) (by kernel_rfl) (by kernel_rfl) (by kernel_rfl) (by kernel_rfl) (by kernel_rfl) (by kernel_rfl) (by kernel_rfl) (by kernel_rfl) h
    exact ⟨⟨c, d, l⟩, h1, ⟨⟨h3, h4, h5⟩, h2.1, h2.2⟩, h6⟩) h
  exact ⟨s, bs, h1, ⟨h2, fun b hb => (h4 b hb).1⟩, h3, fun b hb => (h4 b hb).2⟩

set_option maxRecDepth 100000 in
theorem open_Store {r : Reach} {b0 : Nat} {v : Value} {d : DataW H} {ps : List MemPlace} (hval : Value.okWide Tryz.prog w r b0 ty_laws_Store v) (hd : DataW.Trod enc Tryz.prog w base spare held ty_laws_Store v d ps) : ∃ (x : Array Value) (B : List PB), v = .agg x ∧ RawStore w x B := by
  have hb : structB Tryz.prog ty_laws_Store [(ty_sl_laws_Blob, 0)] = true := by kernel_rfl
  obtain ⟨cs, rfl⟩ := okWide_structB hb hval
  obtain ⟨fuel, hf⟩ := hd
  obtain ⟨hl, hf⟩ := trod_fields hb hf
  obtain ⟨_, _, t0⟩ := hf 0 _ _ rfl
  have e3 : Tryz.prog.cellsOf ty_sl_laws_Blob = 1 := by kernel_rfl
  have e4 : Tryz.prog.cellsOf ty_laws_Store = 1 := by kernel_rfl
  rw [e3] at t0
  rw [e4] at hl
  have hl' : (Value.agg cs).cells.toList = cs.toList := rfl
  rw [hl'] at t0 hl
  rw [List.drop_zero, List.take_of_length_le (by omega)] at t0
  obtain ⟨s, bs, h1, h2, h3, h4⟩ := open_Blobs t0
  have hcs : cs = #[.slice s.a s.n s.c] := by rw [← Array.toArray_toList (xs := cs), h1]
  subst hcs
  exact ⟨_, bs.map BR.pb, rfl, s, bs, rfl, rfl, h2, h3, h4⟩
end
end Go.Proofs.YthaecdelaifccaaGreat
