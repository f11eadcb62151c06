/- Rules for slices.Insert: room made by append, copies within one slice, do two slices overlap. -/
import Derived.Test.YtffedfdhhglmkaaGreatM1
import Derived.Lib.Overlaps
namespace Go.Sx
open Go.RowKit (Below)
variable {P : Program} {R : Value → World → Prop} {w0 w : World} {ls L : List Blk} {e z : Nat} {s : Sl} {xs : List Value}

theorem r_chk3 {h1 h2 h3 : Held} {k : World → Prop} (a : ldOk w h1.n h1.p h1.sh h1.x) (b : ldOk w h2.n h2.p h2.sh h2.x) (c : ldOk w h3.n h3.p h3.sh h3.x) (h : k w) : ((real P R).chk [h1, h2, h3] k : World → Prop) w :=
  ⟨fun x hx => by
    rcases List.mem_cons.1 hx with e | hx
    · rw [e]; exact a
    rcases List.mem_cons.1 hx with e | hx
    · rw [e]; exact b
    · rw [List.mem_singleton.1 hx]; exact c, h⟩

/-- An own slice up to more of its room. -/
theorem OwnS.grow (h : OwnS e z s xs L) (n : Nat) (h1 : s.n ≤ n) (h2 : n ≤ s.c) : ∃ ys, OwnS e z ⟨s.a, n, s.c⟩ ys L ∧ ys.take (s.n * z) = xs := by
  obtain ⟨hl, h⟩ := h
  rcases h with ⟨ha, h0, hc, rfl⟩ | ⟨g, cur, rfl, ha, hnc, hcm, hcs, htk⟩
  · have hn : n = 0 := by omega
    subst hn
    refine ⟨[], ⟨by simp, .inl ⟨ha, rfl, hc, rfl⟩⟩, ?_⟩
    rw [h0] at hl
    rw [List.take_nil, List.eq_nil_of_length_eq_zero (by omega : xs.length = 0)]
  · have hb : n * z ≤ s.c * z := Nat.mul_le_mul_right _ h2
    have hb1 : s.n * z ≤ n * z := Nat.mul_le_mul_right _ h1
    refine ⟨cur.toList.take (n * z), ⟨by simp; omega, .inr ⟨g, cur, rfl, ha, h2, hcm, hcs, ?_⟩⟩, ?_⟩
    · simp only [List.length_take, Array.length_toList]
      rw [show min (n * z) cur.size = n * z by omega]
    · rw [List.take_take, show min (s.n * z) (n * z) = s.n * z by omega, ← hl]
      exact htk

/-- What is appended by 'make' where there is no room: new memory. -/
theorem r_appendMake {t ti ty by_ : Nat} (hT : SlT P t e z by_) (hti : P.underlying ti = some (.int .i64)) (hA : At w0 w ls) {x : Sl} {news : List Value} (hx : SlAt w x z news) (m : Nat) {k : Sl → World → Prop}
    (hgrow : x.c < x.n + m) (hbytes : (x.n + m) * by_ ≤ 140737488355328) (hmax : x.n + m ≤ 140737488355328)
    (h : ∀ s' xs' L' w', At w0 w' (L' ++ ls) → OwnS e z s' xs' L' → s'.n = x.n + m → xs'.take (x.n * z) = news → k s' w') :
    ((real P R).sem (Builtin.append_ #[t, ti] ty #[.slice x.a x.n x.c, .int .i64 (m : Int)]) .slice k : World → Prop) w := by
  obtain ⟨i, zv, hi, hzv, hsz, hby, hzs⟩ := hT.ex
  have hpos := hT.pos
  have hmx : x.n + m ≤ maxLen := by unfold maxLen; omega
  have hw : IntKind.wrap .i64 (m : Int) = m := IntWalk.i64_in m (by omega)
  have hm0 : ¬ ((m : Int) < 0) := by omega
  have hbm : m * by_ ≤ (x.n + m) * by_ := Nat.mul_le_mul_right _ (by omega)
  have hb48 : ¬ (281474976710656 < (m : Int) * (i.bytes : Int)) := by
    rw [hby]
    have : ((m * by_ : Nat) : Int) = (m : Int) * (by_ : Int) := by simp
    omega
  have hroom : ¬ (x.n + m ≤ x.c) := by omega
  have hfx := run_first (P := P) hx.drew'
  have h63' : ¬ (9223372036854775807 < ((x.n : Int) + (m : Int))) := by omega
  have hfit := growslice_fits (need := x.n + m) (old := x.c) (bytes := by_) (by omega) hbytes
  have h48' : ¬ (281474976710656 < Builtin.nextslicecap (x.n + m) x.c * i.bytes) := by rw [hby]; omega
  have hge := grownCap_ge w (x.n + m) x.c e
  have hcm := grownCap_le_maxLen w (x.n + m) x.c e hmx
  have hsz' : (news.toArray ++ Builtin.zeroCells zv.cells m ++ Builtin.zeroCells zv.cells (grownCap w (x.n + m) x.c e - (x.n + m))).size = grownCap w (x.n + m) x.c e * z := by
    simp only [Array.size_append, List.size_toArray, size_zeroCells, hzs, hx.len, ← Nat.add_mul]
    congr 1
    omega
  have hlen : news.length = x.n * z := hx.len
  refine ⟨⟨some ⟨w.heap.size, 0, none⟩, x.n + m, grownCap w (x.n + m) x.c e⟩, w.drew.alloc (.cells (news.toArray ++ Builtin.zeroCells zv.cells m ++ Builtin.zeroCells zv.cells (grownCap w (x.n + m) x.c e - (x.n + m))) e), ?_,
    h _ (news ++ (Builtin.zeroCells zv.cells m).toList) [(w.heap.size, news.toArray ++ Builtin.zeroCells zv.cells m ++ Builtin.zeroCells zv.cells (grownCap w (x.n + m) x.c e - (x.n + m)), e)] _ ?_ ⟨?_, .inr ⟨_, _, rfl, rfl, hge, hcm, hsz', ?_⟩⟩ rfl ?_⟩
  · simp only [Sh.emb]
    simp [Builtin.append_, run_underlying hT.ut, run_underlying hti, sizeOf, typeInfo, hi, hsz, Builtin.lenOf, asInt, asIntOf, hw, hm0, hb48, hroom, h63', h48', Question.forced, hfx, newRow, grownCap, zeroValue, hzv]
    intro h0
    have hm : m = 0 := by
      rcases Nat.mul_eq_zero.1 h0 with h | h
      · exact h
      · omega
    subst hm
    have hz0 : Builtin.zeroCells zv.cells 0 = #[] := Array.eq_empty_of_size_eq_zero (by simp [size_zeroCells])
    rw [hz0]
    simp
  · have := (hA.trans (drew_below w)).trans (below_alloc w.drew (.cells (news.toArray ++ Builtin.zeroCells zv.cells m ++ Builtin.zeroCells zv.cells (grownCap w (x.n + m) x.c e - (x.n + m))) e))
    exact (this.add (heap_alloc_self w.drew _) hA.size (hA.fresh (Nat.le_refl _)))
  · simp [size_zeroCells, hzs, hlen, Nat.add_mul]
  · simp only [Array.toList_append]
    exact List.take_left
  · rw [← hlen]
    exact List.take_left

/-- copy into an own slice, of what may be longer. -/
theorem r_copyO2 {dT sT ty by_ : Nat} (hT : SlT P dT e z by_) (hA : At w0 w (L ++ ls)) (hO : OwnS e z s xs L) {x y : Sl} {news : List Value} (m : Nat) (hm : m + x.n ≤ s.n) (hx : 0 < x.n → x.a = s.a.map (·.add (m * z))) (hy : SlAt w y z news) (hyn : x.n ≤ y.n) (h1 : ∀ u ∈ news.take (x.n * z), oneC u = true) {k : Int → World → Prop}
    (h : ∀ w' L', At w0 w' (L' ++ ls) → OwnS e z s (xs.take (m * z) ++ news.take (x.n * z) ++ xs.drop (m * z + x.n * z)) L' → k x.n w') : ((real P R).sem (Builtin.copy_ #[dT, sT] ty #[.slice x.a x.n x.c, .slice y.a y.n y.c]) (.int .i64) k : World → Prop) w := by
  have e1 : Builtin.copy_ #[dT, sT] ty #[.slice x.a x.n x.c, .slice y.a y.n y.c] = Builtin.copy_ #[dT, sT] ty #[.slice x.a x.n x.c, .slice y.a x.n y.c] := by
    have h1 : min y.n x.n = x.n := by omega
    cases hya : y.a <;> simp [Builtin.copy_, Builtin.lenOf, Builtin.firstCells, h1]
  rw [e1]
  have hnl : (news.take (x.n * z)).length = x.n * z := by
    rw [List.length_take, hy.len]
    have := Nat.mul_le_mul_right z hyn
    omega
  have hy' : SlAt w ⟨y.a, x.n, y.c⟩ z (news.take (x.n * z)) := ⟨hnl, fun j v hv => by
    rw [List.getElem?_take] at hv
    split at hv
    · exact hy.cell j v hv
    · cases hv⟩
  exact r_copyO hT hA hO (y := ⟨y.a, x.n, y.c⟩) m hm hx hy' (Nat.le_refl _) h1 fun w' L' hA' hO' => h w' L' hA' (by rw [hnl] at hO'; exact hO')

/-- Two own slices do not overlap. -/
theorem r_overlaps {f t tr by_ : Nat} {fn : Func} (hT : SlT P t e z by_) (hf : P.funcs[f]? = some fn) (hname : (fn.name == "runtime.NumGoroutine") = false) (hb : fn.body.isNone = true) (hn : Extern.findNext fn = none) (he : Extern.find fn = some (Extern.SlicesOverlaps.overlaps #[t, t] #[tr]))
    {Lv : List Blk} {v y : Sl} {vs : List Value} (hA : At w0 w (L ++ ls)) (hsub : Lv.Sublist ls) (hO : OwnS e z s xs L) (hv : OwnS e z v vs Lv) (hs0 : 0 < s.n) (hv0 : 0 < v.n) (m : Nat) (hy : y.a = s.a.map (·.add (m * z)))
    {k : Bool → World → Prop} (h : k false w) : ((real P R).ext f [.slice v.a v.n v.c, .slice y.a y.n y.c] [.bool] k : World → Prop) w := by
  obtain ⟨i, zv, hi, hzv, hsz, hby, hzs⟩ := hT.ex
  have hpos := hT.pos
  refine ⟨false, w, ?_, h⟩
  rw [run_callFunc_extern hf hname hb hn he]
  have hz : ∀ w, (Go.sizeOf e).run P w = .ok z w := fun w => by simp [sizeOf, typeInfo, hi, hsz]
  rcases hv.2 with ⟨_, hv0', _⟩ | ⟨gv, cv, rfl, hva, hvn, hvm, hvs, _⟩
  · omega
  rcases hO.2 with ⟨_, hs0', _⟩ | ⟨g, cur, rfl, hsa, hsn, hsm, hss, _⟩
  · omega
  have hg := hA.get (i := 0) rfl
  have hmem : (gv, cv, e) ∈ ls := hsub.subset (by simp)
  have hgv : w.heap[gv]? = some (.cells cv e (0, 0)) := hA.own _ (List.mem_append.2 (.inr hmem))
  have hne : gv ≠ g := by
    have := hA.nodup
    rw [List.map_append, List.nodup_append] at this
    exact fun hh => this.2.2 g (by simp) gv (List.mem_map.2 ⟨_, hmem, rfl⟩) hh.symm
  have hcs : cur.size ≠ 0 := by rw [hss]; have := Nat.mul_le_mul_right z hsn; have := Nat.mul_le_mul_right z hs0; omega
  rw [hy, hva, hsa]
  simp only [Option.map_some]
  rw [Go.Lib.run_overlaps_apart w t tr e hT.ut z hz ⟨gv, 0, none⟩ ((⟨g, 0, none⟩ : Addr).add (m * z)) v.n v.c y.n y.c (by rw [add_lit]; exact hne) e e cv.size cur.size (by simp [World.shape?, hgv]) (by rw [add_lit]; simp [World.shape?, hg]) hcs (by simp [World.frozen?, hgv]) (by simp [World.frozen?, hgv])]
  rfl
end Go.Sx
