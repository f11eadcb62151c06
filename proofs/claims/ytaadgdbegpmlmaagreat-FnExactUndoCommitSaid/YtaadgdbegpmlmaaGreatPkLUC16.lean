/- Rules for slices.Insert: room made by append, copies within one slice, do two slices overlap. slices.Insert for keys and for blobs. Printed by a program of this claim's author (s1.py). A blob is put into the program's store with its keys. Printed by a program of this claim's author (s2.py). More kinds of values of which laws speak: slices of entries. -/
import Derived.Lib.Overlaps
import Derived.Test.YtaadgdbegpmlmaaGreatPkLUC05
import Derived.Test.YtaadgdbegpmlmaaGreatPkLUC14
import Derived.Test.YtaadgdbegpmlmaaGreatPkLUC15
namespace Go.Sx
open Go.RowKit (Below)
variable {P : Program} {R : Value → World → Prop} {w0 w : World} {ls L : List Blk} {e z : Nat} {s : Sl} {xs : List Value}

theorem r_chk3 {h1 h2 h3 : Held} {k : World → Prop} (a : ldOk w h1.n h1.p h1.sh h1.x) (b : ldOk w h2.n h2.p h2.sh h2.x) (c : ldOk w h3.n h3.p h3.sh h3.x) (h : k w) : ((real P R).chk [h1, h2, h3] k : World → Prop) w :=
  ⟨fun x hx => by
    rcases List.mem_cons.1 hx with e | hx
    · rw [e]; exact a
    rcases List.mem_cons.1 hx with e | hx
    · rw [e]; exact b
    · rw [List.mem_singleton.1 hx]; exact c, h⟩

theorem OwnS.grow (h : OwnS e z s xs L) (n : Nat) (h1 : s.n ≤ n) (h2 : n ≤ s.c) : ∃ ys, OwnS e z ⟨s.a, n, s.c⟩ ys L ∧ ys.take (s.n * z) = xs := by
  obtain ⟨hl, h⟩ := h
  rcases h with ⟨ha, h0, hc, rfl⟩ | ⟨g, cur, rfl, ha, hnc, hcm, hcs, htk⟩
  · have hn : n = 0 := by omega
    subst hn
    refine ⟨[], ⟨by simp, .inl ⟨ha, rfl, hc, rfl⟩⟩, ?_⟩
    rw [h0] at hl
    rw [List.take_nil, List.eq_nil_of_length_eq_zero (by omega : xs.length = 0)]
  · have hb : n * z ≤ s.c * z := Nat.mul_le_mul_right _ h2
    have hb1 : s.n * z ≤ n * z := Nat.mul_le_mul_right _ h1
    refine ⟨cur.toList.take (n * z), ⟨by simp; omega, .inr ⟨g, cur, rfl, ha, h2, hcm, hcs, ?_⟩⟩, ?_⟩
    · simp only [List.length_take, Array.length_toList]
      rw [show min (n * z) cur.size = n * z by omega]
    · rw [List.take_take, show min (s.n * z) (n * z) = s.n * z by omega, ← hl]
      exact htk

theorem r_appendMake {t ti ty by_ : Nat} (hT : SlT P t e z by_) (hti : P.underlying ti = some (.int .i64)) (hA : At w0 w ls) {x : Sl} {news : List Value} (hx : SlAt w x z news) (m : Nat) {k : Sl → World → Prop}
    (hgrow : x.c < x.n + m) (hbytes : (x.n + m) * by_ ≤ 140737488355328) (hmax : x.n + m ≤ 140737488355328)
    (h : ∀ s' xs' L' w', At w0 w' (L' ++ ls) → OwnS e z s' xs' L' → s'.n = x.n + m → xs'.take (x.n * z) = news → k s' w') :
    ((real P R).sem (Builtin.append_ #[t, ti] ty #[.slice x.a x.n x.c, .int .i64 (m : Int)]) .slice k : World → Prop) w := by
  obtain ⟨i, zv, hi, hzv, hsz, hby, hzs⟩ := hT.ex
  have hpos := hT.pos
  have hmx : x.n + m ≤ maxLen := by unfold maxLen; omega
  have hw : IntKind.wrap .i64 (m : Int) = m := IntWalk.i64_in m (by omega)
  have hm0 : ¬ ((m : Int) < 0) := by omega
  have hbm : m * by_ ≤ (x.n + m) * by_ := Nat.mul_le_mul_right _ (by omega)
  have hb48 : ¬ (281474976710656 < (m : Int) * (i.bytes : Int)) := by
    rw [hby]
    have : ((m * by_ : Nat) : Int) = (m : Int) * (by_ : Int) := by simp
    omega
  have hroom : ¬ (x.n + m ≤ x.c) := by omega
  have hfx := run_first (P := P) hx.drew'
  have h63' : ¬ (9223372036854775807 < ((x.n : Int) + (m : Int))) := by omega
  have hfit := growslice_fits (need := x.n + m) (old := x.c) (bytes := by_) (by omega) hbytes
  have h48' : ¬ (281474976710656 < Builtin.nextslicecap (x.n + m) x.c * i.bytes) := by rw [hby]; omega
  have hge := grownCap_ge w (x.n + m) x.c e
  have hcm := grownCap_le_maxLen w (x.n + m) x.c e hmx
  have hsz' : (news.toArray ++ Builtin.zeroCells zv.cells m ++ Builtin.zeroCells zv.cells (grownCap w (x.n + m) x.c e - (x.n + m))).size = grownCap w (x.n + m) x.c e * z := by
    simp only [Array.size_append, List.size_toArray, size_zeroCells, hzs, hx.len, ← Nat.add_mul]
    congr 1
    omega
  have hlen : news.length = x.n * z := hx.len
  refine ⟨⟨some ⟨w.heap.size, 0, none⟩, x.n + m, grownCap w (x.n + m) x.c e⟩, w.drew.alloc (.cells (news.toArray ++ Builtin.zeroCells zv.cells m ++ Builtin.zeroCells zv.cells (grownCap w (x.n + m) x.c e - (x.n + m))) e), ?_,
    h _ (news ++ (Builtin.zeroCells zv.cells m).toList) [(w.heap.size, news.toArray ++ Builtin.zeroCells zv.cells m ++ Builtin.zeroCells zv.cells (grownCap w (x.n + m) x.c e - (x.n + m)), e)] _ ?_ ⟨?_, .inr ⟨_, _, rfl, rfl, hge, hcm, hsz', ?_⟩⟩ rfl ?_⟩
  · simp only [Sh.emb]
    simp [Builtin.append_, run_underlying hT.ut, run_underlying hti, sizeOf, typeInfo, hi, hsz, Builtin.lenOf, asInt, asIntOf, hw, hm0, hb48, hroom, h63', h48', Question.forced, hfx, newRow, grownCap, zeroValue, hzv]
    intro h0
    have hm : m = 0 := by
      rcases Nat.mul_eq_zero.1 h0 with h | h
      · exact h
      · omega
    subst hm
    have hz0 : Builtin.zeroCells zv.cells 0 = #[] := Array.eq_empty_of_size_eq_zero (by simp [size_zeroCells])
    rw [hz0]
    simp
  · have := (hA.trans (drew_below w)).trans (below_alloc w.drew (.cells (news.toArray ++ Builtin.zeroCells zv.cells m ++ Builtin.zeroCells zv.cells (grownCap w (x.n + m) x.c e - (x.n + m))) e))
    exact (this.add (heap_alloc_self w.drew _) hA.size (hA.fresh (Nat.le_refl _)))
  · simp [size_zeroCells, hzs, hlen, Nat.add_mul]
  · simp only [Array.toList_append]
    exact List.take_left
  · rw [← hlen]
    exact List.take_left

theorem r_copyO2 {dT sT ty by_ : Nat} (hT : SlT P dT e z by_) (hA : At w0 w (L ++ ls)) (hO : OwnS e z s xs L) {x y : Sl} {news : List Value} (m : Nat) (hm : m + x.n ≤ s.n) (hx : 0 < x.n → x.a = s.a.map (·.add (m * z))) (hy : SlAt w y z news) (hyn : x.n ≤ y.n) (h1 : ∀ u ∈ news.take (x.n * z), oneC u = true) {k : Int → World → Prop}
    (h : ∀ w' L', At w0 w' (L' ++ ls) → OwnS e z s (xs.take (m * z) ++ news.take (x.n * z) ++ xs.drop (m * z + x.n * z)) L' → k x.n w') : ((real P R).sem (Builtin.copy_ #[dT, sT] ty #[.slice x.a x.n x.c, .slice y.a y.n y.c]) (.int .i64) k : World → Prop) w := by
  have e1 : Builtin.copy_ #[dT, sT] ty #[.slice x.a x.n x.c, .slice y.a y.n y.c] = Builtin.copy_ #[dT, sT] ty #[.slice x.a x.n x.c, .slice y.a x.n y.c] := by
    have h1 : min y.n x.n = x.n := by omega
    cases hya : y.a <;> simp [Builtin.copy_, Builtin.lenOf, Builtin.firstCells, h1]
  rw [e1]
  have hnl : (news.take (x.n * z)).length = x.n * z := by
    rw [List.length_take, hy.len]
    have := Nat.mul_le_mul_right z hyn
    omega
  have hy' : SlAt w ⟨y.a, x.n, y.c⟩ z (news.take (x.n * z)) := ⟨hnl, fun j v hv => by
    rw [List.getElem?_take] at hv
    split at hv
    · exact hy.cell j v hv
    · cases hv⟩
  exact r_copyO hT hA hO (y := ⟨y.a, x.n, y.c⟩) m hm hx hy' (Nat.le_refl _) h1 fun w' L' hA' hO' => h w' L' hA' (by rw [hnl] at hO'; exact hO')

theorem r_overlaps {f t tr by_ : Nat} {fn : Func} (hT : SlT P t e z by_) (hf : P.funcs[f]? = some fn) (hname : (fn.name == "runtime.NumGoroutine") = false) (hb : fn.body.isNone = true) (hn : Extern.findNext fn = none) (he : Extern.find fn = some (Extern.SlicesOverlaps.overlaps #[t, t] #[tr]))
    {Lv : List Blk} {v y : Sl} {vs : List Value} (hA : At w0 w (L ++ ls)) (hsub : Lv.Sublist ls) (hO : OwnS e z s xs L) (hv : OwnS e z v vs Lv) (hs0 : 0 < s.n) (hv0 : 0 < v.n) (m : Nat) (hy : y.a = s.a.map (·.add (m * z)))
    {k : Bool → World → Prop} (h : k false w) : ((real P R).ext f [.slice v.a v.n v.c, .slice y.a y.n y.c] [.bool] k : World → Prop) w := by
  obtain ⟨i, zv, hi, hzv, hsz, hby, hzs⟩ := hT.ex
  have hpos := hT.pos
  refine ⟨false, w, ?_, h⟩
  rw [run_callFunc_extern hf hname hb hn he]
  have hz : ∀ w, (Go.sizeOf e).run P w = .ok z w := fun w => by simp [sizeOf, typeInfo, hi, hsz]
  rcases hv.2 with ⟨_, hv0', _⟩ | ⟨gv, cv, rfl, hva, hvn, hvm, hvs, _⟩
  · omega
  rcases hO.2 with ⟨_, hs0', _⟩ | ⟨g, cur, rfl, hsa, hsn, hsm, hss, _⟩
  · omega
  have hg := hA.get (i := 0) rfl
  have hmem : (gv, cv, e) ∈ ls := hsub.subset (by simp)
  have hgv : w.heap[gv]? = some (.cells cv e (0, 0)) := hA.own _ (List.mem_append.2 (.inr hmem))
  have hne : gv ≠ g := by
    have := hA.nodup
    rw [List.map_append, List.nodup_append] at this
    exact fun hh => this.2.2 g (by simp) gv (List.mem_map.2 ⟨_, hmem, rfl⟩) hh.symm
  have hcs : cur.size ≠ 0 := by rw [hss]; have := Nat.mul_le_mul_right z hsn; have := Nat.mul_le_mul_right z hs0; omega
  rw [hy, hva, hsa]
  simp only [Option.map_some]
  rw [Go.Lib.run_overlaps_apart w t tr e hT.ut z hz ⟨gv, 0, none⟩ ((⟨g, 0, none⟩ : Addr).add (m * z)) v.n v.c y.n y.c (by rw [add_lit]; exact hne) e e cv.size cur.size (by simp [World.shape?, hgv]) (by rw [add_lit]; simp [World.shape?, hg]) hcs (by simp [World.frozen?, hgv]) (by simp [World.frozen?, hgv])]
  rfl
end Go.Sx

namespace Go.Proofs.YtaadgdbegpmlmaaGreat
open Go.Sx Go.RowKit

theorem ins1 {xs vs xs2 : List Value} {a z N : Nat} (hx : xs.length = N) (hv : vs.length = z) (h2 : xs2.length = N + z) (ha : a ≤ N) (ht : xs2.take a = xs.take a) :
    (xs2.take a ++ vs ++ xs2.drop (a + z)).take (a + z) ++ xs.drop a ++ (xs2.take a ++ vs ++ xs2.drop (a + z)).drop (a + z + (N - a)) = xs.take a ++ vs ++ xs.drop a := by
  rw [ht]
  have l1 : (xs.take a ++ vs).length = a + z := by rw [List.length_append, List.length_take]; omega
  have l2 : (xs.take a ++ vs ++ xs2.drop (a + z)).drop (a + z + (N - a)) = [] := List.drop_eq_nil_of_le (by rw [List.length_append, l1, List.length_drop]; omega)
  rw [l2, List.append_nil, List.take_append_of_le_length (by omega), List.take_of_length_le (l := xs.take a ++ vs) (by omega)]

theorem ins2 {ys vs : List Value} {a z N : Nat} (hv : vs.length = z) (hy : ys.length = N + z) (ha : a ≤ N) :
    (ys.take (a + z) ++ (ys.drop a).take (N - a) ++ ys.drop (a + z + (N - a))).take a ++ vs ++ (ys.take (a + z) ++ (ys.drop a).take (N - a) ++ ys.drop (a + z + (N - a))).drop (a + z) = (ys.take N).take a ++ vs ++ (ys.take N).drop a := by
  have l1 : (ys.take (a + z)).length = a + z := by rw [List.length_take]; omega
  have l2 : ys.drop (a + z + (N - a)) = [] := List.drop_eq_nil_of_le (by omega)
  rw [l2, List.append_nil, List.take_append_of_le_length (by omega), List.take_take, List.take_take, List.drop_take, List.drop_append, l1, List.drop_eq_nil_of_le (by omega), Nat.sub_self, List.drop_zero, List.nil_append, show min a (a + z) = min a N by omega]

end Go.Proofs.YtaadgdbegpmlmaaGreat

namespace Go.Proofs.YtaadgdbegpmlmaaGreat
open Go.Sx Go.RowKit

def insAt {α : Type} (i : Nat) (x : α) (l : List α) : List α := l.take i ++ [x] ++ l.drop i
theorem mem_insAt {α : Type} {i : Nat} {x y : α} {l : List α} (h : y ∈ insAt i x l) : y = x ∨ y ∈ l := by
  simp only [insAt, List.mem_append, List.mem_singleton] at h
  rcases h with (h | h) | h
  · exact .inr (List.mem_of_mem_take h)
  · exact .inl h
  · exact .inr (List.mem_of_mem_drop h)
theorem insAt_len {α : Type} {i : Nat} {x : α} {l : List α} (h : i ≤ l.length) : (insAt i x l).length = l.length + 1 := by simp [insAt]; omega

theorem ltL_of_not {a b : List Int} (h : ¬ ltL a b) (hne : a ≠ b) : ltL b a := by
  unfold ltL at *
  have := cmpL_range a b
  have h0 : cmpL a b ≠ 0 := fun hh => hne (cmpL_eq.1 hh)
  rw [cmpL_neg a b]
  omega
theorem asc_insAt {ks : List (List Int)} {k : List Int} (h : Asc ks) (hk : k ∉ ks) : Asc (insAt (posK ks k) k ks) := by
  have hl : ∀ x ∈ ks.take (posK ks k), ltL x k := by
    intro x hx
    obtain ⟨i, hi⟩ := List.mem_iff_getElem?.1 hx
    rw [List.getElem?_take] at hi
    split at hi
    · exact (posK_lt h hi).1 (by assumption)
    · cases hi
  have hr : ∀ x ∈ ks.drop (posK ks k), ltL k x := by
    intro x hx
    obtain ⟨i, hi⟩ := List.mem_iff_getElem?.1 hx
    rw [List.getElem?_drop] at hi
    refine ltL_of_not (fun hh => ?_) (fun hh => hk (hh ▸ List.mem_of_getElem? hi))
    have := (posK_lt h hi).2 hh
    omega
  unfold Asc insAt
  rw [List.append_assoc]
  refine List.pairwise_append.2 ⟨List.Pairwise.sublist (List.take_sublist _ _) h, List.pairwise_cons.2 ⟨hr, List.Pairwise.sublist (List.drop_sublist _ _) h⟩, ?_⟩
  intro a ha b hb
  rcases List.mem_cons.1 hb with rfl | hb
  · exact hl a ha
  · exact ltL_trans (hl a ha) (hr b hb)

def zero32 : List Int := List.replicate 32 0
theorem zero32_ok : keyOk zero32 := ⟨rfl, by intro b hb; simp [zero32] at hb; omega⟩

end Go.Proofs.YtaadgdbegpmlmaaGreat

namespace Go.Proofs.YtaadgdbegpmlmaaGreat
open Go.Sx Go.RowKit
open Go.ChangeShapes Go.WideShapes Go.ChangeAt Go.Deep

abbrev PE := ByteArray × ByteArray
def entC (l : PE) : List Value := [.string l.1, .string l.2]
theorem entC_len (l : PE) : (entC l).length = 2 := rfl
theorem entC_one (l : PE) : ∀ v ∈ entC l, oneC v = true := by
  intro v hv
  unfold entC at hv
  simp only [List.mem_cons, List.not_mem_nil, or_false] at hv
  rcases hv with rfl | rfl <;> rfl
theorem entCs_one (es : List PE) : ∀ v ∈ es.flatMap entC, oneC v = true := fun v hv => by
  obtain ⟨e, _, he⟩ := List.mem_flatMap.1 hv
  exact entC_one e v he
theorem run_add_str (t : TypeId) (x y : Operand) (a b : ByteArray) (hs : a.size + b.size ≤ 9223372036854775807) (w : World) : (eqB .add t x y (.string a) (.string b)).run Tryz.prog w = .ok (.string (a ++ b)) w := by
  simp [eqB, eqGuard, binOp, Op.stringOp]
  omega

abbrev EsR (w : World) (s : Sl) (es : List PE) : Prop := SlOf w s 2 entC es
theorem EsR.get {w : World} {s : Sl} {es : List PE} (h : EsR w s es) {i : Nat} (hi : i < es.length) : ∃ l p, es[i]? = some l ∧ l ∈ es ∧ s.a = some p ∧ ldOk w 2 (p.add (i * 2)) .agg (entC l).toArray ∧ ldOk w 1 ((p.add (i * 2)).add 0) .str l.1 ∧ ldOk w 1 ((p.add (i * 2)).add 1) .str l.2 := by
  have hk : es[i]? = some es[i] := List.getElem?_eq_getElem hi
  obtain ⟨p, hp, _⟩ := h.cell hk
  have ha := h.agg hk hp
  exact ⟨_, p, hk, List.getElem_mem hi, hp, ha, ha.2 0 _ rfl, ha.2 1 _ rfl⟩

def RdEntryS (w : World) (s : Sl) (es : List PE) : Prop := EsR w s es
theorem RdEntryS.at {w w' : World} {bl : List Blk} {s : Sl} {es : List PE} (h : RdEntryS w s es) (hA : At w w' bl) : RdEntryS w' s es := h.below hA.below
def OwnEntryS (s : Sl) (es : List PE) (L : List Blk) : Prop := OwnS ty_impl_Entry 2 s (es.flatMap entC) L
theorem OwnEntryS.none : OwnEntryS ⟨none, 0, 0⟩ [] [] := OwnS.nil _ _
theorem OwnEntryS.rd {w0 w : World} {s : Sl} {es : List PE} {L bl : List Blk} (h : OwnEntryS s es L) (hA : At w0 w (L ++ bl)) : RdEntryS w s es := OwnS.of h hA (List.sublist_append_left _ _) (fun l _ => entC_len l) (by omega)
theorem OwnEntryS.n {s : Sl} {es : List PE} {L : List Blk} (h : OwnEntryS s es L) : s.n = es.length := by have := h.1; rw [flatMap_length (z := 2) (fun l _ => entC_len l)] at this; omega
def RawEntryS (w : World) (s : Sl) (es : List PE) : Prop := EsR w s es ∧ s.c ≤ maxLen ∧ ∀ e ∈ es, e.1.size ≤ maxLen ∧ e.2.size ≤ maxLen
theorem RawEntryS.rd {w : World} {s : Sl} {es : List PE} (h : RawEntryS w s es) : RdEntryS w s es := h.1
def sumE (es : List PE) : Nat := (es.map fun e => e.1.size + e.2.size).sum
theorem sumE_append (X Y : List PE) : sumE (X ++ Y) = sumE X + sumE Y := by simp [sumE]
theorem sumE_take {X : List PE} {j : Nat} {x : PE} (h : X[j]? = some x) : sumE (X.take (j + 1)) = sumE (X.take j) + (x.1.size + x.2.size) := by rw [take_succ_get h, sumE_append]; simp [sumE]
theorem sumE_le (X : List PE) (j : Nat) : sumE (X.take j) ≤ sumE X := by
  conv => rhs; rw [← List.take_append_drop j X, sumE_append]
  omega
def sizeEntryS (es : List PE) : Nat := es.length + sumE es
def msizeEntryS (es : List PE) : Nat := 2 * es.length
theorem T_sl_Entry : SlT Tryz.prog ty_sl_impl_Entry ty_impl_Entry 2 32 := slT_of (by kernel_rfl)

theorem c_szEntry (l : PE) (m : Int) (hm : 0 ≤ m ∧ m ≤ 1073741824) (h1 : l.1.size ≤ maxLen) (h2 : l.2.size ≤ maxLen) (w : World) : Ret Tryz.prog n_laws_szEntry [.agg (entC l).toArray, .int .i64 m] w [.int .i64] (fun x _ => x = if ((l.1.size + l.2.size : Nat) : Int) ≤ m then m - ((l.1.size + l.2.size : Nat) : Int) else -1) := laws_szEntry_calls _ m (by
  unfold laws_szEntry
  have hmx : maxLen = 9223372036854775807 := rfl
  rw [hmx] at h1 h2
  refine r_new (At.refl w) fun b2 w1 h => ?_
  have h : At w w1 [(b2, (entC l).toArray, ty_laws_Entry)] := h
  refine r_ld h 0 rfl (add_lit _ _ _) l.1 (by simp [Sh.emb]) rfl ?_
  rw [w64 (n := m - (l.1.size : Int)) (by omega) (by omega)]
  refine r_if (m - (l.1.size : Int) < 0) rfl (fun hlt => ?_) (fun hge => ?_)
  · exact r_ret h.nil (-1 : Int) rfl (by rw [if_neg (by omega)])
  refine r_ld h 0 rfl (add_lit _ _ _) l.2 (by simp [Sh.emb]) rfl ?_
  rw [w64 (n := m - (l.1.size : Int) - (l.2.size : Int)) (by omega) (by omega)]
  refine r_if (m - (l.1.size : Int) - (l.2.size : Int) < 0) rfl (fun hlt => ?_) (fun hge => ?_)
  · exact r_ret h.nil (-1 : Int) rfl (by rw [if_neg (by omega)])
  · exact r_ret h.nil (m - (l.1.size : Int) - (l.2.size : Int)) rfl (by rw [if_pos (by omega)]; show (m - (l.1.size : Int) - (l.2.size : Int) : Int) = m - ((l.1.size + l.2.size : Nat) : Int); omega))

theorem c_szEntrySV {w : World} {s : Sl} {es : List PE} (h : RawEntryS w s es) {w1 : World} (hb : Below w.heap.size w w1) (m : Int) (hm : 0 ≤ m ∧ m ≤ 1073741824) : Ret Tryz.prog n_laws_szEntryS [.slice s.a s.n s.c, .int .i64 m] w1 [.int .i64] (fun x _ => x = if (sizeEntryS es : Int) ≤ m then m - sizeEntryS es else -1) := laws_szEntryS_calls s m (by
  unfold laws_szEntryS
  obtain ⟨hs, hc, hd⟩ := h
  have hn := hs.n
  have hcap := hs.cap
  have hsz : sizeEntryS es = es.length + sumE es := rfl
  have hmx : maxLen = 9223372036854775807 := rfl
  rw [hmx] at hc
  rw [w64 (by omega) (by omega)]
  refine r_if (m - (s.n : Int) < 0) rfl (fun h1 => ?_) (fun h1 => ?_)
  · exact r_ret (At.refl w1) (-1 : Int) rfl (by rw [if_neg (by omega)])
  have hs1 : EsR w1 s es := hs.below hb
  refine r_loop (σ := Int × Int) (fun i w' => ∃ j : Nat, i = (m - s.n - (sumE (es.take j) : Nat), (j : Int)) ∧ j ≤ es.length ∧ 0 ≤ i.1 ∧ At w1 w' []) (fun i _ => (s.n - i.2).toNat) (m - s.n, 0) rfl ⟨0, by simp [sumE], by omega, by dsimp only; omega, At.refl w1⟩ ?_
  rintro i w2 ⟨j, rfl, hj, h0, h⟩
  refine r_any fun _ => ?_
  dsimp only at h0 ⊢
  refine r_if ((j : Int) < (s.n : Int)) rfl (fun hlt => ?_) (fun hge => ?_)
  · obtain ⟨r, p, hr, hrm, hp, hag, _, _⟩ := EsR.get (hs1.at h) (i := j) (by omega)
    have hrd := hd r hrm
    refine r_ix p hp (by omega) (by omega) ?_
    refine r_ldN (entC r).toArray (by simp only [Int.toNat_natCast]; exact hag) ?_
    refine r_call h (c_szEntry r _ ⟨h0, by omega⟩ hrd.1 hrd.2 _) fun x w3 h _ hx => ?_
    subst hx
    have hst := sumE_take hr
    have hle := sumE_le es (j + 1)
    by_cases hc1 : ((r.1.size + r.2.size : Nat) : Int) ≤ m - s.n - (sumE (es.take j) : Nat)
    · rw [if_pos hc1]
      refine r_if (m - (s.n : Int) - (sumE (es.take j) : Nat) - ((r.1.size + r.2.size : Nat) : Int) < 0) rfl (fun hh => by omega) (fun _ => ?_)
      refine ⟨(m - s.n - (sumE (es.take (j + 1)) : Nat), ((j + 1 : Nat) : Int)), by rw [w64 (by omega) (by omega), hst]; simp only [embL, Sh.emb]; congr 2; omega, ⟨j + 1, rfl, by omega, by dsimp only; rw [hst]; omega, h⟩, by dsimp only; omega⟩
    · rw [if_neg hc1]
      refine r_true rfl ?_
      exact r_ret h (-1 : Int) rfl (by rw [if_neg (by omega)])
  · have : j = es.length := by omega
    subst this
    have : es.take es.length = es := List.take_of_length_le (by omega)
    rw [this] at h0 ⊢
    refine r_ret h _ rfl ?_
    rw [if_pos (by omega), hsz]
    show (m - (s.n : Int) - (sumE es : Nat) : Int) = m - ((es.length + sumE es : Nat) : Int)
    omega)

theorem c_toEntry (l : PE) (w : World) : Ret Tryz.prog n_laws_toEntry [.agg (entC l).toArray] w [.agg] (fun r _ => r = (entC l).toArray) := laws_toEntry_calls _ (by
  unfold laws_toEntry
  refine r_new (At.refl w) fun b1 w1 h => ?_
  refine r_new h fun b2 w2 h => ?_
  refine r_new h fun b3 w3 h => ?_
  have h : At w w3 [(b3, #[.string ⟨#[]⟩, .string ⟨#[]⟩], ty_impl_Entry), (b2, #[.string ⟨#[]⟩, .string ⟨#[]⟩], ty_impl_Entry), (b1, (entC l).toArray, ty_laws_Entry)] := h
  refine r_ld h 2 rfl (add_lit _ _ _) l.1 (by simp [Sh.emb]) rfl ?_
  refine r_st h 0 (o := 0) rfl (by rw [add_lit]) (by simp) rfl fun w4 h => ?_
  refine r_ld h 2 rfl (add_lit _ _ _) l.2 (by simp [Sh.emb]) rfl ?_
  refine r_st h 0 (o := 1) rfl (by rw [add_lit]) (by simp) rfl fun w5 h => ?_
  have h : At w w5 [(b3, (entC l).toArray, ty_impl_Entry), (b2, #[.string ⟨#[]⟩, .string ⟨#[]⟩], ty_impl_Entry), (b1, (entC l).toArray, ty_laws_Entry)] := h
  refine r_ldA h 0 rfl rfl rfl ?_
  refine r_stA h 1 rfl rfl rfl rfl (by simpa using entC_one l) fun w7 h => ?_
  refine r_ldA h 1 rfl rfl rfl ?_
  exact r_ret h.nil (entC l).toArray rfl rfl)

theorem c_toEntrySV {w : World} {s : Sl} {es : List PE} (h : RdEntryS w s es) (hz : sizeEntryS es ≤ 1073741824) : Ret Tryz.prog n_laws_toEntryS [.slice s.a s.n s.c] w [.slice] (fun r w' => ∃ L, At w w' L ∧ OwnEntryS r es L) := laws_toEntryS_calls s (by
  unfold laws_toEntryS
  have hs : EsR w s es := h
  have hn := hs.n
  unfold sizeEntryS at hz
  refine r_mkO T_sl_Entry (At.refl w) (by omega) (by omega) fun y xs L w1 h hO hyn ⟨p, hp⟩ => ?_
  refine r_loop (σ := Int) (fun i w' => ∃ (j : Nat) (xs : List Value) (L : List Blk), i = j ∧ j ≤ es.length ∧ OwnS ty_impl_Entry 2 y xs L ∧ xs.take (j * 2) = (es.take j).flatMap entC ∧ At w w' (L ++ [])) (fun i _ => (s.n - i).toNat) 0 rfl
    ⟨0, xs, L, rfl, by omega, hO, by simp, h⟩ ?_
  rintro i w2 ⟨j, xs, L, rfl, hj, hO, htk, h⟩
  refine r_any fun _ => ?_
  have hxl := hO.1
  refine r_if ((j : Int) < (s.n : Int)) rfl (fun hlt => ?_) (fun hge => ?_)
  · obtain ⟨k, q, hk, hkm, hq, hkl, _, _⟩ := EsR.get (hs.at h.nil) (i := j) (by omega)
    refine r_ix q hq (by omega) (by omega) ?_
    refine r_ldN (entC k).toArray (by simp only [Int.toNat_natCast]; exact hkl) ?_
    refine r_call h (c_toEntry k _) fun r w3 h _ hr => ?_
    subst hr
    refine r_ix p hp (by omega) (by omega) ?_
    refine r_stO h hO hp (j * 2) (by simp) (by simp [Value.cells, entC_len]) (by omega) (by simpa [Value.cells] using entC_one k) fun w4 L4 h4 hO4 => ?_
    refine ⟨((j + 1 : Nat) : Int), by rw [w64 (by omega) (by omega)]; rfl, ⟨j + 1, _, L4, rfl, by omega, hO4, ?_, h4⟩, by omega⟩
    have hvl : (Value.agg (entC k).toArray).cells.toList.length = 2 := by simp [Value.cells, entC_len]
    rw [Nat.add_mul, Nat.one_mul, seg_take (by omega) hvl, htk, take_succ_get hk, List.flatMap_append]
    simp [Value.cells]
  · have : j = es.length := by omega
    subst this
    rw [List.take_of_length_le (by omega), List.take_of_length_le (Nat.le_refl _)] at htk
    subst htk
    exact r_ret h.nil y rfl ⟨L, by simpa using h, hO⟩)

theorem c_eqEntry_same (l : PE) (w : World) : Ret Tryz.prog n_laws_eqEntry [.agg (entC l).toArray, .agg (entC l).toArray] w [.bool] (fun r _ => r = true) := laws_eqEntry_calls _ _ (by
  unfold laws_eqEntry
  refine r_new (At.refl w) fun b2 w1 h => ?_
  refine r_new h fun b3 w2 h => ?_
  have h : At w w2 [(b3, (entC l).toArray, ty_impl_Entry), (b2, (entC l).toArray, ty_impl_Entry)] := h
  refine r_ld h 1 rfl (add_lit _ _ _) l.1 (by simp [Sh.emb]) rfl ?_
  refine r_ld h 0 rfl (add_lit _ _ _) l.1 (by simp [Sh.emb]) rfl ?_
  refine r_pur _ (fun w' => run_neq_str _ _ _ _ _ w') ?_
  refine r_false (by simp) ?_
  refine r_ld h 1 rfl (add_lit _ _ _) l.2 (by simp [Sh.emb]) rfl ?_
  refine r_ld h 0 rfl (add_lit _ _ _) l.2 (by simp [Sh.emb]) rfl ?_
  refine r_pur _ (fun w' => run_neq_str _ _ _ _ _ w') ?_
  refine r_false (by simp) ?_
  exact r_ret h.nil _ rfl rfl)

theorem c_eqEntrySV {w : World} {s t : Sl} {es : List PE} (h : RdEntryS w s es) (h' : RdEntryS w t es) (hz : sizeEntryS es ≤ 1073741824) : Ret Tryz.prog n_laws_eqEntryS [.slice s.a s.n s.c, .slice t.a t.n t.c] w [.bool] (fun x _ => x = true) := laws_eqEntryS_calls _ _ (by
  unfold laws_eqEntryS
  have hs : EsR w s es := h
  have ht : EsR w t es := h'
  have h1 := hs.n
  have h2 := ht.n
  unfold sizeEntryS at hz
  refine r_ne (fun hh => by omega) fun _ => ?_
  refine r_loop (σ := Int) (fun i w' => ∃ j : Nat, i = j ∧ j ≤ es.length ∧ At w w' []) (fun i _ => (s.n - i).toNat) 0 rfl ⟨0, rfl, by omega, At.refl w⟩ ?_
  rintro i w8 ⟨j, rfl, hj, h⟩
  refine r_any fun _ => ?_
  refine r_if ((j : Int) < (s.n : Int)) rfl (fun hlt => ?_) (fun hge => ?_)
  · refine r_draw h fun w3 h => ?_
    obtain ⟨k, q, hk, hkm, hq, hkl, _, _⟩ := EsR.get (hs.at h) (i := j) (by omega)
    obtain ⟨k2, q2, hk2, _, hq2, hkl2, _, _⟩ := EsR.get (ht.at h) (i := j) (by omega)
    rw [hk] at hk2
    cases hk2
    refine r_ix q hq (by omega) (by omega) ?_
    refine r_ldN (entC k).toArray (by simp only [Int.toNat_natCast]; exact hkl) ?_
    refine r_ix q2 hq2 (by omega) (by omega) ?_
    refine r_ldN (entC k).toArray (by simp only [Int.toNat_natCast]; exact hkl2) ?_
    refine r_call h (c_eqEntry_same k _) fun r w4 h _ hr => ?_
    subst hr
    refine r_false rfl ?_
    exact ⟨((j + 1 : Nat) : Int), by rw [w64 (by omega) (by omega)]; rfl, ⟨j + 1, rfl, by omega, h⟩, by omega⟩
  · exact r_ret h _ rfl rfl)

def decGo : Nat → Int → ByteArray → ByteArray
  | 0, _, s => s
  | f + 1, n, s => if n > 0 then decGo f (Int.tdiv n 10) (strOf [IntKind.wrap .u8 (IntKind.wrap .i64 (48 + Int.tmod n 10))] ++ s) else s
theorem decGo_zero : ∀ (f : Nat) (s : ByteArray), decGo f 0 s = s
  | 0, _ => rfl
  | _ + 1, _ => rfl
def markT (k : Int) : ByteArray := if k ≤ 0 then ⟨#[109, 48]⟩ else ⟨#[109]⟩ ++ decGo k.toNat k ⟨#[]⟩
theorem T_sl_uint8'' : SlT Tryz.prog ty_sl_uint8 ty_uint8 1 1 := slT_of (by kernel_rfl)
theorem c_markText (k : Int) (hk : k ≤ 9223372036854775800) (w : World) : Ret Tryz.prog n_laws_markText [.int .i64 k] w [.str] (fun r _ => r = markT k) := laws_markText_calls k (by
  unfold laws_markText
  refine r_if (k ≤ 0) rfl (fun hle => ?_) (fun hgt => ?_)
  · exact r_ret (At.refl w) (⟨#[109, 48]⟩ : ByteArray) rfl (by unfold markT; rw [if_pos hle])
  have hm : markT k = ⟨#[109]⟩ ++ decGo k.toNat k ⟨#[]⟩ := by unfold markT; rw [if_neg hgt]
  rw [hm]
  generalize hG : decGo k.toNat k ⟨#[]⟩ = G
  have h00 : (⟨#[]⟩ : ByteArray).size = 0 := rfl
  have h01 : (⟨#[109]⟩ : ByteArray).size = 1 := rfl
  refine r_loop (σ := Int × ByteArray) (fun i w' => ∃ (f : Nat), 0 ≤ i.1 ∧ i.1.toNat ≤ f ∧ (i.2.size : Int) + i.1 ≤ k ∧ decGo f i.1 i.2 = G ∧ At w w' []) (fun i _ => i.1.toNat) (k, ⟨#[]⟩) rfl ⟨k.toNat, by dsimp only; omega, Nat.le_refl _, by dsimp only; rw [h00]; omega, hG, At.refl w⟩ ?_
  rintro ⟨n, s⟩ w1 ⟨f, h0, hf, hsz, hg, h⟩
  dsimp only at h0 hf hg hsz
  refine r_any fun _ => ?_
  dsimp only
  refine r_if (n > 0) rfl (fun hpos => ?_) (fun hnp => ?_)
  · obtain ⟨f, rfl⟩ : ∃ f', f = f' + 1 := ⟨f - 1, by omega⟩
    have hd : Int.tdiv n 10 = n / 10 := Int.tdiv_eq_ediv_of_nonneg h0
    have hg' : decGo f (Int.tdiv n 10) (strOf [IntKind.wrap .u8 (IntKind.wrap .i64 (48 + Int.tmod n 10))] ++ s) = G := by rw [← hg]; show _ = (if n > 0 then _ else _); rw [if_pos hpos]
    have h1 : (strOf [IntKind.wrap .u8 (IntKind.wrap .i64 (48 + Int.tmod n 10))]).size = 1 := strOf_size _
    refine r_bs1 T_sl_uint8'' h rfl (by omega) fun y w2 hy hyn => ?_
    refine r_toStr (e := ty_uint8) (l := [IntKind.wrap .u8 (IntKind.wrap .i64 (48 + Int.tmod n 10))]) (by kernel_rfl) (by kernel_rfl) (by kernel_rfl) hy.sl ?_
    generalize strOf [IntKind.wrap .u8 (IntKind.wrap .i64 (48 + Int.tmod n 10))] = ds at hg' h1 ⊢
    refine r_pur (sh := .str) _ (fun w' => run_add_str _ _ _ _ _ (by omega) w') ?_
    have hw : IntKind.wrap .i64 (Int.tdiv n 10) = Int.tdiv n 10 := w64 (by rw [hd]; omega) (by rw [hd]; omega)
    rw [hw]
    have has : (ds ++ s).size = ds.size + s.size := ByteArray.size_append
    refine ⟨(Int.tdiv n 10, ds ++ s), rfl, ⟨f, by dsimp only; rw [hd]; omega, by dsimp only; rw [hd]; omega, by dsimp only; rw [hd, has]; omega, hg', hy.at_.nil⟩, by dsimp only; rw [hd]; omega⟩
  · have : n = 0 := by omega
    subst this
    rw [decGo_zero] at hg
    subst hg
    refine r_pur (sh := .str) _ (fun w' => run_add_str _ _ _ _ _ (by rw [h01]; omega) w') ?_
    exact r_ret h _ rfl rfl)

def markE (k : Int) (j : Nat) : PE := (markT (k + ((2 * j : Nat) : Int)), markT (k + ((2 * j + 1 : Nat) : Int)))
def markEntryS (k : Int) (es : List PE) : List PE := (List.range es.length).map (markE k)
theorem markEntryS_len (k : Int) (es : List PE) : (markEntryS k es).length = es.length := by simp [markEntryS]
theorem set_at {A R : List Value} {n : Nat} {x v : Value} (hA : A.length = n) : (A ++ (x :: R)).take n ++ [v] ++ (A ++ (x :: R)).drop (n + 1) = A ++ (v :: R) := by
  rw [List.take_append_of_le_length (by omega), List.take_of_length_le (by omega), List.drop_append, List.drop_eq_nil_of_le (by omega), List.nil_append, show n + 1 - A.length = 0 + 1 by omega, List.drop_succ_cons, List.drop_zero, List.append_assoc]
  rfl

theorem c_markEntrySV {w0 w : World} {bl L : List Blk} {s : Sl} {es : List PE} (hA : At w0 w (L ++ bl)) (hO : OwnEntryS s es L) (k : Int) (h0 : 0 ≤ k) (hmax : k + msizeEntryS es ≤ 4611686018427387904) (hlen : sizeEntryS es ≤ 1073741824) :
    Calls Tryz.prog n_laws_markEntryS [.slice s.a s.n s.c, .int .i64 k].toArray w fun e w' => ∃ v, e = .returned v ∧ v = .int .i64 (k + msizeEntryS es) ∧ ∃ L', At w0 w' (L' ++ bl) ∧ OwnEntryS s (markEntryS k es) L' := laws_markEntryS_calls s k (by
  unfold laws_markEntryS
  have hn := hO.n
  unfold msizeEntryS at hmax ⊢
  unfold sizeEntryS at hlen
  unfold OwnEntryS at hO
  have hpl : ∀ j, (((List.range j).map (markE k)).flatMap entC).length = 2 * j := fun j => by
    rw [flatMap_length (z := 2) (fun l _ => entC_len l)]
    simp
    omega
  refine r_loop (σ := Int × Int) (fun i w' => ∃ (j : Nat) (L : List Blk), i = (k + ((2 * j : Nat) : Int), (j : Int)) ∧ j ≤ es.length ∧ At w0 w' (L ++ bl) ∧ OwnS ty_impl_Entry 2 s (((List.range j).map (markE k)).flatMap entC ++ (es.drop j).flatMap entC) L) (fun i _ => (s.n - i.2).toNat) (k, 0) rfl
    ⟨0, L, by simp, by omega, hA, by simpa using hO⟩ ?_
  rintro i w4 ⟨j, L, rfl, hj, h, hO⟩
  refine r_any fun _ => ?_
  dsimp only
  refine r_if ((j : Int) < (s.n : Int)) rfl (fun hlt => ?_) (fun hge => ?_)
  · obtain ⟨p, hp⟩ := hO.addr (by omega)
    have hjl : j < es.length := by omega
    have hpj := hpl j
    have hd : (es.drop j).flatMap entC = .string es[j].1 :: .string es[j].2 :: (es.drop (j + 1)).flatMap entC := by
      rw [List.drop_eq_getElem_cons hjl, List.flatMap_cons]
      rfl
    rw [hd] at hO
    have hrl : ((es.drop (j + 1)).flatMap entC).length = 2 * (es.length - (j + 1)) := by
      rw [flatMap_length (z := 2) (fun l _ => entC_len l), List.length_drop]
      omega
    obtain ⟨rest, hrest⟩ : ∃ rest, rest = (es.drop (j + 1)).flatMap entC := ⟨_, rfl⟩
    rw [← hrest] at hO hrl
    refine r_call h (c_markText _ (by omega) _) fun r15 w5 h _ hr => ?_
    subst hr
    refine r_ix p hp (by omega) (by omega) ?_
    refine r_stO h hO hp (2 * j) (by rw [Go.Deep.add_add]; simp only [Int.toNat_natCast]; congr 1; omega) (by simp [Value.cells]) (by simp only [List.length_append, hpj, hrl, List.length_cons]; omega) (by simp [Value.cells, oneC]) fun w6 L6 h hO => ?_
    have ev : ∀ x : ByteArray, (Value.string x).cells.toList = [.string x] := fun _ => rfl
    rw [ev, set_at hpj] at hO
    rw [w64 (n := k + ((2 * j : Nat) : Int) + 1) (by omega) (by omega)]
    refine r_call h (c_markText _ (by omega) _) fun r23 w7 h _ hr => ?_
    subst hr
    refine r_ix p hp (by omega) (by omega) ?_
    have hO2 : OwnS ty_impl_Entry 2 s ((((List.range j).map (markE k)).flatMap entC ++ [.string (markT (k + ((2 * j : Nat) : Int)))]) ++ (.string es[j].2 :: rest)) L6 := by rw [List.append_assoc]; exact hO
    have hA1 : (((List.range j).map (markE k)).flatMap entC ++ [Value.string (markT (k + ((2 * j : Nat) : Int)))]).length = 2 * j + 1 := by rw [List.length_append, hpj]; rfl
    refine r_stO h hO2 hp (2 * j + 1) (by rw [Go.Deep.add_add]; simp only [Int.toNat_natCast]; congr 1; omega) (by simp [Value.cells]) (by rw [List.length_append, hA1, List.length_cons, hrl]; omega) (by simp [Value.cells, oneC]) fun w8 L8 h hO => ?_
    rw [ev, set_at hA1] at hO
    rw [w64 (n := k + ((2 * j : Nat) : Int) + 1 + 1) (by omega) (by omega), w64 (n := (j : Int) + 1) (by omega) (by omega)]
    refine ⟨(k + ((2 * (j + 1) : Nat) : Int), ((j + 1 : Nat) : Int)), ?_, ⟨j + 1, L8, rfl, by omega, h, ?_⟩, by dsimp only; omega⟩
    · simp only [embL, Sh.emb]
      congr 2
      omega
    · have e3 : ((List.range (j + 1)).map (markE k)).flatMap entC ++ (es.drop (j + 1)).flatMap entC = (((List.range j).map (markE k)).flatMap entC ++ [.string (markT (k + ((2 * j : Nat) : Int)))]) ++ (.string (markT (k + ((2 * j : Nat) : Int) + 1)) :: rest) := by
        rw [List.range_succ, List.map_append, List.flatMap_append, ← hrest]
        simp [markE, entC]
        congr 1
        omega
      rw [e3]
      exact hO
  · have hjl : j = es.length := by omega
    subst hjl
    rw [List.drop_of_length_le (Nat.le_refl _), List.flatMap_nil, List.append_nil] at hO
    exact r_retR ⟨rfl, L, h, hO⟩)

theorem c_heldEntrySV {w : World} {s : Sl} {es : List PE} (k : Int) (h : RdEntryS w s (markEntryS k es)) (h0 : 0 ≤ k) (hmax : k + msizeEntryS es ≤ 4611686018427387904) (hlen : sizeEntryS es ≤ 1073741824) : Ret Tryz.prog n_laws_heldEntryS [.slice s.a s.n s.c, .int .i64 k] w [.int .i64] (fun x _ => x = k + msizeEntryS es) := laws_heldEntryS_calls s k (by
  unfold laws_heldEntryS
  have hs : EsR w s (markEntryS k es) := h
  have hn := hs.n
  rw [markEntryS_len] at hn
  unfold msizeEntryS at hmax ⊢
  unfold sizeEntryS at hlen
  refine r_loop (σ := Int × Int) (fun i w' => ∃ j : Nat, i = (k + ((2 * j : Nat) : Int), (j : Int)) ∧ j ≤ es.length ∧ At w w' []) (fun i _ => (s.n - i.2).toNat) (k, 0) rfl ⟨0, by simp, by omega, At.refl w⟩ ?_
  rintro i w4 ⟨j, rfl, hj, h⟩
  refine r_any fun _ => ?_
  dsimp only
  refine r_if ((j : Int) < (s.n : Int)) rfl (fun hlt => ?_) (fun hge => ?_)
  · obtain ⟨l, p, hl, _, hp, _, h1, h2⟩ := EsR.get hs (i := j) (by rw [markEntryS_len]; omega)
    have hle : l = markE k j := by
      unfold markEntryS at hl
      rw [List.getElem?_map, List.getElem?_range (by omega)] at hl
      simpa using hl.symm
    subst hle
    have l1 : ∀ {w' : World}, At w w' [] → ldOk w' 1 ((p.add ((j : Int).toNat * 2)).add 0) .str (markT (k + ((2 * j : Nat) : Int))) := fun h => by simp only [Int.toNat_natCast]; exact ldOk_below h.below h1
    have l2 : ∀ {w' : World}, At w w' [] → ldOk w' 1 ((p.add ((j : Int).toNat * 2)).add 1) .str (markT (k + ((2 * j + 1 : Nat) : Int))) := fun h => by simp only [Int.toNat_natCast]; exact ldOk_below h.below h2
    refine r_joinI ?_
    refine r_draw h fun w5 h => ?_
    refine r_ix p hp (by omega) (by omega) ?_
    refine r_ldN (sh := .str) _ (l1 h) ?_
    refine r_call h (c_markText _ (by omega) _) fun r18 w6 h _ hr => ?_
    subst hr
    refine r_chk1 ?_ ?_
    · exact l1 h
    refine r_pur _ (fun w' => run_neq_str _ _ _ _ _ w') ?_
    refine r_false (by simp) ?_
    refine ⟨(), rfl, ?_⟩
    refine r_any fun _ => ?_
    refine r_draw h fun w7 h => ?_
    refine r_ix p hp (by omega) (by omega) ?_
    refine r_ldN (sh := .str) _ (l2 h) ?_
    rw [w64 (n := k + ((2 * j : Nat) : Int) + 1) (by omega) (by omega)]
    refine r_call h (c_markText _ (by omega) _) fun r28 w8 h _ hr => ?_
    subst hr
    refine r_chk1 ?_ ?_
    · exact l2 h
    have e4 : k + ((2 * j + 1 : Nat) : Int) = k + ((2 * j : Nat) : Int) + 1 := by omega
    refine r_pur _ (fun w' => run_neq_str _ _ _ _ _ w') ?_
    refine r_false (by rw [e4]; simp) ?_
    rw [w64 (n := k + ((2 * j : Nat) : Int) + 1 + 1) (by omega) (by omega), w64 (n := (j : Int) + 1) (by omega) (by omega)]
    refine ⟨(k + ((2 * (j + 1) : Nat) : Int), ((j + 1 : Nat) : Int)), ?_, ⟨j + 1, rfl, by omega, h⟩, by dsimp only; omega⟩
    simp only [embL, Sh.emb]
    congr 2
    omega
  · have hjl : j = es.length := by omega
    subst hjl
    exact r_ret h _ rfl rfl)

end Go.Proofs.YtaadgdbegpmlmaaGreat
