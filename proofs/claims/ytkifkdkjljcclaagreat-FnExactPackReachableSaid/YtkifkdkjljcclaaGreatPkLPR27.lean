/- From a function's contract to the given statement: arguments opened (arrays of bytes, slices of such), the row's step, for any law that returns true. Arguments opened at their cells: slices of anything, slices of bytes, stores. More kinds of values of which laws speak: raw blobs; keys compared. -/
import Derived.Carry
import Derived.Deep.Slices
import Derived.OpenShut
import Derived.ProofKit
import Derived.ChangeSame
import Derived.Test.YtkifkdkjljcclaaGreatPkLPR17
import Derived.Test.YtkifkdkjljcclaaGreatPkLPR22
namespace Go.Sx
open Go.ChangeShapes Go.WideShapes Go.ChangeAt Go.RowKit Go.Deep

section
variable {H : Type} {enc : TypeId × Value → H} {P : Program} {w : World} {base : Nat} {spare : Nat → Bool} {held : Bool}

theorem trod_bytes {t n e fuel : Nat} {cs : List Value} {x : DataW H × List MemPlace} (ht : P.underlying t = some (.array n e)) (he : P.underlying e = some (.int .u8)) (hc : P.cellsOf e = 1) (hn : P.cellsOf t = n) (h : DataW.trod enc P w base spare held fuel t cs = some x) :
    cs.length = n ∧ ∀ j, j < n → ∃ b : Int, cs[j]? = some (.int .u8 b) ∧ 0 ≤ b ∧ b < 256 := by
  obtain ⟨xs, m, _, _, hl, hx, hall⟩ := DataW.trod_array ht h
  refine ⟨by rw [hl, hn], fun j hj => ?_⟩
  have := hall j hj
  rw [hc, Nat.mul_one, List.getElem?_eq_getElem (by omega)] at this
  obtain ⟨b, hb, _, hw⟩ := DataW.trod_int he this
  have hb2 := bounds_u8 hw
  exact ⟨b, cell_of_cut hb, hb2.1, by omega⟩

theorem open_arrs {r : Reach} {b0 : Nat} {t u n e : TypeId} {v : Value} {d : DataW H} {ps : List MemPlace} (ht : P.underlying t = some (.slice u)) (hu : P.underlying u = some (.array n e)) (he : P.underlying e = some (.int .u8)) (hc : P.cellsOf e = 1) (hn : P.cellsOf u = n) (hn0 : 0 < n)
    (hval : Value.okWide P w r b0 t v) (hd : DataW.Trod enc P w base spare held t v d ps) : ∃ (s : Sl) (l : List Int), v = .slice s.a s.n s.c ∧ SlAt w s n (l.map (Value.int .u8)) ∧ (∀ b ∈ l, 0 ≤ b ∧ b < 256) ∧ s.n ≤ s.c ∧ s.c ≤ maxLen := by
  obtain ⟨a, len, cap, rfl⟩ := okWide_slice ht hval
  obtain ⟨fuel, hf⟩ := hd
  rcases open_slice ht hf with ⟨hcs, _⟩ | ⟨a', len', cap', m, k, D, Pl, hcs, _, hl, hm, hmm, _, hx⟩
  · simp [Value.cells] at hcs
    obtain ⟨rfl, rfl, rfl⟩ := hcs
    exact ⟨⟨none, 0, 0⟩, [], rfl, ⟨by simp, fun j v hv => by simp at hv⟩, by simp, Nat.le_refl _, Nat.zero_le _⟩
  · simp [Value.cells] at hcs
    obtain ⟨rfl, rfl, rfl⟩ := hcs
    have hlm : len ≤ m := by rw [hmm]; split <;> omega
    have each : ∀ j, j < len * n → ∃ b : Int, w.cell? (a'.add j) = some (.int .u8 b) ∧ 0 ≤ b ∧ b < 256 := by
      intro j hj
      have hi : j / n < len := (Nat.div_lt_iff_lt_mul hn0).2 hj
      obtain ⟨cs', h1, h2⟩ := hx (j / n) (by omega)
      rw [hn] at h1
      obtain ⟨_, hlen, hcell⟩ := World.cells?_some h1
      obtain ⟨_, hall⟩ := trod_bytes hu he hc hn h2
      have hmod : j % n < n := Nat.mod_lt _ hn0
      obtain ⟨b, hb, hb2⟩ := hall (j % n) hmod
      refine ⟨b, ?_, hb2⟩
      have e1 : a'.add j = (a'.add (j / n * n)).add (j % n) := by
        rw [add_add, Nat.div_add_mod']
      rw [e1, hcell _ hmod, hb]
    obtain ⟨g, hg⟩ := choose_lt (α := Int) (p := fun j b => w.cell? (a'.add j) = some (.int .u8 b) ∧ 0 ≤ b ∧ b < 256) each
    refine ⟨⟨some a', len, cap⟩, (List.range (len * n)).map g, rfl, ⟨by simp, fun j v hv => ⟨a', rfl, ?_⟩⟩, ?_, hl, hm⟩
    · rcases Nat.lt_or_ge j (len * n) with hj | hj
      · rw [(hg j hj).1, ← hv]; simp [hj]
      · rw [List.getElem?_eq_none (by simp; omega)] at hv; cases hv
    · intro b hb
      simp only [List.mem_map, List.mem_range] at hb
      obtain ⟨j, hj, rfl⟩ := hb
      exact (hg j hj).2

theorem trodAll_stays (hl : laidOutB P = true) {W W' : World} : ∀ {ts : List TypeId} {vs : List Value} {ds : List (DataW H)} {ps : List MemPlace}, (∀ t ∈ ts, P.readableRec t = true ∧ t < P.types.size) → DataW.TrodAll enc P W 0 (fun _ => true) true ts vs ds ps → Below W.heap.size W W' →
    (∀ x ∈ ps, x.block < W.heap.size) → DataW.TrodAll enc P W' 0 (fun b => decide (b < W.heap.size)) true ts vs ds ps
  | [], vs, ds, ps, _, h, _, _ => by
    obtain ⟨rfl, rfl, rfl⟩ := trodAll_nil h
    exact trodAll_mk0
  | t :: ts, vs, ds, ps, ht, h, hb, hlt => by
    obtain ⟨v, vs', d, ds', p, q, rfl, rfl, rfl, h1, h2⟩ := trodAll_cons h
    have ht1 := ht t (by simp)
    exact trodAll_cons_mk (Below.trod hl ht1.1 ht1.2 h1 hb fun x hx => hlt x (by simp [hx])) (trodAll_stays hl (fun t h => ht t (by simp [h])) h2 hb fun x hx => hlt x (by simp [hx]))

theorem trodAll_len : ∀ {ts : List TypeId} {vs : List Value} {ds : List (DataW H)} {ps : List MemPlace}, DataW.TrodAll enc P w base spare held ts vs ds ps → ds.length = ts.length
  | [], _, _, _, h => by obtain ⟨_, rfl, _⟩ := trodAll_nil h; rfl
  | _ :: _, _, _, _, h => by
    obtain ⟨v, vs', d, ds', p, q, rfl, rfl, rfl, _, h2⟩ := trodAll_cons h
    simp [trodAll_len h2]
end

theorem law_lifted {C : Checked} {os : Os} {f : FuncId} {fn : Func} {s : ChangeSpec} {conds : List PathCond} {tb : TypeId} (own : ownKnob C.prog.godebug = none) (started : os.Started) (noInit : C.prog.inits.idxOf? f = none) (hfn : C.prog.funcs[f]? = some fn)
    (hl : laidOutB C.prog = true) (hpar : (fn.params.toList.all fun t => C.prog.readableRec t && decide (t < C.prog.types.size)) = true) (hres : fn.resultTypes = #[tb]) (hb : C.prog.underlying tb = some .bool) (hv : s.vars = [])
    {H : Type} {enc : TypeId × Value → H}
    (hspec : ∀ ds : List (DataW H), ds.length = fn.params.size → (s.fn H ds).results = [.lit (.bool true)] ∧ (s.fn H ds).args = ds ∧ (s.fn H ds).vars = [])
    (witness : ∃ (w : World) (tape : Tape) (i : Input), w.os = os ∧ (w.forCall tape i).Shaped C.prog ∧ i.vars = [] ∧ Input.okWide C.prog (w.forCall tape i) .any w.heap.size f i ∧
      s.pre6 enc C.prog fn conds false (w.forCall tape i).memory i.args ∧ Assume.holds {} C.prog (lone (Frame.enter C.prog f i.args .normal) [] (w.forCall tape i)))
    (contract : ∀ (W : World) (base : Nat) (args : Array Value) (ds : List (DataW H)) (p : List MemPlace), (∀ (j : Nat) t v, fn.params[j]? = some t → args[j]? = some v → Value.okWide C.prog W .any base t v) →
      DataW.TrodAll enc C.prog W 0 (fun _ => true) true fn.params.toList args.toList ds p → Ret C.prog f args.toList W [.bool] (fun r _ => r = true)) :
    ReturnsInHanded {} C os f .any (s.pre6 enc C.prog fn conds false) (s.post enc C.prog fn false true false false) := by
  refine returnsInHanded_of_change own started noInit hfn witness ?_
  intro W base args ds gs before hval hW _ _
  have hW' := hW
  obtain ⟨p, q, hA, hV, rfl, hfz, hnd⟩ := hW
  rw [hv] at hV
  obtain ⟨rfl, rfl⟩ := trodVars_none hV
  have hlen := trodAll_len hA
  obtain ⟨e1, e2, e3⟩ := hspec ds (by simpa using hlen)
  have hlt : ∀ x ∈ p, x.block < W.heap.size := fun x hx => by simpa using hW'.lt x (by simpa using hx)
  have hcall : Calls C.prog f args W fun e w' => ∃ v, e = .returned v ∧ RR W [.bool] (fun r _ => r = true) v w' := contract W base args ds p hval hA
  refine hcall.mono fun e W' ⟨v, he, x, hv', hbel, hx⟩ => ?_
  subst hx
  have hv'' : v = .bool true := hv'
  subst hv''
  refine ⟨_, he, ds, [], p ++ [], [], p, [], hW', ?_, ?_, ?_, hbel.frame _, fun h => by cases h⟩
  · rw [List.append_nil, e1, hres]
    exact trodAll_mk1 (shut_bool hb _)
  · rw [List.append_nil, e2]
    refine trodAll_stays hl (fun t ht => ?_) hA hbel hlt
    have := List.all_eq_true.1 hpar t ht
    simpa using this
  · rw [List.append_nil, e3, hv]
    rfl

end Go.Sx

namespace Go.Sx
open Go.ChangeShapes Go.WideShapes Go.ChangeAt Go.RowKit Go.Deep

section
variable {H : Type} {enc : TypeId × Value → H} {P : Program} {w : World} {base : Nat} {spare : Nat → Bool} {held : Bool}

theorem trod_sl {α : Type} [Inhabited α] {t u z : Nat} {cells : α → List Value} {ok : α → Prop} (ht : P.underlying t = some (.slice u)) (hc : P.cellsOf u = z) (hz : 0 < z) (hlen : ∀ a, ok a → (cells a).length = z)
    (elem : ∀ (fuel : Nat) (cs : List Value) (x : DataW H × List MemPlace), DataW.trod enc P w base spare held fuel u cs = some x → ∃ a : α, cs = cells a ∧ ok a)
    {fuel : Nat} {cs : List Value} {x : DataW H × List MemPlace} (h : DataW.trod enc P w base spare held fuel t cs = some x) :
    ∃ (s : Sl) (xs : List α), cs = [.slice s.a s.n s.c] ∧ SlOf w s z cells xs ∧ s.c ≤ maxLen ∧ ∀ a ∈ xs, ok a := by
  rcases open_slice ht h with ⟨rfl, _⟩ | ⟨a', len, cap, m, k, D, Pl, rfl, _, hl, hm, hmm, _, hx⟩
  · exact ⟨⟨none, 0, 0⟩, [], rfl, SlOf.nil hz, Nat.zero_le _, by simp⟩
  · have hlm : len ≤ m := by rw [hmm]; split <;> omega
    obtain ⟨g, hg⟩ := choose_lt (α := α) (n := len) (p := fun i y => ok y ∧ ∀ j v, (cells y)[j]? = some v → w.cell? ((a'.add (i * z)).add j) = some v) (fun i hi => by
      obtain ⟨cs', h1, h2⟩ := hx i (by omega)
      rw [hc] at h1
      obtain ⟨y, rfl, hy⟩ := elem _ _ _ h2
      obtain ⟨_, hlen', hcell⟩ := World.cells?_some h1
      refine ⟨y, hy, fun j v hv => ?_⟩
      rw [hcell j (by have := (List.getElem?_eq_some_iff.1 hv).1; omega), hv])
    have hmem : ∀ y ∈ (List.range len).map g, ok y := by
      intro y hy
      simp only [List.mem_map, List.mem_range] at hy
      obtain ⟨i, hi, rfl⟩ := hy
      exact (hg i hi).1
    have hone : ∀ y ∈ (List.range len).map g, (cells y).length = z := fun y hy => hlen y (hmem y hy)
    have hfl : (((List.range len).map g).flatMap cells).length = len * z := by rw [flatMap_length hone]; simp
    refine ⟨⟨some a', len, cap⟩, (List.range len).map g, rfl, ⟨⟨hfl, fun j v hv => ⟨a', rfl, ?_⟩⟩, hone, hl, hz⟩, hm, hmem⟩
    have hj : j < len * z := by rw [← hfl]; exact (List.getElem?_eq_some_iff.1 hv).1
    have hi : j / z < len := (Nat.div_lt_iff_lt_mul hz).2 hj
    have hr : j % z < z := Nat.mod_lt _ hz
    obtain ⟨h1, h2⟩ := hg (j / z) hi
    have hr' : j % z < (cells (g (j / z))).length := by rw [hlen _ h1]; exact hr
    have e := flatMap_get (cs := cells) (i := j / z) (j := j % z) hone (by simp [hi]) (List.getElem?_eq_getElem hr')
    rw [Nat.div_add_mod', hv] at e
    have := h2 (j % z) _ (List.getElem?_eq_getElem hr')
    rwa [add_add, Nat.div_add_mod', ← e] at this

theorem trod_u8s {t e : Nat} (ht : P.underlying t = some (.slice e)) (he : P.underlying e = some (.int .u8)) (hc : P.cellsOf e = 1) {fuel : Nat} {cs : List Value} {x : DataW H × List MemPlace} (h : DataW.trod enc P w base spare held fuel t cs = some x) :
    ∃ (s : Sl) (l : List Int), cs = [.slice s.a s.n s.c] ∧ SlAt w s 1 (l.map (Value.int .u8)) ∧ (∀ b ∈ l, 0 ≤ b ∧ b < 256) ∧ s.n ≤ s.c ∧ s.c ≤ maxLen := by
  obtain ⟨s, xs, h1, h2, h3, h4⟩ := trod_sl (α := Int) (ok := fun b => 0 ≤ b ∧ b < 256) (cells := fun b => [Value.int .u8 b]) ht hc (by omega) (fun _ _ => rfl) (fun fuel cs x h => by
    obtain ⟨b, hb, _, hw⟩ := DataW.trod_int he h
    have hb2 := bounds_u8 hw
    exact ⟨b, hb, hb2.1, by omega⟩) h
  refine ⟨s, xs, h1, ?_, h4, h2.cap, h3⟩
  have := h2.sl
  rwa [show xs.flatMap (fun b => [Value.int .u8 b]) = xs.map (Value.int .u8) from (List.map_eq_flatMap ..).symm] at this

theorem okWide_struct {r : Reach} {b0 : Nat} {t : TypeId} {fs : Array Field} {v : Value} (ht : P.underlying t = some (.struct fs)) (h : Value.okWide P w r b0 t v) : ∃ cs, v = .agg cs := by
  simp only [Value.okWide, ht] at h
  obtain ⟨cs, h1, _⟩ := h
  exact ⟨cs, h1⟩
def structB (P : Program) (t : TypeId) (l : List (TypeId × Nat)) : Bool := match P.underlying t with
  | some (.struct fs) => (fs.toList.map fun f => (f.type, f.offset)) == l
  | _ => false
theorem structB_of {t : TypeId} {l : List (TypeId × Nat)} (h : structB P t l = true) : ∃ fs, P.underlying t = some (.struct fs) ∧ fs.toList.map (fun f => (f.type, f.offset)) = l := by
  unfold structB at h
  split at h
  · rename_i fs hu
    exact ⟨fs, hu, by simpa using h⟩
  · cases h
theorem okWide_structB {r : Reach} {b0 : Nat} {t : TypeId} {l : List (TypeId × Nat)} {v : Value} (ht : structB P t l = true) (h : Value.okWide P w r b0 t v) : ∃ cs, v = .agg cs := by
  obtain ⟨fs, hu, _⟩ := structB_of ht
  exact okWide_struct hu h
theorem trod_fields {t : TypeId} {l : List (TypeId × Nat)} {fuel : Nat} {cs : List Value} {x : DataW H × List MemPlace} (ht : structB P t l = true) (h : DataW.trod enc P w base spare held fuel t cs = some x) :
    cs.length = P.cellsOf t ∧ ∀ (i : Nat) ty off, l[i]? = some (ty, off) → ∃ n y, DataW.trod enc P w base spare held n ty ((cs.drop off).take (P.cellsOf ty)) = some y := by
  obtain ⟨fs, hu, hl⟩ := structB_of ht
  obtain ⟨xs, n, _, rfl, hlen, hxl, hf⟩ := DataW.trod_struct hu h
  refine ⟨hlen, fun i ty off hi => ?_⟩
  rw [← hl, List.getElem?_map] at hi
  cases hfi : fs.toList[i]? with
  | none => rw [hfi] at hi; cases hi
  | some f =>
    rw [hfi] at hi
    simp only [Option.map_some, Option.some.injEq, Prod.mk.injEq] at hi
    obtain ⟨rfl, rfl⟩ := hi
    have hfi' : fs[i]? = some f := by rw [← Array.getElem?_toList]; exact hfi
    have := hf i f hfi'
    have hlt : i < xs.length := by rw [hxl]; exact (Array.getElem?_eq_some_iff.1 hfi').1
    rw [List.getElem?_eq_getElem hlt] at this
    exact ⟨n, _, this⟩

theorem trod_tagged {t b s e : TypeId} {fuel : Nat} {cs : List Value} {x : DataW H × List MemPlace} (ht : structB P t [(b, 0), (s, 1)] = true) (hct : P.cellsOf t = 2) (hcb : P.cellsOf b = 1) (hcs : P.cellsOf s = 1)
    (hb : P.underlying b = some (.int .u8)) (hs : P.underlying s = some (.slice e)) (he : P.underlying e = some (.int .u8)) (hce : P.cellsOf e = 1) (h : DataW.trod enc P w base spare held fuel t cs = some x) :
    ∃ (c : Int) (d : Sl) (l : List Int), cs = [.int .u8 c, .slice d.a d.n d.c] ∧ (0 ≤ c ∧ c < 256) ∧ SlAt w d 1 (l.map (Value.int .u8)) ∧ (∀ b ∈ l, 0 ≤ b ∧ b < 256) ∧ d.n ≤ d.c ∧ d.c ≤ maxLen := by
  obtain ⟨hl, hf⟩ := trod_fields ht h
  obtain ⟨_, _, t0⟩ := hf 0 _ _ rfl
  obtain ⟨_, _, t1⟩ := hf 1 _ _ rfl
  rw [hcb] at t0
  rw [hcs] at t1
  rw [hct] at hl
  match cs, hl with
  | [v0, v1], _ =>
    simp at t0 t1
    obtain ⟨c, hc, _, hw⟩ := DataW.trod_int hb t0
    have hb2 := bounds_u8 hw
    obtain ⟨d, l, hd, k1, k2, k3, k4⟩ := trod_u8s hs he hce t1
    simp at hc hd
    subst hc hd
    exact ⟨c, d, l, rfl, ⟨hb2.1, by omega⟩, k1, k2, k3, k4⟩
end
end Go.Sx
namespace Go.Proofs.YtkifkdkjljcclaaGreat
open Go.Sx Go.RowKit
section
variable {H : Type} {enc : TypeId × Value → H} {w : World} {base : Nat} {spare : Nat → Bool} {held : Bool}
instance : Inhabited BR := ⟨⟨0, ⟨none, 0, 0⟩, []⟩⟩

set_option maxRecDepth 100000 in
theorem open_Blobs {fuel : Nat} {cs : List Value} {x : DataW H × List MemPlace} (h : DataW.trod enc Tryz.prog w base spare held fuel ty_sl_laws_Blob cs = some x) :
    ∃ (s : Sl) (bs : List BR), cs = [.slice s.a s.n s.c] ∧ BsR w s bs ∧ s.c ≤ maxLen ∧ ∀ b ∈ bs, b.d.c ≤ maxLen := by
  obtain ⟨s, bs, h1, h2, h3, h4⟩ := trod_sl (u := ty_laws_Blob) (z := 2) (cells := BR.cells) (ok := fun b => b.Ok w ∧ b.d.c ≤ maxLen) (by kernel_rfl) (by kernel_rfl) (by omega) (fun b _ => cells_len b) (fun fuel cs x h => by
    obtain ⟨c, d, l, h1, h2, h3, h4, h5, h6⟩ := trod_tagged (b := ty_uint8) (s := ty_sl_uint8) (e := ty_uint8) (by kernel_rfl) (by kernel_rfl) (by kernel_rfl) (by kernel_rfl) (by kernel_rfl) (by kernel_rfl) (by kernel_rfl) (by kernel_rfl) h
    exact ⟨⟨c, d, l⟩, h1, ⟨⟨h3, h4, h5⟩, h2.1, h2.2⟩, h6⟩) h
  exact ⟨s, bs, h1, ⟨h2, fun b hb => (h4 b hb).1⟩, h3, fun b hb => (h4 b hb).2⟩

set_option maxRecDepth 100000 in
theorem open_Store {r : Reach} {b0 : Nat} {v : Value} {d : DataW H} {ps : List MemPlace} (hval : Value.okWide Tryz.prog w r b0 ty_laws_Store v) (hd : DataW.Trod enc Tryz.prog w base spare held ty_laws_Store v d ps) : ∃ (x : Array Value) (B : List PB), v = .agg x ∧ RawStore w x B := by
  have hb : structB Tryz.prog ty_laws_Store [(ty_sl_laws_Blob, 0)] = true := by kernel_rfl
  obtain ⟨cs, rfl⟩ := okWide_structB hb hval
  obtain ⟨fuel, hf⟩ := hd
  obtain ⟨hl, hf⟩ := trod_fields hb hf
  obtain ⟨_, _, t0⟩ := hf 0 _ _ rfl
  have e3 : Tryz.prog.cellsOf ty_sl_laws_Blob = 1 := by kernel_rfl
  have e4 : Tryz.prog.cellsOf ty_laws_Store = 1 := by kernel_rfl
  rw [e3] at t0
  rw [e4] at hl
  have hl' : (Value.agg cs).cells.toList = cs.toList := rfl
  rw [hl'] at t0 hl
  rw [List.drop_zero, List.take_of_length_le (by omega)] at t0
  obtain ⟨s, bs, h1, h2, h3, h4⟩ := open_Blobs t0
  have hcs : cs = #[.slice s.a s.n s.c] := by rw [← Array.toArray_toList (xs := cs), h1]
  subst hcs
  exact ⟨_, bs.map BR.pb, rfl, s, bs, rfl, rfl, h2, h3, h4⟩
end
end Go.Proofs.YtkifkdkjljcclaaGreat

namespace Go.Sx
end Go.Sx
namespace Go.Proofs.YtkifkdkjljcclaaGreat
open Go.Sx Go.RowKit

def RawBlob (w : World) (r : Array Value) (B : PB) : Prop := ∃ b : BR, r = b.cells.toArray ∧ b.pb = B ∧ b.Ok w ∧ b.d.c ≤ maxLen
theorem RawBlob.rd {w : World} {r : Array Value} {B : PB} (h : RawBlob w r B) : RdBlob w r B := let ⟨b, h1, h2, h3, _⟩ := h; ⟨b, h1, h2, h3⟩
theorem RawBlob.sz {w : World} {r : Array Value} {B : PB} (h : RawBlob w r B) : r.size = 2 := by obtain ⟨b, rfl, _⟩ := h; rfl
theorem RawBlob.one {w : World} {r : Array Value} {B : PB} (h : RawBlob w r B) : ∀ v ∈ r.toList, oneC v = true := by obtain ⟨b, rfl, _⟩ := h; simpa using cells_one b
theorem c_eqKey_same {a : List Int} (ha : a.length = 32) (w : World) : Ret Tryz.prog n_laws_eqKey [.agg (u8s a).toArray, .agg (u8s a).toArray] w [.bool] (fun r _ => r = true) := laws_eqKey_calls _ _ (by
  unfold laws_eqKey
  refine r_new (At.refl w) fun b1 w1 h => ?_
  refine r_new h fun b2 w2 h => ?_
  refine r_loop (σ := Int) (fun i w' => ∃ j : Nat, i = j ∧ j ≤ 32 ∧ At w w' [(b2, (u8s a).toArray, ty_impl_Key), (b1, (u8s a).toArray, ty_impl_Key)]) (fun i _ => (32 - i).toNat) 0 rfl ⟨0, rfl, by omega, h⟩ ?_
  rintro i w8 ⟨j, rfl, hj, h⟩
  refine r_any fun _ => ?_
  refine r_if ((j : Int) < 32) rfl (fun hlt => ?_) (fun hge => ?_)
  · refine r_draw h fun w3 h => ?_
    refine r_ix ⟨b1, 0, none⟩ rfl (by omega) (by omega) ?_
    refine r_ld h 1 rfl (add_lit _ _ _) (a.getD j 0) (by simp [Sh.emb]) (by simp only [Int.toNat_natCast, Nat.zero_add, Nat.mul_one]; exact u8s_arr (by omega)) ?_
    refine r_ix ⟨b2, 0, none⟩ rfl (by omega) (by omega) ?_
    refine r_ld h 0 rfl (add_lit _ _ _) (a.getD j 0) (by simp [Sh.emb]) (by simp only [Int.toNat_natCast, Nat.zero_add, Nat.mul_one]; exact u8s_arr (by omega)) ?_
    refine r_ne (fun hh => absurd rfl hh) fun _ => ?_
    exact ⟨((j + 1 : Nat) : Int), by rw [w64 (by omega) (by omega)]; rfl, ⟨j + 1, rfl, by omega, h⟩, by omega⟩
  · exact r_ret h _ rfl rfl)
end Go.Proofs.YtkifkdkjljcclaaGreat
