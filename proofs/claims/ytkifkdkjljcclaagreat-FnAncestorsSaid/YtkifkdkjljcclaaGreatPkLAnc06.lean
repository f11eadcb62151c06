/- More rules for own slices: shrunk, cleared, copied into, a string made of bytes, a clone. From a function's contract to the given statement: arguments opened (arrays of bytes, slices of such), the row's step, for any law that returns true. -/
import Derived.Laws.BytesString
import Derived.Carry
import Derived.Deep.Slices
import Derived.OpenShut
import Derived.ProofKit
import Derived.Test.YtkifkdkjljcclaaGreatPkLAnc05
namespace Go.Sx
open Go.RowKit (Below)
open Go.Deep (add_add)
variable {P : Program} {R : Value → World → Prop} {w0 w : World} {ls L : List Blk} {e z : Nat} {s : Sl} {xs : List Value}

theorem add_zero (p : Addr) : p.add 0 = p := by unfold Addr.add; simp

theorem ldOk_own {w0 w : World} {ls : List Blk} (hA : At w0 w ls) (i : Nat) {b : Nat} {cs : Array Value} {t : TypeId} (hl : ls[i]? = some (b, cs, t)) (o : Nat) {sh : Sh} {x : sh.T} (hx : cs[o]? = some (sh.emb x)) (hs : ∀ ds, sh.emb x ≠ .agg ds) {n : Nat} : ldOk w n ((⟨b, 0, none⟩ : Addr).add o) sh x := by
  have hc : w.cell? ((⟨b, 0, none⟩ : Addr).add o) = some (sh.emb x) := by rw [add_lit, Nat.zero_add]; simp [World.cell?, hA.get hl, hx]
  cases sh
  case agg => exact (hs x rfl).elim
  all_goals exact hc

theorem r_chk2 {P : Program} {R : Value → World → Prop} {w : World} {h1 h2 : Held} {k : World → Prop} (e1 : ldOk w h1.n h1.p h1.sh h1.x) (e2 : ldOk w h2.n h2.p h2.sh h2.x) (h : k w) : ((real P R).chk [h1, h2] k : World → Prop) w :=
  ⟨fun x hx => by
    rcases List.mem_cons.1 hx with e | hx
    · rw [e]; exact e1
    · rw [List.mem_singleton.1 hx]; exact e2, h⟩

theorem OwnS.shrink (h : OwnS e z s xs L) (n : Nat) (hn : n ≤ s.n) : OwnS e z ⟨s.a, n, s.c⟩ (xs.take (n * z)) L := by
  obtain ⟨hl, h⟩ := h
  have hm : n * z ≤ xs.length := by rw [hl]; exact Nat.mul_le_mul_right _ hn
  refine ⟨by simp; omega, ?_⟩
  rcases h with ⟨ha, h0, hc, rfl⟩ | ⟨g, cur, rfl, ha, hnc, hcm, hcs, htk⟩
  · exact .inl ⟨ha, by show n = 0; omega, hc, rfl⟩
  · refine .inr ⟨g, cur, rfl, ha, by show n ≤ s.c; omega, hcm, hcs, ?_⟩
    rw [List.length_take, Nat.min_eq_left hm]
    rw [← htk, List.take_take, Nat.min_eq_left hm]

theorem r_slPre {a : Option Addr} {n c z : Nat} {lo hi : Option Int} {k : Sl → World → Prop} (h : Nat) (hl : lo.getD 0 = (0 : Int)) (hh : hi.getD n = (h : Int)) (h2 : h ≤ c)
    (hk : k ⟨a, h, c⟩ w) : ((real P R).sl a n c z lo hi none k : World → Prop) w := by
  refine r_sl 0 h (by simpa using hl) hh (Nat.zero_le _) h2 ?_
  have e1 : (if c = 0 then a else a.map (·.add (0 * z))) = a := by
    split
    · rfl
    · cases a <;> simp [add_zero]
  rw [e1]
  exact hk
theorem r_slSuf {a : Option Addr} {n c z : Nat} {lo hi : Option Int} {k : Sl → World → Prop} (l : Nat) (hl : lo.getD 0 = (l : Int)) (hh : hi.getD n = (n : Int)) (h1 : l ≤ n) (h2 : n ≤ c)
    (hk : ∀ y : Sl, y.n = n - l → y.c = c - l → (l < n → y.a = a.map (·.add (l * z))) → k y w) : ((real P R).sl a n c z lo hi none k : World → Prop) w :=
  r_sl l n hl hh h1 h2 (hk _ rfl rfl fun hlt => by
    show (if c = l then a else _) = _
    rw [if_neg (by omega)])

def zOne (P : Program) (e : TypeId) : Bool := match P.info? e with
  | some i => match i.zero with | some v => v.cells.toList.all oneC | none => false
  | none => false

theorem zeroCells_one {zero : Array Value} (h : ∀ v ∈ zero.toList, oneC v = true) (hz : 0 < zero.size) (n : Nat) : ∀ v ∈ (Builtin.zeroCells zero n).toList, oneC v = true := by
  intro v hv
  simp only [Builtin.zeroCells, Array.toList_map, List.mem_map] at hv
  obtain ⟨i, _, rfl⟩ := hv
  have hi : i % zero.size < zero.size := Nat.mod_lt _ hz
  rw [getElem!_pos zero _ hi]
  exact h _ (by simp)

theorem own_stores {p : Addr} {news : List Value} (hA : At w0 w (L ++ ls)) (hO : OwnS e z s xs L) (hp : s.a = some p) (o : Nat) (ho : o + news.length ≤ xs.length) (h1 : ∀ u ∈ news, oneC u = true) :
    ∃ w' L', (storeCells (p.add o) news 0).run P w = .ok () w' ∧ At w0 w' (L' ++ ls) ∧ OwnS e z s (xs.take o ++ news ++ xs.drop (o + news.length)) L' := by
  have key := r_stO (P := P) (R := fun _ _ => False) (n := news.length) (q := p.add o) (v := .agg news.toArray) (k := fun w' => ∃ L', At w0 w' (L' ++ ls) ∧ OwnS e z s (xs.take o ++ news ++ xs.drop (o + news.length)) L') hA hO hp o rfl (by simp [Value.cells]) ho (by simpa [Value.cells] using h1)
    (fun w' L' hA' hO' => ⟨L', hA', by simpa [Value.cells] using hO'⟩)
  obtain ⟨_, hst, L', hA', hO'⟩ := key
  have hst' : stOk w (p.add o) news 0 := by simpa [Value.cells] using hst
  have hA'' : At w0 (stW w (p.add o) news 0) (L' ++ ls) := by simpa [Value.cells] using hA'
  exact ⟨_, L', run_storeCells _ _ _ _ hst', hA'', hO'⟩

theorem r_clearO {t ty by_ : Nat} (hT : SlT P t e z by_) (hz1 : zOne P e = true) (hA : At w0 w (L ++ ls)) (hO : OwnS e z s xs L) {y : Sl} (m : Nat) (hm : m + y.n ≤ s.n) (hy : 0 < y.n → y.a = s.a.map (·.add (m * z))) {k : Value → World → Prop}
    (h : ∀ v w' L' xs', At w0 w' (L' ++ ls) → OwnS e z s xs' L' → xs'.take (m * z) = xs.take (m * z) → k v w') : ((real P R).sem (Builtin.clear_ #[t] ty #[.slice y.a y.n y.c]) .val k : World → Prop) w := by
  obtain ⟨i, zv, hi, hzv, hsz, _, hzs⟩ := hT.ex
  have hpos := hT.pos
  rcases Nat.eq_zero_or_pos y.n with h0 | h0
  · refine ⟨.tuple #[], w, ?_, h _ w L xs hA hO rfl⟩
    rw [h0]
    cases y.a <;> simp [Builtin.clear_, run_underlying hT.ut, Sh.emb]
  · have hya := hy h0
    obtain ⟨p, hp⟩ := hO.addr (by omega)
    rw [hp] at hya
    simp only [Option.map_some] at hya
    have hall : ∀ v ∈ zv.cells.toList, oneC v = true := by
      unfold zOne at hz1
      rw [hi] at hz1
      simp only [hzv] at hz1
      exact List.all_eq_true.1 hz1
    have hlen : (Builtin.zeroCells zv.cells y.n).toList.length = y.n * z := by simp [size_zeroCells, hzs]
    have hbound : m * z + y.n * z ≤ xs.length := by rw [hO.1, ← Nat.add_mul]; exact Nat.mul_le_mul_right _ hm
    obtain ⟨w', L', hr, hA', hO'⟩ := own_stores (P := P) (news := (Builtin.zeroCells zv.cells y.n).toList) hA hO hp (m * z) (by rw [hlen]; exact hbound) (zeroCells_one hall (by omega) _)
    refine ⟨.tuple #[], w', ?_, h _ w' L' _ hA' hO' ?_⟩
    · rw [hya]
      obtain ⟨q, hq⟩ : ∃ q, y.n = q + 1 := ⟨y.n - 1, by omega⟩
      rw [hq] at hr ⊢
      simp [Builtin.clear_, run_underlying hT.ut, Sh.emb, zeroValue, typeInfo, hi, hzv, hr]
    · rw [List.append_assoc, List.take_append_of_le_length (by simp; omega), List.take_take, Nat.min_self]

def strOf (l : List Int) : ByteArray := l.foldl (fun r n => r.push (UInt8.ofNat n.toNat)) ByteArray.empty
end Go.Sx

namespace Go.Sx
open Go.ChangeShapes Go.WideShapes Go.ChangeAt Go.RowKit Go.Deep

section
variable {H : Type} {enc : TypeId × Value → H} {P : Program} {w : World} {base : Nat} {spare : Nat → Bool} {held : Bool}

theorem open_u8s {r : Reach} {b0 : Nat} {t e : TypeId} {v : Value} {d : DataW H} {ps : List MemPlace} (ht : P.underlying t = some (.slice e)) (he : P.underlying e = some (.int .u8)) (hc : P.cellsOf e = 1)
    (hval : Value.okWide P w r b0 t v) (hd : DataW.Trod enc P w base spare held t v d ps) : ∃ (s : Sl) (l : List Int), v = .slice s.a s.n s.c ∧ SlAt w s 1 (l.map (Value.int .u8)) ∧ (∀ b ∈ l, 0 ≤ b ∧ b < 256) ∧ s.n ≤ s.c ∧ s.c ≤ maxLen := by
  obtain ⟨a, len, cap, rfl⟩ := okWide_slice ht hval
  obtain ⟨fuel, hf⟩ := hd
  rcases open_slice ht hf with ⟨hcs, _⟩ | ⟨a', len', cap', m, k, D, Pl, hcs, _, hl, hm, hmm, _, hx⟩
  · simp [Value.cells] at hcs
    obtain ⟨rfl, rfl, rfl⟩ := hcs
    exact ⟨⟨none, 0, 0⟩, [], rfl, ⟨by simp, fun j v hv => by simp at hv⟩, by simp, Nat.le_refl _, Nat.zero_le _⟩
  · simp [Value.cells] at hcs
    obtain ⟨rfl, rfl, rfl⟩ := hcs
    have hlm : len ≤ m := by rw [hmm]; split <;> omega
    have each : ∀ j, j < len → ∃ b : Int, w.cell? (a'.add j) = some (.int .u8 b) ∧ 0 ≤ b ∧ b < 256 := by
      intro j hj
      obtain ⟨cs', h1, h2⟩ := hx j (by omega)
      rw [hc, Nat.mul_one] at h1
      obtain ⟨_, hlen, hcell⟩ := World.cells?_some h1
      obtain ⟨b, hb, _, hw⟩ := DataW.trod_int he h2
      have hb2 := bounds_u8 hw
      refine ⟨b, ?_, hb2.1, by omega⟩
      have := hcell 0 (by omega)
      rw [add_add, Nat.add_zero] at this
      rw [this, hb]
      rfl
    obtain ⟨g, hg⟩ := choose_lt (α := Int) (p := fun j b => w.cell? (a'.add j) = some (.int .u8 b) ∧ 0 ≤ b ∧ b < 256) each
    refine ⟨⟨some a', len, cap⟩, (List.range len).map g, rfl, ⟨by simp, fun j v hv => ⟨a', rfl, ?_⟩⟩, ?_, hl, hm⟩
    · rcases Nat.lt_or_ge j len with hj | hj
      · rw [(hg j hj).1, ← hv]; simp [hj]
      · rw [List.getElem?_eq_none (by simp; omega)] at hv; cases hv
    · intro b hb
      simp only [List.mem_map, List.mem_range] at hb
      obtain ⟨j, hj, rfl⟩ := hb
      exact (hg j hj).2

theorem trodAll_stays (hl : laidOutB P = true) {W W' : World} : ∀ {ts : List TypeId} {vs : List Value} {ds : List (DataW H)} {ps : List MemPlace}, (∀ t ∈ ts, P.readableRec t = true ∧ t < P.types.size) → DataW.TrodAll enc P W 0 (fun _ => true) true ts vs ds ps → Below W.heap.size W W' →
    (∀ x ∈ ps, x.block < W.heap.size) → DataW.TrodAll enc P W' 0 (fun b => decide (b < W.heap.size)) true ts vs ds ps
  | [], vs, ds, ps, _, h, _, _ => by
    obtain ⟨rfl, rfl, rfl⟩ := trodAll_nil h
    exact trodAll_mk0
  | t :: ts, vs, ds, ps, ht, h, hb, hlt => by
    obtain ⟨v, vs', d, ds', p, q, rfl, rfl, rfl, h1, h2⟩ := trodAll_cons h
    have ht1 := ht t (by simp)
    exact trodAll_cons_mk (Below.trod hl ht1.1 ht1.2 h1 hb fun x hx => hlt x (by simp [hx])) (trodAll_stays hl (fun t h => ht t (by simp [h])) h2 hb fun x hx => hlt x (by simp [hx]))

theorem trodAll_len : ∀ {ts : List TypeId} {vs : List Value} {ds : List (DataW H)} {ps : List MemPlace}, DataW.TrodAll enc P w base spare held ts vs ds ps → ds.length = ts.length
  | [], _, _, _, h => by obtain ⟨_, rfl, _⟩ := trodAll_nil h; rfl
  | _ :: _, _, _, _, h => by
    obtain ⟨v, vs', d, ds', p, q, rfl, rfl, rfl, _, h2⟩ := trodAll_cons h
    simp [trodAll_len h2]
end

theorem law_lifted {C : Checked} {os : Os} {f : FuncId} {fn : Func} {s : ChangeSpec} {conds : List PathCond} {tb : TypeId} (own : ownKnob C.prog.godebug = none) (started : os.Started) (noInit : C.prog.inits.idxOf? f = none) (hfn : C.prog.funcs[f]? = some fn)
    (hl : laidOutB C.prog = true) (hpar : (fn.params.toList.all fun t => C.prog.readableRec t && decide (t < C.prog.types.size)) = true) (hres : fn.resultTypes = #[tb]) (hb : C.prog.underlying tb = some .bool) (hv : s.vars = [])
    {H : Type} {enc : TypeId × Value → H}
    (hspec : ∀ ds : List (DataW H), ds.length = fn.params.size → (s.fn H ds).results = [.lit (.bool true)] ∧ (s.fn H ds).args = ds ∧ (s.fn H ds).vars = [])
    (witness : ∃ (w : World) (tape : Tape) (i : Input), w.os = os ∧ (w.forCall tape i).Shaped C.prog ∧ i.vars = [] ∧ Input.okWide C.prog (w.forCall tape i) .any w.heap.size f i ∧
      s.pre6 enc C.prog fn conds false (w.forCall tape i).memory i.args ∧ Assume.holds {} C.prog (lone (Frame.enter C.prog f i.args .normal) [] (w.forCall tape i)))
    (contract : ∀ (W : World) (base : Nat) (args : Array Value) (ds : List (DataW H)) (p : List MemPlace), (∀ (j : Nat) t v, fn.params[j]? = some t → args[j]? = some v → Value.okWide C.prog W .any base t v) →
      DataW.TrodAll enc C.prog W 0 (fun _ => true) true fn.params.toList args.toList ds p → Ret C.prog f args.toList W [.bool] (fun r _ => r = true)) :
    ReturnsInHanded {} C os f .any (s.pre6 enc C.prog fn conds false) (s.post enc C.prog fn false true false false) := by
  refine returnsInHanded_of_change own started noInit hfn witness ?_
  intro W base args ds gs before hval hW _ _
  have hW' := hW
  obtain ⟨p, q, hA, hV, rfl, hfz, hnd⟩ := hW
  rw [hv] at hV
  obtain ⟨rfl, rfl⟩ := trodVars_none hV
  have hlen := trodAll_len hA
  obtain ⟨e1, e2, e3⟩ := hspec ds (by simpa using hlen)
  have hlt : ∀ x ∈ p, x.block < W.heap.size := fun x hx => by simpa using hW'.lt x (by simpa using hx)
  have hcall : Calls C.prog f args W fun e w' => ∃ v, e = .returned v ∧ RR W [.bool] (fun r _ => r = true) v w' := contract W base args ds p hval hA
  refine hcall.mono fun e W' ⟨v, he, x, hv', hbel, hx⟩ => ?_
  subst hx
  have hv'' : v = .bool true := hv'
  subst hv''
  refine ⟨_, he, ds, [], p ++ [], [], p, [], hW', ?_, ?_, ?_, hbel.frame _, fun h => by cases h⟩
  · rw [List.append_nil, e1, hres]
    exact trodAll_mk1 (shut_bool hb _)
  · rw [List.append_nil, e2]
    refine trodAll_stays hl (fun t ht => ?_) hA hbel hlt
    have := List.all_eq_true.1 hpar t ht
    simpa using this
  · rw [List.append_nil, e3, hv]
    rfl

end Go.Sx
