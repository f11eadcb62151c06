/- The real combinators, and the soundness of T's operations. -/
import Derived.Test.YtkifkdkjljcclaaGreatPkLTor00
namespace Go.Sx

def ldOk (w : World) (n : Nat) (p : Addr) : (sh : Sh) → sh.T → Prop
  | .agg, cs => cs.size = n ∧ ∀ i v, cs[i]? = some v → w.cell? (p.add i) = some v
  | .int k, x => w.cell? p = some (.int k x)
  | .bool, x => w.cell? p = some (.bool x)
  | .slice, x => w.cell? p = some (.slice x.a x.n x.c)
  | .ptr, x => w.cell? p = some (.pointer (some x))
  | .optr, x => w.cell? p = some (.pointer x)
  | .str, x => w.cell? p = some (.string x)
  | .val, x => w.cell? p = some x

def oneC : Value → Bool | .agg _ | .tuple _ => false | _ => true

def stW (w : World) (p : Addr) : List Value → Nat → World
  | [], _ => w
  | v :: r, i => stW (w.setCell (p.add i) v) p r (i + 1)

def stOk (w : World) (p : Addr) : List Value → Nat → Prop
  | [], _ => True
  | v :: r, i => oneC v = true ∧ (∃ u, w.cell? (p.add i) = some u) ∧ w.frozen? (p.add i) = false ∧ stOk (w.setCell (p.add i) v) p r (i + 1)

def allR : List (World → Prop) → World → Prop
  | [], _ => True
  | [s], w => s w
  | s :: t :: r, w => s w ∧ allR (t :: r) w

def real (P : Program) (R : Value → World → Prop) : Comb where
  St := World → Prop
  fail := fun _ => False
  all := allR
  draw := fun s w => s w.drew
  ld := fun sh n a k w => ∃ x, ldOk w n a sh x ∧ k x w
  st := fun n a v k w => v.cells.size = n ∧ stOk w a v.cells.toList 0 ∧ k (stW w a v.cells.toList 0)
  new := fun t v k w => k w.heap.size (w.alloc (.cells v.cells t))
  ix := fun a n sz i k w => ∃ p, a = some p ∧ 0 ≤ i ∧ i < n ∧ k (p.add (i.toNat * sz)) w
  ixS := fun s i k w => ∃ b : UInt8, 0 ≤ i ∧ s[i.toNat]? = some b ∧ k b.toNat w
  ixV := fun sh cs n sz i k w => ∃ x, 0 ≤ i ∧ i < n ∧ cs[i.toNat * sz]? = some (sh.emb x) ∧ k x w
  sl := fun a n c sz lo hi mx k w => 0 ≤ lo.getD 0 ∧ lo.getD 0 ≤ hi.getD n ∧ hi.getD n ≤ mx.getD c ∧ mx.getD c ≤ c ∧
    k ⟨if mx.getD c = lo.getD 0 then a else a.map (·.add ((lo.getD 0).toNat * sz)), (hi.getD n).toNat - (lo.getD 0).toNat, (mx.getD c).toNat - (lo.getD 0).toNat⟩ w
  slS := fun s lo hi k w => 0 ≤ lo.getD 0 ∧ lo.getD 0 ≤ hi.getD s.size ∧ hi.getD s.size ≤ s.size ∧ k (s.extract (lo.getD 0).toNat (hi.getD s.size).toNat) w
  fld := fun sh cs off k w => ∃ x, cs[off]? = some (sh.emb x) ∧ k x w
  call := fun f args l k w => Calls P f args.toArray w fun e w' => ∃ x, e = .returned (valL (embL l x)) ∧ k x w'
  callQ := fun f args l k w => ∃ x, (Calls P f args.toArray w fun e w' => e = .returned (valL (embL l x)) ∧ w' = w) ∧ k x w
  callP := fun f args l k w => ∃ x, (∀ w', Calls P f args.toArray w' fun e w'' => e = .returned (valL (embL l x)) ∧ w'' = w') ∧ k x w
  chk := fun H k w => (∀ h ∈ H, ldOk w h.n h.p h.sh h.x) ∧ k w
  callV := fun fv args l k w => ∃ g fs cs, fv = .func (.func g) fs cs ∧ isGo P g = true ∧ Calls P g (fs.toList ++ args ++ cs.toList).toArray w fun e w' => ∃ x, e = .returned (valL (embL l x)) ∧ k x w'
  sem := fun s sh k w => ∃ x w', s.run P w = .ok (sh.emb x) w' ∧ k x w'
  semL := fun s l k w => ∃ x w', s.run P w = .ok (valL (embL l x)) w' ∧ k x w'
  eff := fun s k w => ∃ w', s.run P w = .ok () w' ∧ k w'
  ext := fun f args l k w => ∃ x w', (callFunc f args.toArray).run P w = .ok (.value (valL (embL l x))) w' ∧ k x w'
  pur := fun s sh k w => ∃ x, (∀ w', s.run P w' = .ok (sh.emb x) w') ∧ k x w
  ret := fun v w => R v w
  loop := fun σ emb init body w => ∃ (I : σ → World → Prop) (μ : σ → World → Nat), (∃ s, emb s = init ∧ I s w) ∧ ∀ s w, I s w → body s (fun vs w' => ∃ s', emb s' = vs ∧ I s' w' ∧ μ s' w' < μ s w) w
  join := fun σ emb rest body w => ∃ J : σ → World → Prop, (∀ s w, J s w → rest s w) ∧ body (fun vs w' => ∃ s', emb s' = vs ∧ J s' w') w
  any := fun f w => ∀ j, f j w

variable {P : Program} {R : Value → World → Prop}

theorem evs_eq (e : Env) (l : Array Operand) : l.map (ev e) = (evs e l).toArray := by
  unfold evs
  apply Array.ext'
  simp

theorem intOf_nonneg {v : Value} (h : 0 ≤ intOf v) : ∃ k, v = .int k (intOf v) := by
  cases v <;> first | exact ⟨_, rfl⟩ | (exfalso; simp [intOf] at h)

theorem run_sb {v : Value} {y : Nat} {c : BoundsCode} {w : World} (h0 : 0 ≤ intOf v) (h1 : intOf v ≤ y) : (Instr.sliceBound v y c).run P w = .ok (intOf v).toNat w := by
  obtain ⟨k, hk⟩ := intOf_nonneg h0
  generalize intOf v = n at *
  subst hk
  simp [Instr.sliceBound, asIntOf, h0, h1]

theorem run_sbs {isSlice : Bool} {n c : Nat} {lo hi mx : Option Value} {w : World} (hx : mx.isSome = true → hi.isSome = true)
    (h0 : 0 ≤ (lo.map intOf).getD 0) (h1 : (lo.map intOf).getD 0 ≤ (hi.map intOf).getD n) (h2 : (hi.map intOf).getD n ≤ (mx.map intOf).getD c) (h3 : (mx.map intOf).getD c ≤ c) :
    (Instr.sliceBounds isSlice n c lo hi mx).run P w = .ok (((lo.map intOf).getD 0).toNat, ((hi.map intOf).getD n).toNat, ((mx.map intOf).getD c).toNat) w := by
  unfold Instr.sliceBounds
  cases mx with
  | some m =>
    cases hi with
    | none => simp at hx
    | some h =>
      simp only [Option.map_some, Option.getD_some] at *
      have e1 : ((intOf m).toNat : Int) = intOf m := by omega
      have e2 : ((intOf h).toNat : Int) = intOf h := by omega
      cases lo with
      | none =>
        simp only [Option.map_none, Option.getD_none] at *
        simp [run_sb (P := P) (w := w) (show 0 ≤ intOf m by omega) h3, run_sb (P := P) (w := w) (v := h) (y := (intOf m).toNat) (show 0 ≤ intOf h by omega) (by omega)]
      | some l =>
        simp only [Option.map_some, Option.getD_some] at *
        simp [run_sb (P := P) (w := w) (show 0 ≤ intOf m by omega) h3, run_sb (P := P) (w := w) (v := h) (y := (intOf m).toNat) (show 0 ≤ intOf h by omega) (by omega), run_sb (P := P) (w := w) (v := l) (y := (intOf h).toNat) h0 (by omega)]
  | none =>
    cases hi with
    | none =>
      simp only [Option.map_none, Option.getD_none] at *
      cases lo with
      | none => simp
      | some l =>
        simp only [Option.map_some, Option.getD_some] at *
        simp [run_sb (P := P) (w := w) (v := l) (y := n) h0 (by omega)]
    | some h =>
      simp only [Option.map_none, Option.map_some, Option.getD_some, Option.getD_none] at *
      have e2 : ((intOf h).toNat : Int) = intOf h := by omega
      cases lo with
      | none =>
        simp only [Option.map_none, Option.getD_none] at *
        simp [run_sb (P := P) (w := w) (v := h) (y := c) (show 0 ≤ intOf h by omega) (by omega)]
      | some l =>
        simp only [Option.map_some, Option.getD_some] at *
        simp [run_sb (P := P) (w := w) (v := h) (y := c) (show 0 ≤ intOf h by omega) (by omega), run_sb (P := P) (w := w) (v := l) (y := (intOf h).toNat) h0 (by omega)]

theorem run_intOp {op : BinOp} {k : IntKind} {a b : Int} {c : Bool} {v : Value} (h : intOp op k a b c = some v) (w : World) (t : TypeId) (x y : Operand) :
    (do eqGuard op t x y (.int k a) (.int k b); binOp op t (.int k a) (.int k b)).run P w = .ok v w := by
  cases op <;> simp only [intOp] at h <;> try (cases h; simp [eqGuard, binOp, Op.intArith, Op.intBits, Op.intCmp, bitsI]; done)
  all_goals first
    | (cases c <;> simp only [cond_true, cond_false] at h
       · cases h
       · split at h
         · cases h
         · rename_i hb
           cases h
           simp [eqGuard, binOp, Op.intDiv, hb])
    | cases h

theorem run_shiftOp {op : BinOp} {k k' : IntKind} {a b : Int} {c : Bool} {v : Value} (h : shiftOp op k a b c = some v) (w : World) (t : TypeId) (x y : Operand) :
    (do eqGuard op t x y (.int k a) (.int k' b); binOp op t (.int k a) (.int k' b)).run P w = .ok v w := by
  cases op <;> simp only [shiftOp] at h <;> try (cases h; done)
  all_goals
    cases c <;> simp only [cond_true, cond_false] at h
    · cases h
    · split at h
      · cases h
      · rename_i hb
        cases h
        simp [eqGuard, binOp, Op.shift, hb]

theorem run_und {t : TypeId} {d : TypeDesc} (h : P.underlying t = some d) (w : World) : (underlying t).run P w = .ok d w := run_underlying h w

theorem tyOf_some {t : TypeId} {sh : Sh} {n : Nat} (h : tyOf P t = some (sh, n)) : ∃ d i, P.underlying t = some d ∧ P.info? t = some i ∧ shD P d = sh ∧ i.size = n := by
  unfold tyOf at h
  split at h
  · rename_i d hd
    split at h
    · rename_i i hi
      cases h
      exact ⟨d, i, hd, hi, rfl, rfl⟩
    · cases h
  · cases h

theorem run_sizeOf {t : TypeId} {sh : Sh} {n : Nat} (h : tyOf P t = some (sh, n)) (w : World) : (sizeOf t).run P w = .ok n w := by
  obtain ⟨d, i, _, hi, _, rfl⟩ := tyOf_some h
  simp [sizeOf, typeInfo, hi]

def aggB : Sh → Bool | .agg => true | _ => false
theorem run_isAgg {t : TypeId} {sh : Sh} {n : Nat} (h : tyOf P t = some (sh, n)) (w : World) : (isAgg t).run P w = .ok (aggB sh) w := by
  obtain ⟨d, i, hd, hi, rfl, rfl⟩ := tyOf_some h
  unfold isAgg
  rw [Sem.run_bind, run_und hd w]
  cases d <;> first | rfl | (simp only [shD]; rename_i e; cases nullP P e <;> rfl)

theorem run_part {t : TypeId} {sh : Sh} {n : Nat} (h : tyOf P t = some (sh, n)) (hs : ∀ b : Bool, b = (aggB sh) → b = false) {cs : Array Value} {off : Nat} {v : Value} (hv : cs[off]? = some v) (w : World) :
    (part t cs off).run P w = .ok v w := by
  unfold part
  rw [Sem.run_bind, run_isAgg h w]
  have := hs _ rfl
  simp [this, hv]

theorem run_part_agg {t : TypeId} {n : Nat} (h : tyOf P t = some (.agg, n)) (cs : Array Value) (off : Nat) (w : World) :
    (part t cs off).run P w = .ok (.agg (cs.extract off (off + n))) w := by
  unfold part
  rw [Sem.run_bind, run_isAgg h w]
  simp [run_sizeOf h w, aggB]

theorem parts_eq (e : Env) (ps : Array (Nat × Operand)) : (ps.map fun (i, x) => (i, ev e x)) = (ps.toList.map fun x => (x.1, ev e x.2)).toArray := by
  apply Array.ext'
  simp

theorem run_pur {s : Sem Value} {v : Value} (h : ∀ w, s.run P w = .ok v w) (w : World) : ((do pure (.value (← s)) : Sem Next)).run P w = .ok (.value v) w := by
  rw [Sem.run_bind, h w]
  rfl

theorem pT_sound {o : Oper} {e : Env} {k : Value → World → Prop} {s : World → Prop} {w : World} (h : pT (real P R) P o e k = some s) (hs : s w) :
    ∃ v, (∀ w', (execOp (ev e) o).run P w' = .ok (.value v) w') ∧ k v w := by
  obtain ⟨dst, op, type, pos, after, guard⟩ := o
  cases op <;> simp only [pT] at h <;> try (cases h; done)
  case move x => cases h; exact ⟨_, fun _ => rfl, hs⟩
  case assign x => cases h; exact ⟨_, fun _ => rfl, hs⟩
  case pick c x y =>
    split at h
    · rename_i b hb
      cases h
      refine ⟨_, fun w' => ?_, hs⟩
      simp only [execOp, hb, asBool]
      cases b <;> simp
    · cases h
  case nilCheck x =>
    split at h
    · rename_i q ha
      cases h
      cases q with
      | none => exact hs.elim
      | some a => exact ⟨_, fun w' => by simp [execOp, ha], hs⟩
    · cases h
  case binOp op t x y yt =>
    split at h
    · rename_i kx a ky b hx hy
      split at h
      · rename_i v hv
        cases h
        exact ⟨v, fun w' => by simp only [execOp, hx, hy]; rw [Sem.run_bind, run_shiftOp hv w' t x y]; rfl, hs⟩
      · split at h
        · rename_i v hv hk
          cases h
          have hk' : kx = ky := by simpa using hk
          subst hk'
          exact ⟨v, fun w' => by simp only [execOp, hx, hy]; rw [Sem.run_bind, run_intOp hv w' t x y]; rfl, hs⟩
        · cases h
          obtain ⟨n, hn, hk⟩ := hs
          exact ⟨_, fun w' => by simp only [execOp, hx, hy]; exact run_pur hn w', hk⟩
    · split at h
      · cases h
        obtain ⟨n, hn, hk⟩ := hs
        exact ⟨_, fun w' => by simp only [execOp]; exact run_pur hn w', hk⟩
      · cases h
        obtain ⟨n, hn, hk⟩ := hs
        exact ⟨_, fun w' => by simp only [execOp]; exact run_pur hn w', hk⟩
  case build t ps =>
    split at h
    · rename_i hp
      split at h
      · cases h
        obtain ⟨n, hn, hk⟩ := hs
        refine ⟨_, fun w' => ?_, hk⟩
        simp only [execOp, parts_eq, hp, List.map_nil]
        exact run_pur hn w'
      · rename_i z n el hz hu
        split at h
        · rename_i y hy
          cases h
          obtain ⟨sh, sz⟩ := y
          have hps : ps = #[] := by apply Array.ext'; simpa using hp
          subst hps
          refine ⟨_, fun w' => ?_, hs⟩
          have hz' : (zeroValue t).run P w' = .ok (.agg z) w' := by
            unfold zeroOf at hz
            cases hi : P.info? t with
            | none => simp [hi] at hz
            | some i =>
              have hi' : i.zero = some (.agg z) := by simpa [hi] using hz
              simp [zeroValue, typeInfo, hi, hi']
          have hx : (Instr.build t #[]).run P w' = .ok (.agg z) w' := by
            simp [Instr.build, hz', run_und hu, run_sizeOf hy, Instr.fill, Value.cells]
          simp only [execOp, List.map_toArray, List.map_nil, Sem.run_bind, hx, Result.andThen_ok, Sem.run_pure]
        · cases h
      · cases h
    · cases h
      obtain ⟨n, hn, hk⟩ := hs
      refine ⟨_, fun w' => ?_, hk⟩
      simp only [execOp, parts_eq]
      exact run_pur hn w'
  case sliceToArrayPointer t x =>
    cases h
    obtain ⟨n, hn, hk⟩ := hs
    exact ⟨_, fun w' => run_pur hn w', hk⟩
  case makeInterface t x =>
    cases h
    obtain ⟨n, hn, hk⟩ := hs
    exact ⟨_, fun w' => run_pur hn w', hk⟩
  case typeAssert x t u ok =>
    cases h
    obtain ⟨n, hn, hk⟩ := hs
    exact ⟨_, fun w' => run_pur hn w', hk⟩
  case unOp op t x =>
    cases op <;> simp only [] at h <;> try (cases h; done)
    · split at h
      · rename_i hx
        cases h
        exact ⟨_, fun w' => by first | (simp [execOp, hx, Op.unary]; done) | (simp [execOp, hx, Op.unary, Op.intArith]; done), hs⟩
      · cases h
    · split at h
      · rename_i hx
        cases h
        exact ⟨_, fun w' => by first | (simp [execOp, hx, Op.unary]; done) | (simp [execOp, hx, Op.unary, Op.intArith]; done), hs⟩
      · cases h
  case convert sr d x =>
    split at h
    · rename_i ds kd n hs' hd hx
      cases h
      exact ⟨_, fun w' => by simp [execOp, hx, convert, run_und hs', run_und hd, Conv.intToInt], hs⟩
    · cases h
  case makeFunc fn fs cs =>
    cases h
    exact ⟨_, fun w' => by simp [execOp, Instr.makeFunc, evs_eq], hs⟩
  case extract t i =>
    split at h
    · rename_i vs hx
      split at h
      · rename_i v hv
        cases h
        exact ⟨_, fun w' => by
          have : vs[i]? = some v := by simpa using hv
          simp [execOp, hx, Instr.extract, this], hs⟩
      · cases h
    · cases h
  case fieldAddr s x f =>
    split at h
    · rename_i fs q hu hx
      split at h
      · rename_i fd hfd
        split at h
        · rename_i sh n hty
          cases h
          cases q with
          | none => exact hs.elim
          | some a =>
          refine ⟨_, fun w' => ?_, hs⟩
          have : fs[f]? = some fd := by simpa using hfd
          simp [execOp, hx, Instr.fieldAt, run_und hu, this, Instr.sureAddr, fieldPlace, run_sizeOf hty]
        · cases h
      · cases h
    · cases h
  case field s x f =>
    split at h
    · rename_i fs cs hu hx
      split at h
      · rename_i fd hfd
        have hf : fs[f]? = some fd := by simpa using hfd
        split at h
        · rename_i n hty
          cases h
          refine ⟨_, fun w' => ?_, hs⟩
          simp [execOp, hx, Instr.field, run_und hu, hf, asAgg, run_part_agg hty]
        · rename_i sh n hty hne
          cases h
          obtain ⟨y, hy, hk⟩ := hs
          refine ⟨_, fun w' => ?_, hk⟩
          have hp := run_part (P := P) hne (by cases sh <;> simp_all [aggB]) hy w'
          simp [execOp, hx, Instr.field, run_und hu, hf, asAgg, hp]
        · cases h
      · cases h
    · cases h
  case indexAddr t x i =>
    split at h
    · rename_i el a n c kj j hu hx hi
      split at h
      · rename_i sh z hz
        cases h
        obtain ⟨p, rfl, h0, h1, hk⟩ := hs
        refine ⟨_, fun w' => ?_, hk⟩
        simp [execOp, hx, hi, Instr.indexAt, asIntOf, run_und hu, h0, h1, run_sizeOf hz]
      · cases h
    · rename_i n el a kj j hu hx hi
      split at h
      · rename_i sh z hz
        cases h
        obtain ⟨p, hp, h0, h1, hk⟩ := hs
        subst hp
        refine ⟨_, fun w' => ?_, hk⟩
        simp [execOp, hx, hi, Instr.indexAt, Instr.sureAddr, asIntOf, run_und hu, h0, h1, run_sizeOf hz]
      · cases h
    · cases h
  case index t x i =>
    split at h
    · rename_i s kj j hu hx hi
      cases h
      obtain ⟨b, h0, hb, hk⟩ := hs
      refine ⟨_, fun w' => ?_, hk⟩
      simp [execOp, hx, hi, Instr.index, asIntOf, run_und hu, h0, hb]
    · rename_i n el cs kj j hu hx hi
      split at h
      · cases h
      · rename_i sh z hz hne
        cases h
        obtain ⟨y, h0, h1, hy, hk⟩ := hs
        refine ⟨_, fun w' => ?_, hk⟩
        have hp := run_part (P := P) hne (by cases sh <;> simp_all [aggB]) hy w'
        simp [execOp, hx, hi, Instr.index, asIntOf, run_und hu, h0, h1, run_sizeOf hne, hp]
      · cases h
    · cases h
  case slice t x lo hi mx =>
    have mm : ∀ y : Option Operand, (y.map fun z => intOf (ev e z)) = (y.map (ev e)).map intOf := fun y => by cases y <;> rfl
    split at h
    · rename_i el a n c hu hx
      split at h
      · rename_i sh z hz hb
        cases h
        obtain ⟨h0, h1, h2, h3, hk⟩ := hs
        rw [mm, mm, mm] at *
        refine ⟨_, fun w' => ?_, hk⟩
        have hr := run_sbs (P := P) (isSlice := true) (w := w') (by cases mx <;> cases hi <;> simp_all) h0 h1 h2 h3
        simp only [execOp, Instr.sliceAt, Instr.slice, hx, Sem.run_bind, run_und hu, Result.andThen_ok, hr, run_sizeOf hz, Sem.run_pure]
        clear hr hk
        generalize (Option.map intOf (Option.map (ev e) lo)).getD 0 = L at *
        generalize (Option.map intOf (Option.map (ev e) hi)).getD _ = H at *
        generalize (Option.map intOf (Option.map (ev e) mx)).getD _ = M at *
        by_cases hq : M = L
        · subst hq; simp
        · have : ¬ M.toNat = L.toNat := by omega
          simp [hq, this]
      · cases h
    · rename_i n el q hu hx
      split at h
      · rename_i sh z hz hb
        cases h
        cases q with
        | none => exact hs.elim
        | some a =>
        obtain ⟨h0, h1, h2, h3, hk⟩ := hs
        rw [mm, mm, mm] at *
        refine ⟨_, fun w' => ?_, hk⟩
        have hr := run_sbs (P := P) (isSlice := false) (w := w') (by cases mx <;> cases hi <;> simp_all) h0 h1 h2 h3
        simp only [execOp, Instr.sliceAt, Instr.sureAddr, hx, Sem.run_bind, run_und hu, Result.andThen_ok, hr, run_sizeOf hz, Sem.run_pure]
        clear hr hk
        generalize (Option.map intOf (Option.map (ev e) lo)).getD 0 = L at *
        generalize (Option.map intOf (Option.map (ev e) hi)).getD _ = H at *
        generalize (Option.map intOf (Option.map (ev e) mx)).getD _ = M at *
        by_cases hq : M = L
        · subst hq; simp
        · have : ¬ M.toNat = L.toNat := by omega
          simp [hq, this]
      · cases h
    · rename_i s hu hx
      cases mx with
      | some m => cases h
      | none =>
        cases h
        obtain ⟨h0, h1, h2, hk⟩ := hs
        rw [mm, mm] at *
        refine ⟨_, fun w' => ?_, hk⟩
        have hr := run_sbs (P := P) (isSlice := false) (w := w') (mx := none) (c := s.size) (by simp) h0 h1 (by simpa using h2) (by simp)
        simp only [execOp, Instr.sliceAt, Instr.slice, hx, Sem.run_bind, run_und hu, Result.andThen_ok, Option.map_none, Option.isSome_none, Bool.false_eq_true, if_false, hr, Sem.run_pure]
    · cases h
  case call c =>
    obtain ⟨callee, args, argTypes⟩ := c
    cases callee <;> try (cases h; done)
    rename_i b
    cases b <;> try (cases h; done)
    case cap =>
      simp only [] at h
      split at h
      · rename_i t a n c ht hx
        split at h
        · rename_i hu
          cases h
          have ha : argTypes = #[t] := by apply Array.ext'; simpa using ht
          subst ha
          exact ⟨_, fun w' => by simp [execOp, resolve, evs_eq, hx, invoke, builtin, Builtin.cap_, goInt, run_und hu], hs⟩
        · cases h
      · cases h
    simp only [] at h
    split at h
    · rename_i t a n c ht hx
      split at h
      · rename_i hu
        cases h
        have ha : argTypes = #[t] := by apply Array.ext'; simpa using ht
        subst ha
        exact ⟨_, fun w' => by simp [execOp, resolve, evs_eq, hx, invoke, builtin, Builtin.len_, goInt, run_und hu], hs⟩
      · cases h
    · rename_i t s ht hx
      split at h
      · rename_i hu
        cases h
        have ha : argTypes = #[t] := by apply Array.ext'; simpa using ht
        subst ha
        exact ⟨_, fun w' => by simp [execOp, resolve, evs_eq, hx, invoke, builtin, Builtin.len_, goInt, run_und hu], hs⟩
      · cases h
    · cases h

theorem run_loadVar {t : TypeId} {sh : Sh} {n : Nat} (h : tyOf P t = some (sh, n)) {w : World} {a : Addr} {x : sh.T} (hx : ldOk w n a sh x) : (loadVar t a).run P w = .ok (sh.emb x) w := by
  unfold loadVar
  rw [Sem.run_bind, run_isAgg h w]
  cases sh
  case agg =>
    obtain ⟨hn, hc⟩ := hx
    have hl := run_loadCells_list (P := P) w a x.toList (fun j v hv => hc j v (by simpa using hv))
    have hn' : x.toList.length = n := by simpa using hn
    rw [hn'] at hl
    simp [run_sizeOf h w, hl, Sh.emb, aggB]
  all_goals (simp only [ldOk] at hx; simp [hx, Sh.emb, aggB])

theorem run_store1 {w : World} {a : Addr} {v u : Value} (h1 : oneC v = true) (hu : w.cell? a = some u) (hf : w.frozen? a = false) : (store a v).run P w = .ok () (w.setCell a v) := by
  cases v <;> first
    | (simp [oneC] at h1; done)
    | simp [store, Sem.run, hu, hf]

theorem run_storeCells (a : Addr) : ∀ (l : List Value) (i : Nat) (w : World), stOk w a l i → (storeCells a l i).run P w = .ok () (stW w a l i)
  | [], _, _, _ => rfl
  | v :: r, i, w, ⟨h1, ⟨u, hu⟩, hf, hr⟩ => by
    simp only [storeCells, Sem.run_bind, run_store1 h1 hu hf, Result.andThen_ok, stW]
    exact run_storeCells a r (i + 1) _ hr

theorem run_storeVar {t : TypeId} {sh : Sh} {n : Nat} (h : tyOf P t = some (sh, n)) {w : World} {a : Addr} {v : Value} (hn : v.cells.size = n) (hs : stOk w a v.cells.toList 0) :
    (storeVar t a v).run P w = .ok () (stW w a v.cells.toList 0) := by
  unfold storeVar
  rw [Sem.run_bind, run_sizeOf h w]
  simp [hn, run_storeCells (P := P) a _ 0 w hs]

theorem isGo_spec {g : FuncId} (h : isGo P g = true) (args : Array Value) (w : World) : (callFunc g args).run P w = .ok (.enter g args) w := by
  unfold isGo at h
  split at h
  · rename_i fn hf
    simp only [Bool.and_eq_true, bne_iff_ne, ne_eq] at h
    have hb : ¬ fn.body = none := by intro hx; simp [hx] at h
    simp [callFunc, hf, hb, h.2]
  · cases h

theorem retd {w : World} {l : List Sh} {k : TL l → World → Prop} {K : Act → World → Prop} {Q : Exit → Act → World → Prop} {a : Act} {dst : Option Tmp} {f : FuncId} {args : Array Value} {k' : Value → World → Prop}
    (hk' : ∀ x w, k x w → k' (valL (embL l x)) w)
    (h : Calls P f args w fun e w' => ∃ x, e = .returned (valL (embL l x)) ∧ k x w') (hK : ∀ v w', k' v w' → K (a.put dst v) w') :
    Calls P f args w fun | .returned v, w'' => K (a.put dst v) w'' | .panicked chain, w'' => Q (.panic chain) a w'' | .outgrown, _ => LetsOut Q :=
  h.mono fun e w' ⟨x, he, hx⟩ => by subst he; exact hK _ _ (hk' _ _ hx)

theorem upon_sem {dst : Option Tmp} {op : Op} {type : TypeId} {pos : String} {after : Array Edge} {guard : Option (Nat × Bool)} {a : Act} {K : Act → World → Prop} {Q : Exit → Act → World → Prop} {s : Sem Value} {w : World}
    {sh : Sh} {k : Value → World → Prop} (h : ∃ x w', s.run P w = .ok (sh.emb x) w' ∧ k (sh.emb x) w') (hK : ∀ v w', k v w' → K (a.put dst v) w') :
    Oper.upon P { dst, op, type, pos, after, guard } a K Q ((do pure (.value (← s)) : Sem Next).run P w) := by
  obtain ⟨x, w', hr, hk⟩ := h
  rw [Sem.run_bind, hr]
  exact hK _ _ hk

theorem wT_sound {o : Oper} {e : Env} {k : Value → World → Prop} {s : World → Prop} {w : World} {a : Act} {K : Act → World → Prop} {Q : Exit → Act → World → Prop}
    (h : wT (real P R) P o e k = s) (hs : s w) (he : a.eval = ev e) (hK : ∀ v w', k v w' → K (a.put o.dst v) w') : o.wp P a w K Q := by
  obtain ⟨dst, op, type, pos, after, guard⟩ := o
  unfold Oper.wp
  rw [he]
  simp only at hK
  cases op <;> simp only [wT] at h <;> try (subst h; exact hs.elim)
  case load t x =>
    split at h
    · rename_i q sh n hx hty
      subst h
      cases q with
      | none => exact hs.elim
      | some p =>
      obtain ⟨y, hy, hk⟩ := hs
      simp only [execOp, Instr.loadAt, Instr.sureAddr, hx, Sem.run_bind, Sem.run_pure, Result.andThen_ok, run_loadVar hty hy]
      exact hK _ _ hk
    · subst h; exact hs.elim
  case store t x y =>
    split at h
    · rename_i q sh n hx hty
      subst h
      cases q with
      | none => exact hs.elim
      | some p =>
      obtain ⟨hn, hs, hk⟩ := hs
      simp only [execOp, Instr.storeAt, Instr.sureAddr, hx, Sem.run_bind, Sem.run_pure, Result.andThen_ok, run_storeVar hty hn hs]
      exact hK _ _ hk
    · subst h; exact hs.elim
  case box t x =>
    subst h
    have := hK _ _ hs
    simp only [execOp, Instr.box, newVar, newRow, newObj, Sem.run_bind, Sem.run, Sem.run_pure, Result.andThen_ok]
    exact this
  case alloc t =>
    split at h
    · rename_i z hz
      subst h
      have := hK _ _ hs
      have hz' : (zeroValue t).run P w = .ok z w := by
        unfold zeroOf at hz
        cases hi : P.info? t with
        | none => simp [hi] at hz
        | some i =>
          have hi' : i.zero = some z := by simpa [hi] using hz
          simp [zeroValue, typeInfo, hi, hi']
      simp only [execOp, Instr.alloc, newVar, newRow, newObj, Sem.run_bind, hz', Sem.run, Sem.run_pure, Result.andThen_ok]
      exact this
    · subst h; exact hs.elim
  case buildSlice t n ps =>
    subst h
    simp only [execOp, parts_eq]
    exact upon_sem (sh := .slice) hs hK
  case makeSlice t l c =>
    subst h
    exact upon_sem (sh := .slice) hs hK
  case convert sr d x =>
    subst h
    exact upon_sem (sh := shOf P d) hs hK
  case makeMap t r =>
    subst h
    have : ((r.toList.map (ev e))[0]?) = r.map (ev e) := by cases r <;> rfl
    rw [this] at hs
    exact upon_sem (sh := .val) hs hK
  case lookup t x i ok =>
    split at h
    · subst h
      obtain ⟨y, w', hr, hk⟩ := hs
      simp only [execOp, Sem.run_bind, hr]
      exact hK _ _ hk
    · subst h; exact hs.elim
  case mapUpdate t m i y =>
    subst h
    obtain ⟨w', hr, hk⟩ := hs
    simp only [execOp, Sem.run_bind, hr]
    exact hK _ _ hk
  case insert t m i y =>
    subst h
    obtain ⟨w', hr, hk⟩ := hs
    simp only [execOp, Sem.run_bind, hr]
    exact hK _ _ hk
  case call c =>
    obtain ⟨callee, args, argTypes⟩ := c
    cases callee with
    | invoke r m => subst h; exact hs.elim
    | builtin b =>
      have hb : ∀ (bb : Builtin) (sm : Sem Value), (∀ (c : Array Bool), builtin bb argTypes type c (evs e args).toArray = (do pure (.value (← sm)) : Sem Next)) →
          (execOp (ev e) { dst := dst, op := .call { callee := .builtin bb, args := args, argTypes := argTypes }, type := type, pos := pos, after := after, guard := guard }).run P w = ((do pure (.value (← sm)) : Sem Next)).run P w := by
        intro bb sm hsm
        simp only [execOp, resolve, evs_eq, invoke, Sem.run_bind, Sem.run_pure, Result.andThen_ok, hsm]
      cases b <;> try (subst h; exact hs.elim)
      case append => subst h; rw [hb .append _ (fun _ => rfl)]; exact upon_sem (sh := .slice) hs hK
      case clear => subst h; rw [hb .clear _ (fun _ => rfl)]; exact upon_sem (sh := .val) hs hK
      case copy => subst h; rw [hb .copy _ (fun _ => rfl)]; exact upon_sem (sh := .int .i64) hs hK
      case len => subst h; rw [hb .len _ (fun _ => rfl)]; exact upon_sem (sh := .int .i64) hs hK
      case min => subst h; rw [hb .min _ (fun _ => rfl)]; exact upon_sem (sh := shOf P type) hs hK
      case max => subst h; rw [hb .max _ (fun _ => rfl)]; exact upon_sem (sh := shOf P type) hs hK
    | value f =>
      simp only [] at h
      split at h
      · rename_i g
        cases hg : isGo P g with
        | false =>
          rw [hg] at h
          subst h
          obtain ⟨y, w', hr, hk⟩ := hs
          have hx : (execOp (ev e) { dst := dst, op := .call { callee := .value (.func g), args := args, argTypes := argTypes }, type := type, pos := pos, after := after, guard := guard }).run P w = .ok (.value (valL (embL _ y))) w' := by
            simp [execOp, resolve, evs_eq, ev, Deferred.ofValue, invoke, hr]
          rw [hx]
          exact hK _ _ hk
        | true =>
          rw [hg] at h
          subst h
          have hx : (execOp (ev e) { dst := dst, op := .call { callee := .value (.func g), args := args, argTypes := argTypes }, type := type, pos := pos, after := after, guard := guard }).run P w = .ok (.enter g (evs e args).toArray) w := by
            simp [execOp, resolve, evs_eq, ev, Deferred.ofValue, invoke, isGo_spec hg]
          rw [hx]
          exact retd (k' := k) (fun _ _ h => h) hs hK
      · subst h
        obtain ⟨g, fs, cs, hf, hg, hc⟩ := hs
        have hx : (execOp (ev e) { dst := dst, op := .call { callee := .value f, args := args, argTypes := argTypes }, type := type, pos := pos, after := after, guard := guard }).run P w = .ok (.enter g (fs.toList ++ evs e args ++ cs.toList).toArray) w := by
          have ha : (fs.toList ++ evs e args ++ cs.toList).toArray = fs ++ (evs e args).toArray ++ cs := by apply Array.ext'; simp
          rw [ha]
          simp only [execOp, resolve, evs_eq, hf, Deferred.ofValue, Sem.run_bind, Sem.run_pure, Result.andThen_ok, invoke, isGo_spec hg]
        rw [hx]
        exact retd (k' := k) (fun _ _ h => h) hc hK

end Go.Sx
