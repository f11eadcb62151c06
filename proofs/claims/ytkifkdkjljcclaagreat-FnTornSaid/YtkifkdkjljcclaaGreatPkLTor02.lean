/- The soundness of T on regions, on code and on whole functions. -/
import Derived.Test.YtkifkdkjljcclaaGreatPkLTor01
namespace Go.Sx
variable {P : Program} {R : Value → World → Prop}

def Rep (e : Env) (a : Act) : Prop := a.eval = ev e ∧ a.defers = []

structure Ok (ds : List Nat) (a a' : Act) : Prop where
  size : a'.tmps.size = a.tmps.size
  same : ∀ t, t ∉ ds → a'.tmps[t]? = a.tmps[t]?

theorem Ok.refl (ds : List Nat) (a : Act) : Ok ds a a := ⟨rfl, fun _ _ => rfl⟩
theorem Ok.trans {ds : List Nat} {a b c : Act} (h : Ok ds a b) (k : Ok ds b c) : Ok ds a c := ⟨k.size.trans h.size, fun t ht => (k.same t ht).trans (h.same t ht)⟩
theorem Ok.mono {ds ds' : List Nat} {a b : Act} (h : Ok ds a b) (hd : ∀ d ∈ ds, d ∈ ds') : Ok ds' a b := ⟨h.size, fun t ht => h.same t (fun h' => ht (hd t h'))⟩
theorem Ok.put {ds : List Nat} {a b : Act} (h : Ok ds a b) {dst : Option Tmp} (hd : ∀ d, dst = some d → d ∈ ds) (v : Value) : Ok ds a (b.put dst v) := by
  cases dst with
  | none => exact h
  | some d =>
    refine ⟨by simpa [Act.put] using h.size, fun t ht => ?_⟩
    have hne : d ≠ t := fun e => ht (e ▸ hd d rfl)
    simpa [Act.put, Array.getElem?_setIfInBounds_ne hne] using h.same t ht

def Fits (ds : List Nat) (a : Act) : Prop := ∀ d ∈ ds, d < a.tmps.size
theorem Fits.ok {ds ds' : List Nat} {a b : Act} (h : Fits ds a) (k : Ok ds' a b) : Fits ds b := fun d hd => by rw [k.size]; exact h d hd

theorem Rep.set {e : Env} {a : Act} (h : Rep e a) {dst : Option Tmp} (hd : ∀ d, dst = some d → d < a.tmps.size) (v : Value) : Rep (e.set dst v) (a.put dst v) := by
  cases dst with
  | none => exact h
  | some d =>
    refine ⟨funext fun x => ?_, h.2⟩
    have hx := congrFun h.1 x
    cases x with
    | tmp t =>
      simp only [Act.eval, ev, Env.set, Env.get, Act.put] at hx ⊢
      by_cases hdt : d = t
      · subst hdt
        simp [hd d rfl]
      · have : Nat.beq d t = false := by rw [Bool.eq_false_iff]; exact fun h => hdt (Nat.eq_of_beq_eq_true h)
        simp only [this, cond_false]
        rw [← hx]
        simp [Array.getElem?_setIfInBounds_ne hdt]
    | const v => rfl
    | global g => rfl
    | func f => rfl

theorem Rep.same {e : Env} {a : Act} (h : Rep e a) {d : Nat} {v : Value} (hv : e.get d = v) : Rep (.put d v e) a := by
  refine ⟨funext fun x => ?_, h.2⟩
  have hx := congrFun h.1 x
  rw [hx]
  cases x with
  | tmp t =>
    simp only [ev, Env.get]
    by_cases hdt : d = t
    · subst hdt
      simp [hv]
    · have : Nat.beq d t = false := by rw [Bool.eq_false_iff]; exact fun h => hdt (Nat.eq_of_beq_eq_true h)
      simp [this]
  | const v => rfl
  | global g => rfl
  | func f => rfl

theorem Rep.yielded {e : Env} {a : Act} (h : Rep e a) {ops : Array Oper} {j d : Nat} {b : Bool} (hd : (ops.toList[j]?).bind (·.dst) = some d) (hb : e.get d = .bool b) : Go.yielded ops a.tmps j = some b := by
  have hx := congrFun h.1 (.tmp d)
  simp only [Act.eval, ev, hb] at hx
  have ht : a.tmps[d]? = some (.bool b) := by
    rw [Array.getD_eq_getD_getElem?] at hx
    cases hq : a.tmps[d]? with
    | none => rw [hq] at hx; cases hx
    | some u => rw [hq] at hx; simpa using hx
  have hd' : (ops[j]?).bind (·.dst) = some d := by simpa using hd
  unfold Go.yielded
  rw [hd']
  simp [ht]

theorem wanted_some {o : Oper} {j : Nat} {want b : Bool} (hg : o.guard = some (j, want)) {y : Nat → Option Bool} (hy : y j = some b) : Region.wanted o y = (b == want) := by
  unfold Region.wanted
  rw [hg]
  simp only [hy]
  cases b <;> cases want <;> rfl

theorem Rep.yieldedN {e : Env} {a : Act} (h : Rep e a) {ops : Array Oper} {j d : Nat} {x : Array Value} (hd : (ops.toList[j]?).bind (·.dst) = some d) (hb : e.get d = .tuple x) : Go.yielded ops a.tmps j = none := by
  have hx := congrFun h.1 (.tmp d)
  simp only [Act.eval, ev, hb] at hx
  have hd' : (ops[j]?).bind (·.dst) = some d := by simpa using hd
  unfold Go.yielded
  rw [hd']
  rw [Array.getD_eq_getD_getElem?] at hx
  cases hq : a.tmps[d]? with
  | none => simp [hq]
  | some u =>
    rw [hq] at hx
    have hu : u = .tuple x := by simpa using hx
    subst hu
    simp [hq]
theorem wanted_none {o : Oper} {j : Nat} {want : Bool} (hg : o.guard = some (j, want)) {y : Nat → Option Bool} (hy : y j = none) : Region.wanted o y = false := by
  unfold Region.wanted
  rw [hg]
  simp [hy]

theorem gpT_sound {ops : Array Oper} {o : Oper} {e : Env} {k : Env → World → Prop} {w : World} {a : Act} (h : (gpT (real P R) P ops o e k : World → Prop) w) (hr : Rep e a) (hd : ∀ d, o.dst = some d → d < a.tmps.size) :
    ∃ v e', Yields P ops o v a ∧ Rep e' (a.put o.dst v) ∧ k e' w := by
  unfold gpT at h
  have hp : ∀ e', Rep e' a → Region.wanted o (yielded ops a.tmps) = true → (orF (real P R) (pT (real P R) P o e' (fun v => k (e'.set o.dst v))) : World → Prop) w →
      ∃ v e', Yields P ops o v a ∧ Rep e' (a.put o.dst v) ∧ k e' w := by
    intro e' hr' hw h'
    cases hq : pT (real P R) P o e' (fun v => k (e'.set o.dst v)) with
    | none => rw [hq] at h'; exact h'.elim
    | some s =>
      rw [hq] at h'
      obtain ⟨v, hv, hk⟩ := pT_sound hq h'
      exact ⟨v, _, .inl ⟨hw, fun w => by rw [hr'.1]; exact hv w⟩, hr'.set hd v, hk⟩
  have hu : ∀ e', Rep e' a → Region.wanted o (yielded ops a.tmps) = false → k (e'.set o.dst undef) w → ∃ v e', Yields P ops o v a ∧ Rep e' (a.put o.dst v) ∧ k e' w :=
    fun e' hr' hw h' => ⟨undef, _, .inr ⟨hw, rfl⟩, hr'.set hd undef, h'⟩
  cases hg : o.guard with
  | none =>
    simp only [hg] at h
    exact hp e hr (by simp [Region.wanted, hg]) h
  | some gw =>
    obtain ⟨j, want⟩ := gw
    simp only [hg] at h
    cases hd' : (ops.toList[j]?).bind (·.dst) with
    | none => simp only [hd'] at h; exact h.elim
    | some d =>
      simp only [hd'] at h
      cases hb : e.get d with
      | bool b =>
        simp only [hb] at h
        have hw := wanted_some hg (hr.yielded hd' hb)
        cases b <;> cases want
        · exact hp _ (hr.same hb) hw h
        · exact hu _ (hr.same hb) hw h
        · exact hu _ (hr.same hb) hw h
        · exact hp _ (hr.same hb) hw h
      | tuple x =>
        simp only [hb] at h
        exact hu _ hr (wanted_none hg (hr.yieldedN hd' hb)) h
      | _ => simp only [hb] at h; exact h.elim

theorem opT_sound {o : Oper} {e : Env} {k : Value → World → Prop} {s : World → Prop} {w : World} {a : Act} {K : Act → World → Prop} {Q : Exit → Act → World → Prop}
    (h : opT (real P R) P o e k = s) (hs : s w) (he : a.eval = ev e) (hK : ∀ v w', k v w' → K (a.put o.dst v) w') : o.wp P a w K Q := by
  unfold opT at h
  split at h
  · rename_i s' hp
    subst h
    obtain ⟨v, hr, hk⟩ := pT_sound hp hs
    unfold Oper.wp
    rw [he, hr w]
    exact hK _ _ hk
  · exact wT_sound h hs he hK

theorem gT_any {C : Comb} (ap : C.St → World → Prop) (hfail : ∀ w, ¬ ap C.fail w)
    {ops : Array Oper} {o : Oper} {e : Env} {k : Env → C.St} {w : World} {a : Act} {W U : Prop} {N : Value → World → Prop}
    (h : ap (gT C P ops o e k) w) (hr : Rep e a) (hd : ∀ d, o.dst = some d → d < a.tmps.size)
    (hopt : ∀ e' k', a.eval = ev e' → ap (opT C P o e' k') w → (∀ v w', ap (k' v) w' → N v w') → W)
    (hN : ∀ e' v w', ap (k e') w' → Rep e' (a.put o.dst v) → N v w') (hU : N undef w → U) :
    if Region.wanted o (yielded ops a.tmps) then W else U := by
  unfold gT at h
  have hp : ∀ e', Rep e' a → ap (opT C P o e' fun v => k (e'.set o.dst v)) w → W := fun e' hr' h' =>
    hopt e' _ hr'.1 h' fun v w' hk => hN _ v w' hk (hr'.set hd v)
  have hu : ∀ e', Rep e' a → ap (k (e'.set o.dst undef)) w → U := fun e' hr' h' => hU (hN _ undef w h' (hr'.set hd undef))
  cases hg : o.guard with
  | none =>
    simp only [hg] at h
    rw [if_pos (by simp [Region.wanted, hg])]
    exact hp e hr h
  | some gw =>
    obtain ⟨j, want⟩ := gw
    simp only [hg] at h
    cases hd' : (ops.toList[j]?).bind (·.dst) with
    | none => simp only [hd'] at h; exact (hfail _ h).elim
    | some d =>
      simp only [hd'] at h
      split at h
      · rename_i b hb
        rw [wanted_some hg (hr.yielded hd' hb)]
        cases b <;> cases want
        · exact hp _ (hr.same hb) h
        · exact hu _ (hr.same hb) h
        · exact hu _ (hr.same hb) h
        · exact hp _ (hr.same hb) h
      · rename_i x hb
        rw [if_neg (by rw [wanted_none hg (hr.yieldedN hd' hb)]; simp)]
        exact hu _ hr h
      · exact (hfail _ h).elim

theorem opsT_sound {ops : Array Oper} {K : Env → World → Prop} {ds : List Nat} {a0 : Act} {Qr : Exit → Act → World → Prop} (hf : Fits ds a0)
    (hQ : ∀ e a w, K e w → Rep e a → Ok ds a0 a → Qr .normal a w) : ∀ (l : List Oper) (e : Env) (a : Act) (w : World), (∀ o ∈ l, ∀ d, o.dst = some d → d ∈ ds) →
    (opsT (real P R) P ops K l e : World → Prop) w → Rep e a → Ok ds a0 a → wpList P ops Qr l a w
  | [], e, a, w, _, h, hr, hok => hQ e a w h hr hok
  | o :: r, e, a, w, hl, h, hr, hok => by
    have hdo := hl o (by simp)
    unfold wpList
    have := gT_any (P := P) (C := real P R) (fun s w => s w) (fun _ h => h) (W := o.wp P a w (wpList P ops Qr r) Qr) (U := wpList P ops Qr r (a.put o.dst undef) w)
      (N := fun v w' => wpList P ops Qr r (a.put o.dst v) w') h hr (fun d hd => (hf.ok hok) d (hdo d hd)) (fun e' k' he h' hk => opT_sound rfl h' he hk)
      (fun e' v w' hk hr' => opsT_sound hf hQ r e' _ w' (fun o ho => hl o (by simp [ho])) hk hr' (hok.put hdo v)) (fun h => h)
    by_cases hw : Region.wanted o (yielded ops a.tmps) = true
    · rw [if_pos hw] at this ⊢; exact .inl this
    · rw [if_neg hw] at this ⊢; exact this

theorem pT_q (o : Oper) (e : Env) (k : Value → World → Prop) : pT (real P R).q P o e k = pT (real P R) P o e k := rfl

theorem optQ_sound {o : Oper} {e : Env} {k : Value → World → Prop} {w : World} {a : Act} {K : Act → Prop}
    (h : (opT (real P R).q P o e k : World → Prop) w) (he : a.eval = ev e) (hK : ∀ v, k v w → K (a.put o.dst v)) : o.still P a w K := by
  generalize hs0 : opT (real P R).q P o e k = s0 at h
  unfold opT at hs0
  rw [pT_q] at hs0
  unfold Oper.still
  rw [he]
  split at hs0
  · rename_i s' hp
    subst hs0
    obtain ⟨v, hr, hk⟩ := pT_sound hp h
    rw [hr w]
    exact ⟨rfl, hK _ hk⟩
  · rename_i hs1
    clear hs1
    have hs : wT (real P R).q P o e k = s0 := hs0
    clear hs0
    obtain ⟨dst, op, type, pos, after, guard⟩ := o
    simp only at hK
    cases op <;> simp only [wT] at hs <;> try (subst hs; exact h.elim)
    case load t x =>
      split at hs
      · rename_i q sh n hx hty
        subst hs
        cases q with
        | none => exact h.elim
        | some p =>
        obtain ⟨y, hy, hk⟩ := h
        simp only [execOp, Instr.loadAt, Instr.sureAddr, hx, Sem.run_bind, Sem.run_pure, Result.andThen_ok, run_loadVar hty hy]
        exact ⟨rfl, hK _ hk⟩
      · subst hs; exact h.elim
    case store t x y =>
      split at hs
      · rename_i q sh n hx hty
        subst hs
        cases q <;> exact h.elim
      · subst hs; exact h.elim
    case lookup t x i ok => split at hs <;> (subst hs; exact h.elim)
    case alloc t => split at hs <;> (subst hs; exact h.elim)
    case call c =>
      obtain ⟨callee, args, argTypes⟩ := c
      cases callee with
      | invoke r m => subst hs; exact h.elim
      | builtin b => cases b <;> (subst hs; exact h.elim)
      | value f =>
        simp only [] at hs
        split at hs
        · rename_i g
          cases hg : isGo P g with
          | false => rw [hg] at hs; subst hs; exact h.elim
          | true =>
            rw [hg] at hs
            subst hs
            obtain ⟨x, hc, hk⟩ := h
            have hx : (execOp (ev e) { dst := dst, op := .call { callee := .value (.func g), args := args, argTypes := argTypes }, type := type, pos := pos, after := after, guard := guard }).run P w = .ok (.enter g (evs e args).toArray) w := by
              simp [execOp, resolve, evs_eq, ev, Deferred.ofValue, invoke, isGo_spec hg]
            rw [hx]
            exact ⟨rfl, _, hc, hK _ hk⟩
        · subst hs; exact h.elim

theorem opsQ_sound {ops : Array Oper} {K : Env → World → Prop} {ds : List Nat} {a0 : Act} {w : World} {Qr : Act → Prop} (hf : Fits ds a0)
    (hQ : ∀ e a, K e w → Rep e a → Ok ds a0 a → Qr a) : ∀ (l : List Oper) (e : Env) (a : Act), (∀ o ∈ l, ∀ d, o.dst = some d → d ∈ ds) →
    (opsT (real P R).q P ops K l e : World → Prop) w → Rep e a → Ok ds a0 a → wpStill P ops w Qr l a
  | [], e, a, _, h, hr, hok => hQ e a h hr hok
  | o :: r, e, a, hl, h, hr, hok => by
    have hdo := hl o (by simp)
    unfold wpStill
    exact gT_any (P := P) (C := (real P R).q) (fun s w => s w) (fun _ h => h) (W := o.still P a w (wpStill P ops w Qr r)) (U := wpStill P ops w Qr r (a.put o.dst undef))
      (N := fun v w' => w' = w → wpStill P ops w Qr r (a.put o.dst v)) h hr (fun d hd => (hf.ok hok) d (hdo d hd)) (fun e' k' he h' hk => optQ_sound h' he (fun v hv => hk v w hv rfl))
      (fun e' v w' hk hr' hw => opsQ_sound hf hQ r e' _ (fun o ho => hl o (by simp [ho])) (hw ▸ hk) hr' (hok.put hdo v)) (fun h => h rfl)

theorem all_mem {l : List (World → Prop)} {w : World} (h : allR l w) : ∀ s ∈ l, s w := by
  induction l with
  | nil => simp
  | cons s r ih =>
    cases r with
    | nil => intro x hx; simp at hx; subst hx; exact h
    | cons t r =>
      intro x hx
      cases hx with
      | head => exact h.1
      | tail _ hx => exact ih h.2 x hx

theorem allT_spec {l : List (World → Prop)} {w : World} (h : (allT (real P R) l : World → Prop) w) : allR l w := by
  match l with
  | [] => exact h
  | [s] => exact h
  | s :: t :: r => exact h

def GivesR (P : Program) (w : World) (v : Value) : Result Next → Prop
  | .ok (.value u) w' => w' = w ∧ u = v
  | .ok (.enter f args) w' => w' = w ∧ Calls P f args w (fun e w'' => e = .returned v ∧ w'' = w)
  | _ => False

section
variable {S : World → Prop} {ops : Array Oper} {Q : Exit → Act → World → Prop}

def Gives (P : Program) (ops : Array Oper) (S : World → Prop) (o : Oper) (v : Value) (a : Act) : Prop :=
  (Region.wanted o (yielded ops a.tmps) = true ∧ ∀ w, S w → GivesR P w v ((execOp a.eval o).run P w)) ∨ (Region.wanted o (yielded ops a.tmps) = false ∧ v = undef)

theorem Gives.of_yields {o : Oper} {v : Value} {a : Act} (h : Yields P ops o v a) : Gives P ops S o v a :=
  h.imp (fun ⟨hw, hv⟩ => ⟨hw, fun w _ => by rw [hv w]; exact ⟨rfl, rfl⟩⟩) id

theorem Gives.same {o : Oper} {v : Value} {a a' : Act} (h : Gives P ops S o v a) (he : execOp a'.eval o = execOp a.eval o) (hw : Region.wanted o (yielded ops a'.tmps) = Region.wanted o (yielded ops a.tmps)) : Gives P ops S o v a' := by
  unfold Gives; rw [he, hw]; exact h

theorem Gives.wpOp {i : Nat} {o : Oper} {v : Value} {a : Act} (hi : ops[i]? = some o) (hy : Gives P ops S o v a) {K : Act → World → Prop} {w : World} (hS : S w) (h : K (a.put o.dst v) w) : wpOp P ops Q i K a w := by
  unfold Go.wpOp
  simp only [hi]
  rcases hy with ⟨hw, hv⟩ | ⟨hw, rfl⟩
  · rw [if_pos hw]
    refine .inl ?_
    have := hv w hS
    unfold Oper.wp
    generalize (execOp a.eval o).run P w = r at this
    cases r with
    | halt x w' => exact this.elim
    | ok n w' =>
      cases n <;> first
        | exact this.elim
        | (obtain ⟨rfl, rfl⟩ := this; exact h)
        | (obtain ⟨rfl, hc⟩ := this; exact hc.mono fun e w'' ⟨he, hw⟩ => by subst he; subst hw; exact h)
  · simp only [hw, Bool.false_eq_true, if_false]; exact h

theorem wpOp_past {j : Nat} {oi oj : Oper} {v : Value} (hj : ops[j]? = some oj) (hap : oi.apart ops oj = true) (hsi : ∀ cs b, oi.op ≠ .select cs b) (hsj : ∀ cs b, oj.op ≠ .select cs b)
    (hQ : ∀ c a w, ¬ Q (.panic c) a w) {K : Act → World → Prop} {a : Act} {w : World} (hy : Gives P ops S oi v a) (h : wpOp P ops Q j K (a.put oi.dst v) w) :
    wpOp P ops Q j (fun a' w' => Gives P ops S oi v a' ∧ K (a'.put oi.dst v) w') a w := by
  obtain ⟨h1, h2, h3⟩ := Oper.apart_spec hap
  have kept : ∀ (b : Act), Gives P ops S oi v b → ∀ u, Gives P ops S oi v (b.put oj.dst u) := fun b hb u => hb.same (execOp_put oi hsi b oj.dst u h3) (wanted_put oi b oj.dst u h3)
  have kd : ∀ d, Gives P ops S oi v { a with defers := d :: a.defers } := fun d => hy.same rfl rfl
  unfold Go.wpOp at h ⊢
  simp only [hj] at h ⊢
  rw [wanted_put oj a oi.dst v h1] at h
  by_cases hw : Region.wanted oj (yielded ops a.tmps) = true
  · rw [if_pos hw] at h ⊢
    rcases h with h | ⟨has, hl⟩
    · refine .inl ?_
      unfold Oper.wp at h ⊢
      rw [execOp_put oj hsj a oi.dst v h1] at h
      generalize (execOp a.eval oj).run P w = r at h ⊢
      cases r with
      | halt x w' => cases x <;> first | exact (hQ _ _ _ h).elim | exact h.elim
      | ok n w' =>
        cases n
        case value u => exact ⟨kept a hy u, by rw [← Act.put_comm a v u h2]; exact h⟩
        case skip => exact ⟨kept a hy _, by rw [← Act.put_comm a v undef h2]; exact h⟩
        case defer d => exact ⟨kept _ (kd d) _, by rw [← Act.put_comm _ v undef h2, ← Act.put_defers]; exact h⟩
        case enter f args =>
          refine Calls.mono h fun e w'' he => ?_
          cases e with
          | returned u => exact ⟨kept a hy u, by rw [← Act.put_comm a v u h2]; exact he⟩
          | panicked c => exact (hQ _ _ _ he).elim
          | outgrown => exact he
        case row rw' args => exact Rows.mono h fun u w'' he => ⟨kept a hy u, by rw [← Act.put_comm a v u h2]; exact he⟩
        all_goals exact h.elim
    · exact .inr ⟨by unfold Oper.asks at has ⊢; rw [execOp_put oj hsj a oi.dst v h1] at has; exact has, hl⟩
  · rw [if_neg hw] at h ⊢
    exact ⟨kept a hy _, by rw [← Act.put_comm a v undef h2]; exact h⟩

def wpAnyD (P : Program) (ops : Array Oper) (Q : Exit → Act → World → Prop) (S : List Nat → World → Prop) : Nat → Array Bool → List Nat → Act → World → Prop
  | 0, listed, _, a, w => Region.ready .any ops listed = [] ∧ Q .normal a w
  | fuel + 1, listed, E, a, w => (Region.ready .any ops listed = [] → Q .normal a w) ∧
    ∀ i ∈ Region.ready .any ops listed, wpOp P ops Q i (fun a' w' => S (i :: E) w' ∧ wpAnyD P ops Q S fuel (listed.setIfInBounds i true) (i :: E) a' w') a w

theorem wpAny_of_D {SD : List Nat → World → Prop} : ∀ (fuel : Nat) (listed : Array Bool) (E : List Nat) (a : Act) (w : World), wpAnyD P ops Q SD fuel listed E a w → wpAny P .any ops Q fuel listed a w
  | 0, _, _, _, _, h => h
  | fuel + 1, _, _, _, _, h => ⟨h.1, fun i hi => wpOp_mono (fun a' w' h' => wpAny_of_D fuel _ _ a' w' h'.2) (h.2 i hi)⟩

theorem wpAnyD_weaken {Sv Sr : List Nat → World → Prop} (hA : ∀ E E2 w, (∀ k ∈ E, k ∈ E2) → Sv E w → Sr E2 w) : ∀ (fuel : Nat) (listed : Array Bool) (E E2 : List Nat) (a : Act) (w : World), (∀ k ∈ E, k ∈ E2) →
    wpAnyD P ops Q Sv fuel listed E a w → wpAnyD P ops Q Sr fuel listed E2 a w
  | 0, _, _, _, _, _, _, h => h
  | fuel + 1, _, E, E2, _, _, hE, h => ⟨h.1, fun i hi => wpOp_mono (fun a' w' h' =>
      have hE' : ∀ k ∈ i :: E, k ∈ i :: E2 := fun k hk => by
        cases hk with
        | head => exact .head _
        | tail _ hk => exact .tail _ (hE k hk)
      ⟨hA _ _ _ hE' h'.1, wpAnyD_weaken hA fuel _ _ _ a' w' hE' h'.2⟩) (h.2 i hi)⟩

theorem wpAnyD_take {F : World → Prop} {Sv Sr : List Nat → World → Prop} {i : Nat} {oi : Oper} {v : Value} (hi : ops[i]? = some oi) (hsel : Region.noSelect ops = true) (hQ : ∀ c a w, ¬ Q (.panic c) a w)
    (hA : ∀ E E2 w, (∀ k ∈ E, k ∈ E2) → Sv E w → Sr E2 w) (h2 : ∀ E w', (∀ k ∈ E, indep ops k i = true) → Sv E w' → F w') (h3 : ∀ E E2 w, (∀ k ∈ E, k ∈ E2) → Sr E w → Sr E2 w) :
    ∀ (fuel : Nat) (listed : Array Bool) (E : List Nat) (a : Act) (w : World), (∀ k ∈ E, indep ops k i = true) →
      (∀ j oj, ops[j]? = some oj → j ≠ i → listed.getD j true = false → (∀ e ∈ oj.after, Region.binds .any e = true → e.on ≠ i) → oi.apart ops oj = true) →
      i ∈ Region.ready .any ops listed → Gives P ops F oi v a → F w → Sr E w → wpAnyD P ops Q Sv fuel (listed.setIfInBounds i true) E (a.put oi.dst v) w → wpAnyD P ops Q Sr (fuel + 1) listed E a w
  | fuel, listed, E, a, w, hE, hfree, hr, hy, hF, hS, H => by
    refine ⟨fun h0 => (by rw [h0] at hr; cases hr), fun j hj => ?_⟩
    by_cases hji : j = i
    · subst hji; exact hy.wpOp hi hF ⟨h3 _ _ _ (fun k hk => .tail _ hk) hS, wpAnyD_weaken hA _ _ _ _ _ _ (fun k hk => .tail _ hk) H⟩
    · have hj' := ready_mono hj hji
      obtain ⟨hjun, oj, hoj, hall⟩ := mem_ready.1 hj
      have hnot : ∀ e ∈ oj.after, Region.binds .any e = true → e.on ≠ i := fun e he hb heq => by
        have h1 := hall e he hb
        have h0 := (mem_ready.1 hr).1
        rw [heq] at h1
        rcases Nat.lt_or_ge i listed.size with h' | h'
        · simp [h'] at h0 h1; rw [h0] at h1; cases h1
        · simp [Array.getElem?_eq_none h'] at h1
      have hin : indep ops j i = true := by
        unfold indep
        have : ops.toList[j]? = some oj := by simpa using hoj
        rw [this]
        simp only [Bool.not_eq_true', List.any_eq_false, Bool.and_eq_true, not_and]
        intro e he hb hbeq
        exact hnot e (by simpa using he) hb (Nat.eq_of_beq_eq_true hbeq)
      have hE' : ∀ k ∈ j :: E, indep ops k i = true := fun k hk => by cases hk with | head => exact hin | tail _ hk => exact hE k hk
      have hap := hfree j oj hoj hji hjun hnot
      match fuel with
      | 0 => rw [H.1] at hj'; cases hj'
      | fuel + 1 =>
        refine wpOp_mono (fun a' w' h3' => ⟨hA _ _ _ (fun _ h => h) h3'.2.1, wpAnyD_take hi hsel hQ hA h2 h3 fuel (listed.setIfInBounds j true) (j :: E) a' w' hE' ?_ (ready_mono hr (Ne.symm hji)) h3'.1 (h2 _ _ hE' h3'.2.1) (hA _ _ _ (fun _ h => h) h3'.2.1) ?_⟩)
          (wpOp_past hoj hap (fun cs b => Region.noSelect_spec hsel i oi cs b hi) (fun cs b => Region.noSelect_spec hsel j oj cs b hoj) hQ hy (H.2 j hj'))
        · intro k ok hk hki hun hno
          refine hfree k ok hk hki ?_ hno
          by_cases hjk : j = k
          · subst hjk; exact hjun
          · rw [getD_set_ne true hjk] at hun; exact hun
        · rw [Array.setIfInBounds_comm _ _ hji]; exact h3'.2.2
end

def SH (ops : Array Oper) (H : List Held) (E : List Nat) (w : World) : Prop := ∀ h ∈ H, (∀ k ∈ E, indep ops k h.op = true) → ldOk w h.n h.p h.sh h.x

theorem chkT_spec {H : List Held} {s : World → Prop} {w : World} (h : (chkT (real P R) H s : World → Prop) w) : (∀ h ∈ H, ldOk w h.n h.p h.sh h.x) ∧ s w := by
  cases H with
  | nil => exact ⟨fun _ h => (by cases h), h⟩
  | cons x r => exact h

theorem firstOf_load {pure : List FuncId} {o : Oper} {t : TypeId} {x : Operand} (hfo : firstOf P pure o = .load t x) : o.op = .load t x ∧ o.guard = none := by
  unfold firstOf at hfo
  cases hw : wless P o.op with
  | true => simp [hw] at hfo
  | false =>
    simp only [hw, cond_false] at hfo
    cases hg : o.guard with
    | some g => simp [hg] at hfo
    | none =>
      simp only [hg] at hfo
      split at hfo
      · rename_i heq; cases hfo; exact ⟨heq, rfl⟩
      · rename_i f' args' _ heq; cases hq : pure.any (fun k => Nat.beq k f') <;> simp [hq] at hfo
      · cases hfo

theorem firstOf_call {pure : List FuncId} {o : Oper} {f : FuncId} {args : Array Operand} (hfo : firstOf P pure o = .call f args) : (∃ at', o.op = .call { callee := .value (.func f), args := args, argTypes := at' }) ∧ o.guard = none := by
  unfold firstOf at hfo
  cases hw : wless P o.op with
  | true => simp [hw] at hfo
  | false =>
    simp only [hw, cond_false] at hfo
    cases hg : o.guard with
    | some g => simp [hg] at hfo
    | none =>
      simp only [hg] at hfo
      split at hfo
      · cases hfo
      · rename_i f' args' at' heq
        cases hq : pure.any (fun k => Nat.beq k f') with
        | false => simp [hq] at hfo
        | true => simp only [hq, cond_true] at hfo; cases hfo; exact ⟨⟨_, heq⟩, rfl⟩
      · cases hfo

theorem anyT_sound {ops : Array Oper} {pure : List FuncId} {K : Env → World → Prop} {ds : List Nat} {a0 : Act} {N : Act → World → Prop} (hf : Fits ds a0) (hsel : Region.noSelect ops = true)
    (hds : ∀ (i : Nat) (o : Oper), ops.toList[i]? = some o → ∀ d, o.dst = some d → d ∈ ds)
    (hQ : ∀ e a w, K e w → Rep e a → Ok ds a0 a → N a w) : ∀ (fuel : Nat) (listed : Array Bool) (E : List Nat) (H : List Held) (e : Env) (a : Act) (s : World → Prop) (w : World),
    anyT (real P R) P pure ops K fuel listed E H e = s → s w → SH ops H E w → Rep e a → Ok ds a0 a →
    wpAnyD P ops (fun ex a w => match ex with | .normal => N a w | _ => False) (SH ops H) fuel listed E a w
  | 0, listed, E, H, e, a, s, w, h, hs, hS, hr, hok => by
    simp only [anyT] at h
    cases h0 : Region.ready .any ops listed with
    | nil => simp only [h0] at h; subst h; exact ⟨h0, hQ e a w hs hr hok⟩
    | cons i is => simp only [h0] at h; subst h; exact hs.elim
  | fuel + 1, listed, E, H, e, a, s, w, h, hs, hS, hr, hok => by
    have anti : ∀ (H : List Held) E E2 w, (∀ k ∈ E, k ∈ E2) → SH ops H E w → SH ops H E2 w := fun H E E2 w hE h x hx hk => h x hx (fun k hk' => hk k (hE k hk'))
    simp only [anyT] at h
    split at h
    · rename_i h0
      subst h
      exact ⟨fun _ => hQ e a w hs hr hok, by rw [h0]; simp⟩
    · rename_i i0 is0 hready
      split at h
      · rename_i i hfind
        have hfi := List.find?_some hfind
        have hmem := List.mem_of_find?_eq_some hfind
        simp only [Bool.and_eq_true, List.all_eq_true] at hfi
        have hmem' : i ∈ Region.ready .any ops listed := by rw [hready]; exact hmem
        split at h
        · rename_i o ho
          have hoi : ops[i]? = some o := by simpa using ho
          have hb := fun d hd => (hf.ok hok) d (hds i o ho d hd)
          split at h
          · subst h
            obtain ⟨v, e', hy, hr', hk⟩ := gpT_sound hs hr hb
            exact wpAnyD_take (F := fun _ => True) hoi hsel (fun _ _ _ h => h) (anti H) (fun _ _ _ _ => trivial) (anti H) fuel listed E a w hfi.2 (Region.free_spec hoi hfi.1.2) hmem' (.of_yields hy) trivial hS
              (anyT_sound hf hsel hds hQ fuel _ E H _ _ _ w rfl hk hS hr' (hok.put (hds i o ho) v))
          · rename_i t x hfo
            split at h
            · rename_i q sh n hx hty
              subst h
              cases q with
              | none => exact hs.elim
              | some p =>
              obtain ⟨y, hy, hk⟩ := hs
              have hop := firstOf_load hfo
              have hS' : SH ops (⟨i, n, p, sh, y⟩ :: H) E w := fun h' hh hk => by cases hh with | head => exact hy | tail _ hh => exact hS h' hh hk
              refine wpAnyD_take (F := fun w' => ldOk w' n p sh y) (Sv := SH ops (⟨i, n, p, sh, y⟩ :: H)) (v := sh.emb y) hoi hsel (fun _ _ _ h => h) (fun E E2 w hE h => anti H E E2 w hE (fun x hx => h x (by simp [hx])))
                (fun E w' hk h => h ⟨i, n, p, sh, y⟩ (by simp) hk) (anti H) fuel listed E a w hfi.2 (Region.free_spec hoi hfi.1.2) hmem' (.inl ⟨by simp [Region.wanted, hop.2], fun w' hw' => ?_⟩) hy hS ?_
              · rw [hr.1]
                simp only [execOp, hop.1, Instr.loadAt, Instr.sureAddr, hx, Sem.run_bind, Sem.run_pure, Result.andThen_ok, run_loadVar hty hw']
                exact ⟨rfl, rfl⟩
              · exact anyT_sound hf hsel hds hQ fuel _ E _ _ _ _ w rfl hk hS' (hr.set hb _) (hok.put (hds i o ho) _)
            · subst h; exact hs.elim
          · rename_i f args hfo
            cases hg : isGo P f with
            | false => rw [hg] at h; subst h; exact hs.elim
            | true =>
              rw [hg] at h
              subst h
              obtain ⟨y, hy, hk⟩ := hs
              obtain ⟨⟨at', hop⟩, hgd⟩ := firstOf_call hfo
              refine wpAnyD_take (F := fun _ => True) (v := valL (embL _ y)) hoi hsel (fun _ _ _ h => h) (anti H) (fun _ _ _ _ => trivial) (anti H) fuel listed E a w hfi.2 (Region.free_spec hoi hfi.1.2) hmem' (.inl ⟨by simp [Region.wanted, hgd], fun w' hw' => ?_⟩) trivial hS ?_
              · rw [hr.1]
                have : (execOp (ev e) o).run P w' = .ok (.enter f (evs e args).toArray) w' := by
                  simp [execOp, hop, resolve, evs_eq, ev, Deferred.ofValue, invoke, isGo_spec hg]
                rw [this]
                exact ⟨rfl, hy w'⟩
              · exact anyT_sound hf hsel hds hQ fuel _ E _ _ _ _ w rfl hk hS (hr.set hb _) (hok.put (hds i o ho) _)
          · subst h; exact hs.elim
        · subst h; exact hs.elim
      · subst h
        have hall := all_mem (allT_spec hs)
        refine ⟨fun h0 => (by rw [h0] at hready; cases hready), fun i hi => ?_⟩
        rw [hready] at hi
        have := hall _ (List.mem_map.2 ⟨i, hi, rfl⟩)
        cases ho : ops.toList[i]? with
        | none => simp only [ho] at this; exact this.elim
        | some o =>
          simp only [ho] at this
          have hoi : ops[i]? = some o := by simpa using ho
          unfold wpOp
          simp only [hoi]
          have hg := gT_any (P := P) (C := real P R) (fun s w => s w) (fun _ h => h)
            (W := o.wp P a w (fun a' w' => SH ops H (i :: E) w' ∧ wpAnyD P ops (fun ex a w => match ex with | .normal => N a w | _ => False) (SH ops H) fuel (listed.setIfInBounds i true) (i :: E) a' w') (fun ex a w => match ex with | .normal => N a w | _ => False))
            (U := SH ops H (i :: E) w ∧ wpAnyD P ops (fun ex a w => match ex with | .normal => N a w | _ => False) (SH ops H) fuel (listed.setIfInBounds i true) (i :: E) (a.put o.dst undef) w)
            (N := fun v w' => SH ops H (i :: E) w' ∧ wpAnyD P ops (fun ex a w => match ex with | .normal => N a w | _ => False) (SH ops H) fuel (listed.setIfInBounds i true) (i :: E) (a.put o.dst v) w') this hr (fun d hd => (hf.ok hok) d (hds i o ho d hd))
            (fun e' k' he h' hk => opT_sound rfl h' he hk)
            (fun e' v w' hk hr' => by
              obtain ⟨h1, h2⟩ := chkT_spec hk
              have h1' : SH ops H (i :: E) w' := fun h hh hk => h1 h (List.mem_filter.2 ⟨hh, List.all_eq_true.2 hk⟩)
              exact ⟨h1', anyT_sound hf hsel hds hQ fuel _ (i :: E) H e' _ _ w' rfl h2 h1' hr' (hok.put (hds i o ho) v)⟩) (fun h => h)
          by_cases hw : Region.wanted o (yielded ops a.tmps) = true
          · rw [if_pos hw] at hg ⊢; exact .inl hg
          · rw [if_neg hw] at hg ⊢; exact hg

theorem get_sets {ks : List Nat} {f : Nat → Value} {e : Env} (t : Nat) : (e.sets ks (ks.map f)).get t = if t ∈ ks then f t else e.get t := by
  induction ks with
  | nil => simp [Env.sets]
  | cons k r ih =>
    simp only [List.map_cons, Env.sets, Env.get, ih, List.mem_cons]
    by_cases h : k = t
    · subst h; simp
    · have : Nat.beq k t = false := by rw [Bool.eq_false_iff]; exact fun h' => h (Nat.eq_of_beq_eq_true h')
      have h' : ¬ t = k := fun e => h e.symm
      simp [this, h']

theorem any_beq {ds : List Nat} {t : Nat} : ds.any (fun k => Nat.beq k t) = true ↔ t ∈ ds := by
  simp only [List.any_eq_true]
  constructor
  · rintro ⟨x, hx, hb⟩
    exact (Nat.eq_of_beq_eq_true hb) ▸ hx
  · exact fun h => ⟨t, h, Nat.beq_refl t⟩

theorem eval_same {ds : List Nat} {a a' : Act} (h : Ok ds a a') {t : Nat} (ht : t ∉ ds) : a'.eval (.tmp t) = a.eval (.tmp t) := by
  simp [Act.eval, h.same t ht]

theorem Rep.frame {e : Env} {a a' : Act} (h : Rep e a) {ds : List Nat} (hok : Ok ds a a') (hd : a'.defers = []) {L : List (Nat × Sh)} {s : TL (shs L)}
    (hs : embL (shs L) s = (slots L).map fun t => a'.eval (.tmp t)) : Rep (Sx.frame e L ds s fun t => a'.eval (.tmp t)) a' := by
  refine ⟨funext fun x => ?_, hd⟩
  cases x with
  | tmp t =>
    simp only [ev, Sx.frame, hs, get_sets, Env.get]
    by_cases h1 : t ∈ slots L
    · simp [h1]
    · simp only [h1, if_false]
      by_cases h2 : t ∈ ds
      · simp [any_beq.2 h2]
      · have : ds.any (fun k => Nat.beq k t) = false := by rw [Bool.eq_false_iff]; exact fun h' => h2 (any_beq.1 h')
        simp only [this, cond_false]
        rw [eval_same hok h2]
        exact congrFun h.1 (.tmp t)
  | const v => rfl
  | global g => rfl
  | func f => rfl

theorem Rep.vals {e : Env} {a : Act} (h : Rep e a) (ks : List Nat) : ks.map e.get = ks.map fun t => a.eval (.tmp t) := by
  apply List.map_congr_left
  intro t _
  exact (congrFun h.1 (.tmp t)).symm

def Post (a : Act) (ds : List Nat) (Q : Exit → Env → World → Prop) : Exit → Act → World → Prop := fun ex a' w' => ∃ e', Rep e' a' ∧ Ok ds a a' ∧ Q ex e' w'

theorem T_sound (hm : P.follows .mixedOrders = true) (tab : Tab) : ∀ (c : Code) (Q : Exit → Env → World → Prop) (e : Env) (s : World → Prop) (w : World) (a : Act),
    T (real P R) P tab c Q e = s → s w → Rep e a → Fits (dsts c) a → c.wp P (Post a (dsts c) Q) a w
  | .skip, Q, e, s, w, a, h, hs, hr, hf => by subst h; exact wp_skip ⟨e, hr, .refl _ _, hs⟩
  | .label l, Q, e, s, w, a, h, hs, hr, hf => by subst h; exact wp_label ⟨e, hr, .refl _ _, hs⟩
  | .ret, Q, e, s, w, a, h, hs, hr, hf => by subst h; exact wp_ret ⟨e, hr, .refl _ _, hs⟩
  | .exit id, Q, e, s, w, a, h, hs, hr, hf => by subst h; exact wp_exit ⟨e, hr, .refl _ _, hs⟩
  | .goto l, Q, e, s, w, a, h, hs, hr, hf => by subst h; exact hs.elim
  | .refuse l, Q, e, s, w, a, h, hs, hr, hf => by subst h; exact hs.elim
  | .rangeFunc f p as b, Q, e, s, w, a, h, hs, hr, hf => by subst h; exact hs.elim
  | .region id ops draw, Q, e, s, w, a, h, hs, hr, hf => by
    have hds : ∀ o ∈ ops.toList, ∀ d, o.dst = some d → d ∈ dsts (.region id ops draw) := fun o ho d hd => List.mem_filterMap.2 ⟨o, ho, hd⟩
    cases draw with
    | false =>
      subst h
      exact wp_region_list (opsT_sound (Qr := Post a _ Q) hf (fun e' a' w' hk hr' hok => ⟨e', hr', hok, hk⟩) ops.toList e a w hds hs hr (.refl _ _))
    | true =>
      simp only [T] at h
      split at h
      · subst h
        have hs' : (match Region.noSelect ops with | true => anyT (real P R) P tab.pure ops (Q .normal) ops.size (Array.replicate ops.size false) [] [] e | false => (real P R).fail) w.drew := hs
        cases hsel : Region.noSelect ops with
        | false => rw [hsel] at hs'; exact hs'.elim
        | true =>
          rw [hsel] at hs'
          refine wp_mono (wp_region_any (Q := fun ex a' w' => match ex with | .normal => Post a (dsts (.region id ops true)) Q .normal a' w' | _ => False) hm
            (wpAny_of_D _ _ _ _ _ (anyT_sound (N := Post a (dsts (.region id ops true)) Q .normal) hf hsel (fun i o ho => hds o (List.mem_of_getElem? ho)) (fun e' a' w' hk hr' hok => ⟨e', hr', hok, hk⟩) _ _ [] [] e a _ _ rfl hs' (fun _ h => by cases h) hr (.refl _ _)))) ?_
          intro ex a' w' hq
          cases ex <;> first | exact hq | exact hq.elim
      · subst h
        have hs' : (match Region.lexB .any ops with | true => opsT (real P R).q P ops (Q .normal) ops.toList e | false => (real P R).fail) w.drew := hs
        cases hlex : Region.lexB .any ops with
        | false => rw [hlex] at hs'; exact hs'.elim
        | true =>
          rw [hlex] at hs'
          exact wp_region_still hm hlex (opsQ_sound (Qr := fun a' => Post a (dsts (.region id ops true)) Q .normal a' w.drew) hf (fun e' a' hk hr' hok => ⟨e', hr', hok, hk⟩) ops.toList e a hds hs' hr (.refl _ _))
  | .seq x y, Q, e, s, w, a, h, hs, hr, hf => by
    have hfx : Fits (dsts x) a := fun d hd => hf d (List.mem_append_left _ hd)
    have hfy : Fits (dsts y) a := fun d hd => hf d (List.mem_append_right _ hd)
    have mx : ∀ d ∈ dsts x, d ∈ dsts (.seq x y) := fun d hd => List.mem_append_left _ hd
    have my : ∀ d ∈ dsts y, d ∈ dsts (.seq x y) := fun d hd => List.mem_append_right _ hd
    simp only [T] at h
    split at h
    · subst h
      refine wp_seq (wp_mono (T_sound hm tab x _ e _ w a rfl hs hr hfx) ?_)
      rintro ex a' w' ⟨e', hr', hok, hq⟩
      cases ex
      case normal =>
        refine wp_mono (T_sound hm tab y Q e' _ w' a' rfl hq hr' (hfy.ok hok)) ?_
        rintro ex a'' w'' ⟨e'', hr'', hok', hq'⟩
        exact ⟨e'', hr'', (hok.mono mx).trans (hok'.mono my), hq'⟩
      all_goals exact ⟨e', hr', hok.mono mx, hq⟩
    · rename_i L hL
      subst h
      obtain ⟨J, hJ, hs⟩ := hs
      refine wp_seq (wp_mono (T_sound hm tab x _ e _ w a rfl hs hr hfx) ?_)
      rintro ex a' w' ⟨e', hr', hok, hq⟩
      cases ex
      case normal =>
        obtain ⟨s', hs', hj⟩ := hq
        have hj' := hJ s' w' hj (fun t => a'.eval (.tmp t))
        refine wp_mono (T_sound hm tab y Q _ _ w' a' rfl hj' (hr.frame hok hr'.2 (by rw [hs', hr'.vals])) (hfy.ok hok)) ?_
        rintro ex a'' w'' ⟨e'', hr'', hok', hq'⟩
        exact ⟨e'', hr'', (hok.mono mx).trans (hok'.mono my), hq'⟩
      all_goals exact ⟨e', hr', hok.mono mx, hq⟩
  | .cond c x y, Q, e, s, w, a, h, hs, hr, hf => by
    have hfx : Fits (dsts x) a := fun d hd => hf d (List.mem_append_left _ hd)
    have hfy : Fits (dsts y) a := fun d hd => hf d (List.mem_append_right _ hd)
    simp only [T] at h
    split at h
    · rename_i b hb
      subst h
      have hc : a.eval c = .bool b := by rw [hr.1]; exact hb
      refine wp_cond_split hc (fun ht => ?_) (fun ht => ?_) <;> subst ht
      · refine wp_mono (T_sound hm tab x Q e _ w a rfl hs hr hfx) ?_
        rintro ex a' w' ⟨e', hr', hok, hq⟩
        exact ⟨e', hr', hok.mono (fun d hd => List.mem_append_left _ hd), hq⟩
      · refine wp_mono (T_sound hm tab y Q e _ w a rfl hs hr hfy) ?_
        rintro ex a' w' ⟨e', hr', hok, hq⟩
        exact ⟨e', hr', hok.mono (fun d hd => List.mem_append_right _ hd), hq⟩
    · subst h; exact hs.elim
  | .block id c, Q, e, s, w, a, h, hs, hr, hf => by
    subst h
    refine wp_block (wp_mono (T_sound hm tab c _ e _ w a rfl hs hr hf) ?_)
    rintro ex a' w' ⟨e', hr', hok, hq⟩
    cases ex
    case exit i =>
      simp only [Exit.inBlock]
      by_cases hi : i = id
      · subst hi
        simp only [Nat.beq_refl, if_true] at hq ⊢
        exact ⟨e', hr', hok, hq⟩
      · have : Nat.beq i id = false := by rw [Bool.eq_false_iff]; exact fun h' => hi (Nat.eq_of_beq_eq_true h')
        simp only [this, hi, if_false] at hq ⊢
        exact ⟨e', hr', hok, hq⟩
    all_goals exact ⟨e', hr', hok, hq⟩
  | .scope c, Q, e, s, w, a, h, hs, hr, hf => by
    subst h
    refine wp_scope_straight (wp_mono (T_sound hm tab c _ e _ w a rfl hs hr hf) ?_)
    rintro ex a' w' ⟨e', hr', hok, hq⟩
    cases ex
    case goto l => exact hq.elim
    all_goals exact ⟨e', hr', hok, hq⟩
  | .loop c, Q, e, s, w, a, h, hs, hr, hf => by
    simp only [T] at h
    split at h
    · subst h; exact hs.elim
    · rename_i L hL
      subst h
      obtain ⟨I, μ, ⟨s0, hs0, hi0⟩, hround⟩ := hs
      refine wp_loop_ghost (fun n a' w' => ∃ s : TL (shs L), Ok (dsts c) a a' ∧ a'.defers = [] ∧ embL (shs L) s = (slots L).map (fun t => a'.eval (.tmp t)) ∧ I s w' ∧ μ s w' = n) (μ s0 w)
        ⟨s0, .refl _ _, hr.2, by rw [hs0, hr.vals], hi0, rfl⟩ ?_
      rintro n a' w' ⟨s, hok, hd, hs, hI, hn⟩
      have hb := hround s w' hI (fun t => a'.eval (.tmp t))
      refine wp_mono (T_sound hm tab c _ _ _ w' a' rfl hb (hr.frame hok hd hs) (hf.ok hok)) ?_
      rintro ex a'' w'' ⟨e'', hr'', hok', hq⟩
      cases ex
      case normal =>
        obtain ⟨s', hs', hI', hlt⟩ := hq
        exact ⟨μ s' w'', by omega, s', hok.trans hok', hr''.2, by rw [hs', hr''.vals], hI', rfl⟩
      all_goals exact ⟨e'', hr'', hok.trans hok', hq⟩

theorem retT_sound {e : Env} {a : Act} {w : World} (hr : Rep e a) : ∀ (rs : List ResultVar) (acc : List Value), (retT (real P R) P e rs acc : World → Prop) w →
    ∃ vs, (rs.mapM (fun | .tmp t => pure (a.tmps.getD t undef) | .cell q t => do loadVar t (← asAddr (a.tmps.getD q undef)) : ResultVar → Sem Value)).run P w = .ok vs w ∧ R (valL (acc ++ vs)) w
  | [], acc, h => ⟨[], rfl, by rw [List.append_nil]; exact h⟩
  | .tmp t :: r, acc, h => by
    obtain ⟨vs, hvs, hR⟩ := retT_sound hr r _ h
    have ht : a.tmps.getD t undef = e.get t := congrFun hr.1 (.tmp t)
    refine ⟨e.get t :: vs, ?_, by simpa using hR⟩
    simp only [List.mapM_cons, Sem.run_bind, ht, Sem.run_pure, Result.andThen_ok, hvs]
  | .cell q t :: r, acc, h => by
    have ht : a.tmps.getD q undef = e.get q := congrFun hr.1 (.tmp q)
    generalize hs : retT (real P R) P e (.cell q t :: r) acc = s at h
    simp only [retT] at hs
    split at hs
    · rename_i p sh n hp hty
      subst hs
      obtain ⟨x, hx, hk⟩ := h
      obtain ⟨vs, hvs, hR⟩ := retT_sound hr r _ hk
      refine ⟨sh.emb x :: vs, ?_, by simpa using hR⟩
      have ha : (asAddr (a.tmps.getD q undef)).run P w = .ok p w := by rw [ht, hp]; rfl
      simp only [List.mapM_cons, Sem.run_bind, ha, Result.andThen_ok, run_loadVar hty hx, hvs, Sem.run_pure]
    · subst hs; exact h.elim

theorem results_run {fn : Func} {tmps : Array Value} {vs : List Value} {w : World}
    (h : (fn.results.toList.mapM (fun | .tmp t => pure (tmps.getD t undef) | .cell q t => do loadVar t (← asAddr (tmps.getD q undef)) : ResultVar → Sem Value)).run P w = .ok vs w) :
    (results fn tmps).run P w = .ok (valL vs) w := by
  unfold results
  rw [Array.mapM_eq_mapM_toList]
  simp only [Sem.run_bind, map_eq_pure_bind, Sem.run_pure]
  generalize hr : Sem.run P (List.mapM _ fn.results.toList) w = r
  have hr' : r = .ok vs w := hr.symm.trans h
  subst hr'
  simp only [Result.andThen_ok]
  match vs with
  | [] => rfl
  | [v] => rfl
  | v :: u :: r => simp [valL]

theorem get_envOf (vs : List Value) : ∀ (i t : Nat), (envOf i vs).get t = if i ≤ t then (vs[t - i]?).getD undef else undef := by
  induction vs with
  | nil => intro i t; simp [envOf, Env.get]
  | cons v r ih =>
    intro i t
    simp only [envOf, Env.get, ih]
    by_cases h : i = t
    · subst h; simp
    · have hb : Nat.beq i t = false := by rw [Bool.eq_false_iff]; exact fun h' => h (Nat.eq_of_beq_eq_true h')
      simp only [hb, cond_false]
      by_cases h1 : i ≤ t
      · have h2 : i + 1 ≤ t := by omega
        have h3 : t - i = (t - (i + 1)) + 1 := by omega
        simp [h1, h2, h3]
      · have h2 : ¬ i + 1 ≤ t := by omega
        simp [h1, h2]

theorem fT_sound (hm : P.follows .mixedOrders = true) (tab : Tab) {f : FuncId} {args : List Value} {w : World} (h : (fT (real P R) P tab f args : World → Prop) w) :
    Calls P f args.toArray w fun e w' => ∃ v, e = .returned v ∧ R v w' := by
  generalize hs : fT (real P R) P tab f args = s at h
  unfold fT at hs
  split at hs
  · subst hs; exact h.elim
  · rename_i fn hfn
    split at hs
    · subst hs; exact h.elim
    · rename_i c hc
      split at hs
      · rename_i hb
        subst hs
        simp only [Bool.and_eq_true, List.all_eq_true] at hb
        have hlen : args.length ≤ fn.ntmps := Nat.le_of_ble_eq_true hb.2
        have hsz : (args.toArray ++ Array.replicate (fn.ntmps - args.toArray.size) undef).size = fn.ntmps := by simp; omega
        refine calls_of_wp hfn hc (wp_mono (T_sound hm tab c _ (envOf 0 args) _ w _ rfl h ⟨funext fun x => ?_, rfl⟩ ?_) ?_)
        · cases x with
          | tmp t =>
            simp only [Act.eval, ev, get_envOf]
            by_cases ht : t < args.length
            · simp [Array.getElem?_append, ht]
            · rw [Array.getD_eq_getD_getElem?, Array.getElem?_append]
              have h1 : ¬ t < args.toArray.size := by simpa using ht
              simp only [h1, if_false, Array.getElem?_replicate]
              have h2 : args[t]? = none := List.getElem?_eq_none (Nat.le_of_not_lt ht)
              simp only [Nat.zero_le, if_true, Nat.sub_zero, h2]
              split <;> rfl
          | const v => rfl
          | global g => rfl
          | func f => rfl
        · intro d hd
          rw [hsz]
          exact Nat.le_of_ble_eq_true (hb.1 d hd)
        · rintro ex a' w' ⟨e', hr', hok, hq⟩
          have fin : (retT (real P R) P e' fn.results.toList [] : World → Prop) w' → a'.defers = [] ∧ ∃ v, (results fn a'.tmps).run P w' = .ok v w' ∧ ∃ v', Ending.returned v = .returned v' ∧ R v' w' := fun hq => by
            obtain ⟨vs, hvs, hR⟩ := retT_sound hr' _ _ hq
            exact ⟨hr'.2, _, results_run hvs, _, rfl, by simpa using hR⟩
          cases ex
          case normal => exact fin hq
          case ret => exact fin hq
          all_goals exact hq.elim
      · subst hs; exact h.elim

end Go.Sx
