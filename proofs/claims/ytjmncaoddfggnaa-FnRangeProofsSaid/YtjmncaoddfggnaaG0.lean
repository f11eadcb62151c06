/- Growth proofs: ones, peaks, what the reference computes. -/
import Derived.Test.YtjmncaoddfggnaaK4
namespace Go.Proofs.Ytjmncaoddfggnaa
open Go.Sx Go.RowKit

def onesF : Nat → Nat → Nat
  | 0, _ => 0
  | f + 1, n => n % 2 + onesF f (n / 2)
/-- How many bits are set. -/
def ones (n : Nat) : Nat := onesF 64 n

theorem onesF_zero : ∀ f, onesF f 0 = 0
  | 0 => rfl
  | f + 1 => by simp [onesF, onesF_zero f]
theorem ones_step : ∀ (f n : Nat), n < 2 ^ f → onesF (f + 1) n = onesF f n
  | 0, n, h => by have : n = 0 := by omega
                  subst this; rfl
  | f + 1, n, h => by
    rw [onesF, ones_step f (n / 2) (by rw [Nat.pow_succ] at h; omega)]
    rfl
theorem ones_mono (f : Nat) : ∀ (d n : Nat), n < 2 ^ f → onesF (f + d) n = onesF f n
  | 0, _, _ => rfl
  | d + 1, n, h => by rw [← Nat.add_assoc, ones_step (f + d) n (Nat.lt_of_lt_of_le h (Nat.pow_le_pow_right (by omega) (by omega))), ones_mono f d n h]
theorem ones_half {n : Nat} (h : n < 2 ^ 63) : ones n = n % 2 + ones (n / 2) := by
  unfold ones
  rw [show (64 : Nat) = 63 + 1 from rfl, onesF, ones_step 63 (n / 2) (by omega)]

theorem c_l03Ones (n : Nat) (hmax : n ≤ 1073741824) : RetP Try.prog n_spec_l03Ones [.int .i64 (n : Int)] [.int .i64] (ones n : Int) := fun w => spec_l03Ones_calls n (by
  unfold spec_l03Ones
  generalize hz : ones n = z
  refine r_loop (σ := Int × Int) (fun i w' => w' = w ∧ ∃ x c : Nat, i = ((x : Int), (c : Int)) ∧ x ≤ n ∧ c + ones x = z ∧ z ≤ 64) (fun i _ => i.1.toNat) (n, 0) rfl ⟨rfl, n, 0, rfl, Nat.le_refl _, by omega, ?_⟩ ?_
  · rw [← hz]
    have key : ∀ f m, onesF f m ≤ f := by
      intro f
      induction f with
      | zero => intro m; simp [onesF]
      | succ f ih => intro m; have := ih (m / 2); simp only [onesF]; omega
    exact key 64 n
  rintro i w1 ⟨rfl, x, c, rfl, hx, hc, h64⟩
  refine r_any fun _ => ?_
  dsimp only
  refine r_if ((x : Int) > 0) rfl (fun hpos => ?_) (fun hz => ?_)
  · have e1 : IntKind.wrap .i64 (Int.tdiv (x : Int) 2) = ((x / 2 : Nat) : Int) := by rw [Int.tdiv_eq_ediv_of_nonneg (by omega), w64 (by omega) (by omega)]; omega
    have hh := ones_half (n := x) (by omega)
    have e2 : IntKind.wrap .i64 ((c : Int) + Int.tmod (x : Int) 2) = ((c + x % 2 : Nat) : Int) := by rw [Int.tmod_eq_emod_of_nonneg (by omega), w64 (by omega) (by omega)]; omega
    exact ⟨(((x / 2 : Nat) : Int), ((c + x % 2 : Nat) : Int)), by rw [e1, e2]; rfl, ⟨rfl, x / 2, c + x % 2, rfl, by omega, by omega, h64⟩, by dsimp only; omega⟩
  · have : x = 0 := by omega
    subst this
    have h0 : ones 0 = 0 := onesF_zero 64
    have : c = z := by omega
    subst this
    exact r_retP rfl)

/-- The combinators that keep a returned value alone. -/
def valComb : Comb where
  St := Value
  fail := .nilFunc
  all := fun _ => .nilFunc
  draw := fun s => s
  ld := fun _ _ _ _ => .nilFunc
  st := fun _ _ _ _ => .nilFunc
  new := fun _ _ _ => .nilFunc
  ix := fun _ _ _ _ _ => .nilFunc
  ixS := fun _ _ _ => .nilFunc
  ixV := fun _ _ _ _ _ _ => .nilFunc
  sl := fun _ _ _ _ _ _ _ _ => .nilFunc
  slS := fun _ _ _ _ => .nilFunc
  fld := fun _ _ _ _ => .nilFunc
  call := fun _ _ _ _ => .nilFunc
  callQ := fun _ _ _ _ => .nilFunc
  callP := fun _ _ _ _ => .nilFunc
  chk := fun _ s => s
  callV := fun _ _ _ _ => .nilFunc
  sem := fun _ _ _ => .nilFunc
  pur := fun _ _ _ => .nilFunc
  ret := fun v => v
  loop := fun _ _ _ _ => .nilFunc
  join := fun _ _ _ _ => .nilFunc
  any := fun _ => .nilFunc

theorem onesCount_val : ∀ n : Fin 1025, Sx.intOf (math_bits_OnesCount64 valComb (n.val : Int)) = (ones n.val : Int) := by decide +kernel
theorem onesCount_ret {P : Program} {R : Value → World → Prop} {w : World} (x : Int) (h : R (.int .i64 (Sx.intOf (math_bits_OnesCount64 valComb x))) w) : (math_bits_OnesCount64 (real P R) x : World → Prop) w := h

theorem c_OnesCount (n : Nat) (h : n ≤ 1024) : RetP Try.prog n_math_bits_OnesCount64 [.int .u64 (n : Int)] [.int .i64] (ones n : Int) := fun w => math_bits_OnesCount64_calls n (by
  refine onesCount_ret _ ?_
  rw [onesCount_val ⟨n, by omega⟩]
  exact r_retP (P := Try.prog) rfl)

theorem c_l00Min (x y : Int) : RetP Try.prog n_spec_l00Min [.int .i64 x, .int .i64 y] [.int .i64] (min x y) := fun w => spec_l00Min_calls x y (by
  unfold spec_l00Min
  refine r_if (x < y) rfl (fun h => r_retP (by rw [show min x y = x by omega]; rfl)) (fun h => r_retP (by rw [show min x y = y by omega]; rfl)))

/-! ### The key of a list's peaks -/
def foldK (l : List Int) : Nat → List Int → List Int
  | 0, k => k
  | i + 1, k => foldK l i (hashL 2 (keyAt l i ++ k))
def ofPeaks (l : List Int) : List Int := foldK l (l.length / 32 - 1) (keyAt l (l.length / 32 - 1))

theorem c_l03Of {w0 w : World} {ls : List Blk} {s : Sl} {l : List Int} (hA : At w0 w ls) (hs : KS w0 s l) (hn : 0 < s.n) (hm : s.n ≤ 65536) : Ret Try.prog n_spec_l03Of [.slice s.a s.n s.c] w [.agg] (fun cs _ => cs = (u8s (ofPeaks l)).toArray ∧ (ofPeaks l).length = 32 ∧ bytesOk (ofPeaks l)) := spec_l03Of_calls s (by
  unfold spec_l03Of
  have hl := hs.len
  have hs := hs.at hA
  have e0 : l.length / 32 = s.n := by omega
  refine r_new (At.refl w) fun b2 w1 h => ?_
  have e1 : IntKind.wrap .i64 ((s.n : Int) - 1) = ((s.n - 1 : Nat) : Int) := by rw [w64 (by omega) (by omega)]; omega
  have e2 : IntKind.wrap .i64 ((s.n : Int) - 2) = ((s.n - 1 : Nat) : Int) - 1 := by rw [w64 (by omega) (by omega)]; omega
  rw [e1, e2]
  obtain ⟨p, hp, hk⟩ := hs.key (i := s.n - 1) (by omega)
  refine r_ix p hp (by omega) (by omega) ?_
  refine r_ldO h _ (by simp only [Int.toNat_natCast]; exact hk) (by simp) ?_
  have hk32 : (keyAt l (s.n - 1)).length = 32 := keyAt_len (by omega)
  refine r_new h fun b3 w2 h => ?_
  refine r_stA h 0 rfl rfl (by simp [hk32]) (by simp [Value.cells]) (by simpa using u8s_one) fun w3 h => ?_
  refine r_loop (σ := Int) (fun i w' => ∃ (k : Nat) (a : List Int), i = (k : Int) - 1 ∧ k ≤ s.n - 1 ∧ a.length = 32 ∧ bytesOk a ∧ foldK l k a = ofPeaks l ∧ At w w' [(b3, (u8s a).toArray, ty_impl_Key), (b2, Array.replicate 32 (.int .u8 0), ty_impl_Key)]) (fun i _ => (i + 1).toNat) _ rfl
    ⟨s.n - 1, keyAt l (s.n - 1), rfl, Nat.le_refl _, hk32, keyAt_ok hs.ok _, by unfold ofPeaks; rw [e0], h⟩ ?_
  rintro i w4 ⟨k, a, rfl, hk, ha, hab, hf, h⟩
  refine r_any fun _ => ?_
  refine r_if ((k : Int) - 1 ≥ 0) rfl (fun hge => ?_) (fun hlt => ?_)
  · obtain ⟨j, rfl⟩ : ∃ j, k = j + 1 := ⟨k - 1, by omega⟩
    have e3 : ((j + 1 : Nat) : Int) - 1 = (j : Int) := by omega
    rw [e3]
    refine r_draw h fun w5 h => ?_
    obtain ⟨p, hp, hk'⟩ := hs.key (i := j) (by omega)
    refine r_ix p hp (by omega) (by omega) ?_
    refine r_ldO h _ (by simp only [Int.toNat_natCast]; exact hk') (by simp) ?_
    refine r_ldA h 0 rfl rfl (by simp [ha]) ?_
    refine r_call h (c_l03Node (keyAt_len (by omega)) ha (keyAt_ok hs.ok _) hab w5) fun r w6 h _ hr => ?_
    subst hr
    refine r_stA h 0 rfl rfl (by simp [hashL_len]) (by simp [ha]) (by simpa using u8s_one) fun w7 h => ?_
    exact ⟨(j : Int) - 1, by rw [w64 (by omega) (by omega)]; rfl, ⟨j, _, rfl, by omega, hashL_len _ _, hashL_ok _ _, hf, h⟩, by omega⟩
  · have : k = 0 := by omega
    subst this
    have hf : a = ofPeaks l := hf
    subst hf
    refine r_ldA h 0 rfl rfl (by simp [ha]) ?_
    refine r_stA h 1 rfl rfl (by simp [ha]) (by simp) (by simpa using u8s_one) fun w6 h => ?_
    refine r_ldA h 1 rfl rfl (by simp [ha]) ?_
    exact r_ret h _ rfl ⟨rfl, ha, hab⟩)

theorem c_keyOfPeaks {w0 w : World} {ls : List Blk} {s : Sl} {l : List Int} (hA : At w0 w ls) (hs : KS w0 s l) (hn : 0 < s.n) (hm : s.n ≤ 65536) : Ret Try.prog n_impl_keyOfPeaks [.slice s.a s.n s.c] w [.agg] (fun cs _ => cs = (u8s (ofPeaks l)).toArray ∧ (ofPeaks l).length = 32 ∧ bytesOk (ofPeaks l)) := impl_keyOfPeaks_calls s (by
  unfold impl_keyOfPeaks
  have hl := hs.len
  have hs := hs.at hA
  have e0 : l.length / 32 = s.n := by omega
  refine r_new (At.refl w) fun b2 w1 h => ?_
  refine r_eq (fun h0 => by omega) (fun _ => ?_)
  have e1 : IntKind.wrap .i64 ((s.n : Int) - 1) = ((s.n - 1 : Nat) : Int) := by rw [w64 (by omega) (by omega)]; omega
  have e2 : IntKind.wrap .i64 ((s.n : Int) - 2) = ((s.n - 1 : Nat) : Int) - 1 := by rw [w64 (by omega) (by omega)]; omega
  rw [e1, e2]
  obtain ⟨p, hp, hk⟩ := hs.key (i := s.n - 1) (by omega)
  refine r_ix p hp (by omega) (by omega) ?_
  refine r_ldO h _ (by simp only [Int.toNat_natCast]; exact hk) (by simp) ?_
  have hk32 : (keyAt l (s.n - 1)).length = 32 := keyAt_len (by omega)
  refine r_new h fun b3 w2 h => ?_
  refine r_stA h 0 rfl rfl (by simp [hk32]) (by simp [Value.cells]) (by simpa using u8s_one) fun w3 h => ?_
  refine r_loop (σ := Int) (fun i w' => ∃ (k : Nat) (a : List Int), i = (k : Int) - 1 ∧ k ≤ s.n - 1 ∧ a.length = 32 ∧ bytesOk a ∧ foldK l k a = ofPeaks l ∧ At w w' [(b3, (u8s a).toArray, ty_impl_Key), (b2, Array.replicate 32 (.int .u8 0), ty_impl_Key)]) (fun i _ => (i + 1).toNat) _ rfl
    ⟨s.n - 1, keyAt l (s.n - 1), rfl, Nat.le_refl _, hk32, keyAt_ok hs.ok _, by unfold ofPeaks; rw [e0], h⟩ ?_
  rintro i w4 ⟨k, a, rfl, hk, ha, hab, hf, h⟩
  refine r_any fun _ => ?_
  refine r_if ((k : Int) - 1 ≥ 0) rfl (fun hge => ?_) (fun hlt => ?_)
  · obtain ⟨j, rfl⟩ : ∃ j, k = j + 1 := ⟨k - 1, by omega⟩
    have e3 : ((j + 1 : Nat) : Int) - 1 = (j : Int) := by omega
    rw [e3]
    refine r_draw h fun w5 h => ?_
    obtain ⟨p, hp, hk'⟩ := hs.key (i := j) (by omega)
    refine r_ix p hp (by omega) (by omega) ?_
    refine r_ldO h _ (by simp only [Int.toNat_natCast]; exact hk') (by simp) ?_
    refine r_ldA h 0 rfl rfl (by simp [ha]) ?_
    refine r_call h (c_NodeKey (keyAt_len (by omega)) ha (keyAt_ok hs.ok _) hab w5) fun r w6 h _ hr => ?_
    subst hr
    refine r_stA h 0 rfl rfl (by simp [hashL_len]) (by simp [ha]) (by simpa using u8s_one) fun w7 h => ?_
    exact ⟨(j : Int) - 1, by rw [w64 (by omega) (by omega)]; rfl, ⟨j, _, rfl, by omega, hashL_len _ _, hashL_ok _ _, hf, h⟩, by omega⟩
  · have : k = 0 := by omega
    subst this
    have hf : a = ofPeaks l := hf
    subst hf
    refine r_ldA h 0 rfl rfl (by simp [ha]) ?_
    refine r_stA h 1 rfl rfl (by simp [ha]) (by simp) (by simpa using u8s_one) fun w6 h => ?_
    refine r_ldA h 1 rfl rfl (by simp [ha]) ?_
    exact r_ret h _ rfl ⟨rfl, ha, hab⟩)

/-! ### The reference's way through a growth proof -/
def grown : Nat → Nat → Int → List Int → List Int → Option (List Int × List Int × List Int)
  | 0, _, _, _, _ => none
  | f + 1, n, m, o, q =>
    if m ≤ 0 then (if q.length < 32 then none else some (q.take 32, o, q.drop 32))
    else if (n : Int) ≤ m ∧ ones n = 1 then (if o.length < 32 then none else some (o.take 32, o.drop 32, q))
    else match grown f (half n) (min m (half n)) o q with
      | none => none
      | some (a, o1, q1) => match grown f (n - half n) (m - half n) o1 q1 with
        | none => none
        | some (b, o2, q2) => some (hashL 2 (a ++ b), o2, q2)

def GrownR (w : World) (on qn : Nat) (x : Option (List Int × List Int × List Int)) (r : Array Value × Sl × Sl × Bool) : Prop :=
  ∃ a : List Int, r.1 = (u8s a).toArray ∧ a.length = 32 ∧ bytesOk a ∧ match x with
    | none => r.2.2.2 = false
    | some (a', o1, q1) => a = a' ∧ r.2.2.2 = true ∧ KS w r.2.1 o1 ∧ KS w r.2.2.1 q1 ∧ r.2.1.n ≤ on ∧ r.2.2.1.n ≤ qn

theorem c_l03Grown {w0 : World} : ∀ (f n : Nat) (m : Int) (so sq : Sl) (o q : List Int) (w : World) (ls : List Blk), At w0 w ls → KS w0 so o → KS w0 sq q → so.n ≤ 65536 → sq.n ≤ 65536 → 1 ≤ n → n ≤ f → n ≤ 65536 → (n : Int) - 65536 ≤ m → m ≤ n →
    Ret Try.prog n_spec_l03Grown [.int .i64 (n : Int), .int .i64 m, .slice so.a so.n so.c, .slice sq.a sq.n sq.c] w [.agg, .slice, .slice, .bool] (fun r _ => GrownR w0 so.n sq.n (grown f n m o q) r)
  | 0, n, m, so, sq, o, q, w, ls, hA, ho, hq, hom, hqm, h1, hf, hn, hlo, hhi => by omega
  | f + 1, n, m, so, sq, o, q, w, ls, hA, ho, hq, hom, hqm, h1, hf, hn, hlo, hhi => by
    generalize hT : grown (f + 1) n m o q = T
    rw [grown] at hT
    have hol := ho.len
    have hql := hq.len
    have hR : ∀ {ls' : List Blk} {w' : World}, At w w' ls' → At w0 w' [] := fun h => ⟨hA.below.trans (h.below.mono hA.size), by simp, by simp, by simp⟩
    refine spec_l03Grown_calls _ _ _ _ ?_
    unfold spec_l03Grown
    refine r_new (At.refl w) fun b8 w1 h => ?_
    refine r_if (m ≤ 0) rfl (fun hm0 => ?_) (fun hm0 => ?_)
    · rw [if_pos hm0] at hT
      refine r_eq (fun h0 => ?_) (fun h0 => ?_)
      · rw [if_pos (by omega)] at hT
        subst hT
        refine r_stA h 0 rfl rfl (by simp) (by simp [Value.cells]) rep_one fun w3 h => ?_
        refine r_ldA h 0 rfl rfl (by simp) ?_
        exact r_ret h (_, so, sq, false) rfl ⟨zeroK, rfl, rfl, zeroK_ok, rfl⟩
      · rw [if_neg (show ¬ q.length < 32 by omega)] at hT
        subst hT
        refine r_draw h fun w3 h => ?_
        obtain ⟨p, hp, hl⟩ := hq.head (by omega)
        refine r_ix p hp (by omega) (by omega) ?_
        refine r_ldO (hR h) _ (by have : p.add (Int.toNat 0 * 32) = p := by simp [Addr.add]
                                  rw [this]; exact hl) (by simp) ?_
        refine r_tail hq (by omega) fun s' hs' hsn => ?_
        have hk32 : (q.take 32).length = 32 := by simp; omega
        refine r_stA h 0 rfl rfl (by simp [hk32]) (by simp [Value.cells]) (by simpa using u8s_one) fun w4 h => ?_
        refine r_ldA h 0 rfl rfl (by simp [hk32]) ?_
        exact r_ret h (_, so, s', true) rfl ⟨q.take 32, rfl, hk32, hq.ok.take _, rfl, rfl, ho, hs', Nat.le_refl _, by dsimp only; omega⟩
    · rw [if_neg hm0] at hT
      refine r_join (σ := Bool) (fun s w' => s = decide ((n : Int) ≤ m ∧ ones n = 1) ∧ At w w' [(b8, Array.replicate 32 (.int .u8 0), ty_impl_Key)]) (fun s w2 hs => ?_) ?_
      · obtain ⟨rfl, h⟩ := hs
        refine r_any fun _ => ?_
        refine r_if ((n : Int) ≤ m ∧ ones n = 1) rfl (fun hc => ?_) (fun hc => ?_)
        · rw [if_pos hc] at hT
          refine r_eq (fun h0 => ?_) (fun h0 => ?_)
          · rw [if_pos (by omega)] at hT
            subst hT
            refine r_stA h 0 rfl rfl (by simp) (by simp) rep_one fun w3 h => ?_
            refine r_ldA h 0 rfl rfl (by simp) ?_
            exact r_ret h (_, so, sq, false) rfl ⟨zeroK, rfl, rfl, zeroK_ok, rfl⟩
          · rw [if_neg (show ¬ o.length < 32 by omega)] at hT
            subst hT
            refine r_draw h fun w3 h => ?_
            obtain ⟨p, hp, hl⟩ := ho.head (by omega)
            refine r_ix p hp (by omega) (by omega) ?_
            refine r_ldO (hR h) _ (by have : p.add (Int.toNat 0 * 32) = p := by simp [Addr.add]
                                      rw [this]; exact hl) (by simp) ?_
            refine r_tail ho (by omega) fun s' hs' hsn => ?_
            have hk32 : (o.take 32).length = 32 := by simp; omega
            refine r_stA h 0 rfl rfl (by simp [hk32]) (by simp) (by simpa using u8s_one) fun w4 h => ?_
            refine r_ldA h 0 rfl rfl (by simp [hk32]) ?_
            exact r_ret h (_, s', sq, true) rfl ⟨o.take 32, rfl, hk32, ho.ok.take _, rfl, rfl, hs', hq, by dsimp only; omega, Nat.le_refl _⟩
        · rw [if_neg hc] at hT
          have hn2 : 2 ≤ n := by
            rcases Nat.lt_or_ge n 2 with hlt | hge
            · have : n = 1 := by omega
              subst this
              exact absurd ⟨by omega, rfl⟩ hc
            · exact hge
          obtain ⟨hh1, hh2⟩ := half_lt hn2
          refine r_callp (c_l03Half n hn2 (by omega)) ?_
          refine r_callp (c_l00Min m _) ?_
          refine r_call h (c_l03Grown f (half n) (min m (half n)) so sq o q w2 [] (hR h) ho hq hom hqm hh2 (by omega) (by omega) (by omega) (by omega)) fun r w3 h _ hr => ?_
          obtain ⟨ra, rs, rq, rb⟩ := r
          obtain ⟨a, rfl, ha32, hab, hr⟩ := hr
          dsimp only at hr ⊢
          refine r_new h fun b13 w4 h => ?_
          refine r_stA h 0 rfl rfl (by simp [ha32]) (by simp [Value.cells]) (by simpa using u8s_one) fun w5 h => ?_
          generalize grown f (half n) (min m (half n)) o q = x at hT hr
          cases x with
          | none =>
            dsimp only at hr hT ⊢
            subst hr hT
            refine r_true rfl ?_
            refine r_stA h 1 rfl rfl (by simp) (by simp) rep_one fun w6 h => ?_
            refine r_ldA h 1 rfl rfl (by simp) ?_
            exact r_ret h (_, so, sq, false) rfl ⟨zeroK, rfl, rfl, zeroK_ok, rfl⟩
          | some aq =>
            obtain ⟨a', o1, q1⟩ := aq
            dsimp only at hr hT ⊢
            obtain ⟨rfl, rfl, ho1, hq1, hon, hqn⟩ := hr
            refine r_false rfl ?_
            have e1 : IntKind.wrap .i64 ((n : Int) - (half n : Int)) = ((n - half n : Nat) : Int) := by rw [w64 (by omega) (by omega)]; omega
            have e2 : IntKind.wrap .i64 (m - (half n : Int)) = m - half n := w64 (by omega) (by omega)
            rw [e1, e2]
            refine r_call h (c_l03Grown f (n - half n) (m - half n) rs rq o1 q1 w5 [] (hR h) ho1 hq1 (by omega) (by omega) (by omega) (by omega) (by omega) (by omega) (by omega)) fun r w6 h _ hr => ?_
            obtain ⟨rc, rs2, rq2, rb2⟩ := r
            obtain ⟨b, rfl, hb32, hbb, hr⟩ := hr
            dsimp only at hr ⊢
            refine r_new h fun b16 w7 h => ?_
            refine r_stA h 0 rfl rfl (by simp [hb32]) (by simp [Value.cells]) (by simpa using u8s_one) fun w8 h => ?_
            refine r_ldA h 1 rfl rfl (by simp [ha32]) ?_
            refine r_ldA h 0 rfl rfl (by simp [hb32]) ?_
            refine r_call h (c_l03Node ha32 hb32 hab hbb w8) fun k w9 h _ hk => ?_
            subst hk
            refine r_stA h 2 rfl rfl (by simp [hashL_len]) (by simp) (by simpa using u8s_one) fun w6 h => ?_
            refine r_ldA h 2 rfl rfl (by simp [hashL_len]) ?_
            generalize grown f (n - half n) (m - half n) o1 q1 = x2 at hT hr
            cases x2 with
            | none =>
              dsimp only at hr hT ⊢
              subst hr hT
              exact r_ret h (_, rs2, rq2, false) rfl ⟨_, rfl, hashL_len _ _, hashL_ok _ _, rfl⟩
            | some aq =>
              obtain ⟨b', o2, q2⟩ := aq
              dsimp only at hr hT ⊢
              obtain ⟨rfl, rfl, ho2, hq2, hon2, hqn2⟩ := hr
              subst hT
              exact r_ret h (_, rs2, rq2, true) rfl ⟨_, rfl, hashL_len _ _, hashL_ok _ _, rfl, rfl, ho2, hq2, by dsimp only; omega, by dsimp only; omega⟩
      · refine r_if (m ≥ (n : Int)) rfl (fun hge => ?_) (fun hlt => ?_)
        · refine r_callp (c_l03Ones n (by omega)) ?_
          refine ⟨_, rfl, ?_, h⟩
          by_cases h1' : ones n = 1
          · simp [h1', show (n : Int) ≤ m from hge]
          · have : ¬ ((ones n : Int) = 1) := by omega
            simp [h1', this]
        · exact ⟨false, rfl, (decide_eq_false (fun hh => hlt hh.1)).symm, h⟩

end Go.Proofs.Ytjmncaoddfggnaa
