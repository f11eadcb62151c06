/- Growth proofs: the program's closures, both sides alike. -/
import Derived.Test.YtjmncaoddfggnaaG0
namespace Go.Proofs.Ytjmncaoddfggnaa
open Go.Sx Go.RowKit

theorem At.pick {w0 w : World} {ls : List Blk} (h : At w0 w ls) (is : List Nat) (hn : is.Nodup) : At w0 w (is.filterMap fun i => ls[i]?) := by
  refine ⟨h.below, fun x hx => ?_, fun x hx => ?_, ?_⟩
  · obtain ⟨i, _, hi⟩ := List.mem_filterMap.1 hx
    exact h.own x (List.mem_of_getElem? hi)
  · obtain ⟨i, _, hi⟩ := List.mem_filterMap.1 hx
    exact h.ge x (List.mem_of_getElem? hi)
  · rw [List.Nodup, List.pairwise_map, List.pairwise_filterMap]
    refine List.Pairwise.imp ?_ hn
    intro i j hij x hx y hy hxy
    have hp : (ls.map (·.1)).Pairwise (· ≠ ·) := h.nodup
    rw [List.pairwise_map] at hp
    obtain ⟨hi, rfl⟩ := List.getElem?_eq_some_iff.1 hx
    obtain ⟨hj, rfl⟩ := List.getElem?_eq_some_iff.1 hy
    rcases Nat.lt_or_gt_of_ne hij with hlt | hlt
    · exact List.pairwise_iff_getElem.1 hp i j hi hj hlt hxy
    · exact List.pairwise_iff_getElem.1 hp j i hj hi hlt hxy.symm

theorem r_all4 {P : Program} {R : Value → World → Prop} {w : World} {s t u v : World → Prop} (h1 : s w) (h2 : t w) (h3 : u w) (h4 : v w) : ((real P R).all [s, t, u, v] : World → Prop) w := ⟨h1, h2, h3, h4⟩

theorem r_neK {P : Program} {R : Value → World → Prop} {w : World} {t e n : Nat} (hu : P.underlying t = some (.array n e)) (he : tyOf P e = some (.int .u8, 1)) (hg : P.eqGuardType P.depth t = false) {x y : Operand} {a b : List Int} (ha : a.length = n) (hb : b.length = n) {k : Bool → World → Prop} (h : k (!decide (a = b)) w) :
    ((real P R).pur (eqB .neq t x y (.agg (u8s a).toArray) (.agg (u8s b).toArray)) .bool k : World → Prop) w := r_pur _ (fun w' => run_neq_u8 hu he hg x y ha hb w') h

/-- The head of a slice of keys. -/
theorem r_heads {P : Program} {R : Value → World → Prop} {wr w : World} {s : Sl} {l : List Int} {k : Sl → World → Prop} {c : Nat} {x : Int} (h : KS wr s l) (hx : x = c) (hc : c ≤ s.n) (hk : ∀ s' : Sl, KS wr s' (l.take (32 * c)) → s'.n = c → k s' w) :
    ((real P R).sl s.a s.n s.c 32 none (some x) none k : World → Prop) w :=
  r_slS h.sl (by omega) 0 c rfl hx (by omega) hc h.cap fun s' h1 h2 h3 => by
    have hl := h.len
    have hcap := h.cap
    refine hk s' ⟨?_, h.ok.take _, by omega⟩ (by omega)
    have : ((u8s l).drop (0 * 32)).take ((c - 0) * 32) = u8s (l.take (32 * c)) := by
      simp only [u8s, ← List.map_drop, ← List.map_take, Nat.zero_mul, List.drop_zero, Nat.sub_zero, Nat.mul_comm c 32]
    rwa [this] at h3
/-- The rest of a slice of keys. -/
theorem r_rest {P : Program} {R : Value → World → Prop} {wr w : World} {s : Sl} {l : List Int} {k : Sl → World → Prop} {c : Nat} {x : Int} (h : KS wr s l) (hx : x = c) (hc : c ≤ s.n) (hk : ∀ s' : Sl, KS wr s' (l.drop (32 * c)) → s'.n = s.n - c → k s' w) :
    ((real P R).sl s.a s.n s.c 32 (some x) none none k : World → Prop) w :=
  r_slS h.sl (by omega) c s.n hx rfl hc (Nat.le_refl _) h.cap fun s' h1 h2 h3 => by
    have hl := h.len
    have hcap := h.cap
    refine hk s' ⟨?_, h.ok.drop _, by omega⟩ h1
    have : ((u8s l).drop (c * 32)).take ((s.n - c) * 32) = u8s (l.drop (32 * c)) := by
      simp only [u8s, ← List.map_drop, ← List.map_take, Nat.mul_comm c 32]
      rw [List.take_of_length_le (by simp; omega)]
    rwa [this] at h3

theorem u8s_inj : ∀ {a b : List Int}, u8s a = u8s b → a = b
  | [], [], _ => rfl
  | [], _ :: _, h => by simp [u8s] at h
  | _ :: _, [], h => by simp [u8s] at h
  | x :: a, y :: b, h => by
    simp only [u8s, List.map_cons, List.cons.injEq, Value.int.injEq, true_and] at h
    rw [h.1, u8s_inj h.2]

/-! ### Powers of two -/
theorem pow_facts : ∀ n : Fin 1025, (ones n.val = 1 ↔ n.val = 2 ^ Nat.log2 n.val) ∧ (2 ≤ n.val → half n.val = 2 ^ Nat.log2 (half n.val) ∧ n.val ≤ 2 * half n.val ∧ (n.val = 2 * half n.val ↔ n.val = 2 ^ Nat.log2 n.val)) := by decide +kernel
theorem ones_pow {n : Nat} (h : n ≤ 1024) : ones n = 1 ↔ n = 2 ^ Nat.log2 n := (pow_facts ⟨n, by omega⟩).1
theorem half_pow {n : Nat} (h : n ≤ 1024) (h2 : 2 ≤ n) : half n = 2 ^ Nat.log2 (half n) ∧ n ≤ 2 * half n ∧ (n = 2 * half n ↔ n = 2 ^ Nat.log2 n) := (pow_facts ⟨n, by omega⟩).2 h2

/-- The places where the program asks are the reference's. -/
theorem place_iff {n X : Nat} (hn : 1 ≤ n) (hn2 : n ≤ 1024) (hX : 0 < X) (hlt : X < 2 * n) : (n ≤ X ∧ ones n = 1) ↔ (n ≤ X ∧ n = 2 ^ Nat.log2 X) := by
  refine and_congr_right fun hle => ?_
  rw [ones_pow hn2]
  constructor
  · intro h
    have : Nat.log2 X = Nat.log2 n := (Nat.log2_eq_iff (by omega)).2 ⟨by omega, by rw [Nat.pow_succ]; omega⟩
    rw [this]; exact h
  · intro h
    rw [h, Nat.log2_two_pow]

theorem c_CG1 {w : World} {b6 : Nat} {m lo : Int} {n : Nat} (hc : w.cell? ⟨b6, 0, none⟩ = some (.int .i64 m)) (hm : m ≤ 65536) (hlo : 0 ≤ lo) (hlm : lo < m) (_ : n ≤ 65536) :
    Calls Try.prog n_impl_CheckGrowth_1 #[.int .i64 lo, .int .i64 (n : Int), .pointer (some ⟨b6, 0, none⟩)] w fun e w' => ∃ v, e = .returned v ∧ (v = .bool (decide (n ≤ (m - lo).toNat ∧ n = 2 ^ Nat.log2 (m - lo).toNat)) ∧ w' = w) := impl_CheckGrowth_1_calls _ _ _ (by
  unfold impl_CheckGrowth_1
  refine r_ldO (At.refl w) m hc (by simp) ?_
  refine r_ldO (At.refl w) m hc (by simp) ?_
  have e1 : IntKind.wrap .i64 (lo + (n : Int)) = lo + n := w64 (by omega) (by omega)
  rw [e1]
  refine r_if (lo + (n : Int) ≤ m) rfl (fun hle => ?_) (fun hgt => ?_)
  · have e2 : IntKind.wrap .u64 (IntKind.wrap .i64 (m - lo)) = ((m - lo).toNat : Int) := by rw [w64 (by omega) (by omega), wrapu64 (by omega) (by omega)]; omega
    rw [e2]
    generalize hX : (m - lo).toNat = X
    refine r_callp (c_Len64 X (by omega) (by omega)) ?_
    have hl30 : Nat.log2 X < 30 := (Nat.log2_lt (by omega)).2 (by omega)
    have e3 : IntKind.wrap .i64 (((Nat.log2 X + 1 : Nat) : Int) - 1) = (Nat.log2 X : Int) := by rw [w64 (by omega) (by omega)]; omega
    rw [e3]
    refine r_pur _ (fun w' => run_shl (by omega) w') ?_
    have hp : 2 ^ Nat.log2 X ≤ X := Nat.log2_self_le (by omega)
    have e4 : IntKind.wrap .i64 (1 * 2 ^ min (Nat.log2 X : Int).toNat (IntKind.bits .i64)) = ((2 ^ Nat.log2 X : Nat) : Int) := by
      rw [show IntKind.bits .i64 = 64 from rfl, Int.toNat_natCast, Nat.min_eq_left (by omega)]
      have : (1 * 2 ^ Nat.log2 X : Int) = ((2 ^ Nat.log2 X : Nat) : Int) := by simp
      rw [this]
      generalize 2 ^ Nat.log2 X = pw at hp
      exact w64 (by omega) (by omega)
    rw [e4]
    refine r_retR ⟨?_, rfl⟩
    congr 1
    have : ((n : Int) == ((2 ^ Nat.log2 X : Nat) : Int)) = decide (n = 2 ^ Nat.log2 X) := by
      by_cases hh : n = 2 ^ Nat.log2 X
      · rw [← hh]; simp
      · have : ¬ ((n : Int) = ((2 ^ Nat.log2 X : Nat) : Int)) := fun h' => hh (by omega)
        rw [beq_eq_false_iff_ne.2 this, decide_eq_false hh]
    rw [this]
    apply decide_eq_decide.2
    exact ⟨fun h => ⟨by omega, h⟩, fun h => h.2⟩
  · refine r_retR ⟨?_, rfl⟩
    congr 1
    exact (decide_eq_false (by omega)).symm)

/-- The variables that CheckGrowth's functions read and write. -/
structure CGB where
  (b51 b56 b13 b14 b15 b16 b7 b6 b5 : Nat)
  now : Array Value
  root : Array Value
  m : Int
abbrev CGB.fn1 (B : CGB) : Value := .func (.func n_impl_CheckGrowth_1) #[] #[.pointer (some ⟨B.b6, 0, none⟩)]
abbrev CGB.fn2 (B : CGB) : Value := .func (.func n_impl_CheckGrowth_2) #[] #[.pointer (some ⟨B.b6, 0, none⟩), .pointer (some ⟨B.b14, 0, none⟩), .pointer (some ⟨B.b15, 0, none⟩), .pointer (some ⟨B.b13, 0, none⟩), .pointer (some ⟨B.b16, 0, none⟩)]
abbrev CGB.rest (B : CGB) : List Blk := [(B.b13, #[.pointer (some ⟨B.b51, 0, none⟩)], ty_ptr_impl_queue), (B.b14, #[.pointer (some ⟨B.b56, 0, none⟩)], ty_ptr_impl_queue), (B.b15, #[B.fn1], ty_func_int64_int64_bool), (B.b16, #[B.fn2], ty_func_int64_int64_impl_Key),
  (B.b7, B.now, ty_impl_Key), (B.b6, #[.int .i64 B.m], ty_int64), (B.b5, B.root, ty_impl_Key)]
abbrev CGB.L (B : CGB) (o q : Sl) (ook qok : Bool) : List Blk := (B.b51, #[.slice o.a o.n o.c, .bool ook], ty_impl_queue) :: (B.b56, #[.slice q.a q.n q.c, .bool qok], ty_impl_queue) :: B.rest

def CG2R (w0 : World) (B : CGB) (xs : List Blk) (x : Option (List Int × List Int × List Int)) (v : Value) (w' : World) : Prop :=
  ∃ (a : List Int) (so sq : Sl) (ook qok : Bool) (o q : List Int), v = .agg (u8s a).toArray ∧ a.length = 32 ∧ bytesOk a ∧ At w0 w' (B.L so sq ook qok ++ xs) ∧ KS w0 so o ∧ KS w0 sq q ∧ match x with
    | none => (ook && qok) = false
    | some (a', o1, q1) => a = a' ∧ ook = true ∧ qok = true ∧ o = o1 ∧ q = q1

theorem c_CG2 {w0 : World} {B : CGB} (hm1 : 0 ≤ B.m) (hm2 : B.m ≤ 1024) :
    ∀ (f n : Nat) (lo : Int) (so sq : Sl) (o q : List Int) (ook qok : Bool) (w : World) (xs : List Blk), At w0 w (B.L so sq ook qok ++ xs) → KS w0 so o → KS w0 sq q → 1 ≤ n → n ≤ f → n ≤ 1024 → 0 ≤ lo → lo + n ≤ 65536 → (n = 2 ^ Nat.log2 n ∨ B.m - lo ≤ n) → B.m - lo < 2 * (n : Int) →
    Calls Try.prog n_impl_CheckGrowth_2 #[.int .i64 lo, .int .i64 (n : Int), .pointer (some ⟨B.b6, 0, none⟩), .pointer (some ⟨B.b14, 0, none⟩), .pointer (some ⟨B.b15, 0, none⟩), .pointer (some ⟨B.b13, 0, none⟩), .pointer (some ⟨B.b16, 0, none⟩)] w
      fun e w' => ∃ v, e = .returned v ∧ CG2R w0 B xs (if (ook && qok) then grown f n (min (B.m - lo) n) o q else none) v w'
  | 0, n, lo, so, sq, o, q, ook, qok, w, xs, hA, ho, hq, h1, hf, hn, hl0, hl1, hi1, hi2 => by omega
  | f + 1, n, lo, so, sq, o, q, ook, qok, w, xs, hA, ho, hq, h1, hf, hn, hl0, hl1, hi1, hi2 => by
    generalize hT : (if (ook && qok) then grown (f + 1) n (min (B.m - lo) n) o q else none) = T
    rw [grown] at hT
    refine impl_CheckGrowth_2_calls _ _ _ _ _ _ _ ?_
    unfold impl_CheckGrowth_2
    refine r_new hA fun b9 w1 h => ?_
    have h : At w0 w1 (B.L so sq ook qok ++ ((b9, Array.replicate 32 (.int .u8 0), ty_impl_Key) :: xs)) := At.perm h List.perm_middle.symm
    have hdone : ∀ {w' : World} {so' sq' : Sl} {ook' qok' : Bool} {X : Array Value}, At w0 w' (B.L so' sq' ook' qok' ++ ((b9, X, ty_impl_Key) :: xs)) → At w0 w' (B.L so' sq' ook' qok' ++ xs) := fun h => h.take _ (List.Sublist.append_left (List.sublist_cons_self _ _) _)
    refine r_ld h 7 (o := 0) rfl rfl B.m (by simp [Sh.emb]) rfl ?_
    refine r_if (lo ≥ B.m) rfl (fun hge => ?_) (fun hlt => ?_)
    · rw [if_pos (show min (B.m - lo) (n : Int) ≤ 0 by omega)] at hT
      refine r_ld h 3 (o := 0) rfl rfl (⟨B.b56, 0, none⟩ : Addr) (by simp [Sh.emb]) rfl ?_
      refine r_callR (c_take (At.sw1 h) hq) ?_
      rintro v w3 (⟨hlt, rfl, h⟩ | ⟨hge, rfl, s', hs', h⟩)
      · have h := At.sw1 h
        refine ⟨_, rfl, ?_⟩
        rw [if_pos hlt] at hT
        refine r_stA h 9 rfl rfl (by simp [zeroK_len]) (by simp) (by simpa using u8s_one) fun w4 h => ?_
        refine r_ldA h 9 rfl rfl (by simp [zeroK_len]) ?_
        refine r_retR ⟨zeroK, so, sq, ook, false, o, q, rfl, rfl, zeroK_ok, hdone h, ho, hq, ?_⟩
        have : T = none := by rw [← hT]; cases ook <;> cases qok <;> rfl
        subst this
        exact Bool.and_false _
      · have h := At.sw1 h
        refine ⟨_, rfl, ?_⟩
        rw [if_neg (show ¬ q.length < 32 by omega)] at hT
        have hk32 : (q.take 32).length = 32 := by simp; omega
        refine r_stA h 9 rfl rfl (by simp [hk32]) (by simp) (by simpa using u8s_one) fun w4 h => ?_
        refine r_ldA h 9 rfl rfl (by simp [hk32]) ?_
        refine r_retR ⟨_, so, s', ook, qok, o, _, rfl, hk32, hq.ok.take _, hdone h, ho, hs', ?_⟩
        subst hT
        cases ook <;> cases qok <;> first | exact rfl | exact ⟨rfl, rfl, rfl, rfl, rfl⟩
    · rw [if_neg (show ¬ min (B.m - lo) (n : Int) ≤ 0 by omega)] at hT
      refine r_ld (sh := .val) h 4 (o := 0) rfl rfl B.fn1 (by simp [Sh.emb]) rfl ?_
      have hcell : w1.cell? ⟨B.b6, 0, none⟩ = some (.int .i64 B.m) := ldM h ty_int64 (sh := .int .i64) (by simp) (by simp [Sh.emb])
      refine r_callVR (by kernel_rfl) (c_CG1 hcell (by omega) hl0 (by omega) (by omega)) ?_
      rintro v w3 ⟨rfl, rfl⟩
      refine ⟨_, rfl, ?_⟩
      obtain ⟨X, hX⟩ : ∃ X : Nat, B.m - lo = X := ⟨(B.m - lo).toNat, by omega⟩
      have hXn : (B.m - lo).toNat = X := by omega
      rw [hXn]
      rw [hX] at hT hi1 hi2
      have hpl := place_iff (n := n) (X := X) h1 hn (by omega) (by omega)
      refine r_if (n ≤ X ∧ n = 2 ^ Nat.log2 X) rfl (fun hc => ?_) (fun hc => ?_)
      · have hc' := hpl.2 hc
        rw [if_pos (show (n : Int) ≤ min (X : Int) n ∧ ones n = 1 from ⟨by omega, hc'.2⟩)] at hT
        refine r_ld h 2 (o := 0) rfl rfl (⟨B.b51, 0, none⟩ : Addr) (by simp [Sh.emb]) rfl ?_
        refine r_callR (c_take h ho) ?_
        rintro v w3 (⟨hlt, rfl, h⟩ | ⟨hge, rfl, s', hs', h⟩)
        · refine ⟨_, rfl, ?_⟩
          rw [if_pos hlt] at hT
          refine r_stA h 9 rfl rfl (by simp [zeroK_len]) (by simp) (by simpa using u8s_one) fun w4 h => ?_
          refine r_ldA h 9 rfl rfl (by simp [zeroK_len]) ?_
          refine r_retR ⟨zeroK, so, sq, false, qok, o, q, rfl, rfl, zeroK_ok, hdone h, ho, hq, ?_⟩
          have : T = none := by rw [← hT]; cases ook <;> cases qok <;> rfl
          subst this
          exact Bool.false_and _
        · refine ⟨_, rfl, ?_⟩
          rw [if_neg (show ¬ o.length < 32 by omega)] at hT
          have hk32 : (o.take 32).length = 32 := by simp; omega
          refine r_stA h 9 rfl rfl (by simp [hk32]) (by simp) (by simpa using u8s_one) fun w4 h => ?_
          refine r_ldA h 9 rfl rfl (by simp [hk32]) ?_
          refine r_retR ⟨_, s', sq, ook, qok, _, q, rfl, hk32, ho.ok.take _, hdone h, hs', hq, ?_⟩
          subst hT
          cases ook <;> cases qok <;> first | exact rfl | exact ⟨rfl, rfl, rfl, rfl, rfl⟩
      · have hc' : ¬ (n ≤ X ∧ ones n = 1) := fun hh => hc (hpl.1 hh)
        rw [if_neg (show ¬ ((n : Int) ≤ min (X : Int) n ∧ ones n = 1) from fun hh => hc' ⟨by omega, hh.2⟩)] at hT
        have hn2 : 2 ≤ n := by
          rcases Nat.lt_or_ge n 2 with hlt | hge
          · have : n = 1 := by omega
            subst this
            exact absurd ⟨by omega, rfl⟩ hc'
          · exact hge
        obtain ⟨hh1, hh2⟩ := half_lt hn2
        obtain ⟨hp1, hp2, hp3⟩ := half_pow hn hn2
        have hop := ones_pow hn
        -- where the program goes on, no more than the whole is asked
        have hXle : X ≤ n := by
          rcases hi1 with hpw | hle
          · rcases Nat.lt_or_ge X n with hlt | hge
            · omega
            · exact absurd ⟨hge, hop.2 hpw⟩ hc'
          · omega
        have hX2 : X < 2 * half n := by
          rcases Nat.lt_or_ge X (2 * half n) with hlt | hge
          · exact hlt
          · have : n = 2 * half n := by omega
            exact absurd ⟨by omega, hop.2 (hp3.1 this)⟩ hc'
        refine r_callp (c_leftOf n (by omega) (by omega)) ?_
        refine r_ld (sh := .val) h 5 (o := 0) rfl rfl B.fn2 (by simp [Sh.emb]) rfl ?_
        refine r_callVR (by kernel_rfl) (c_CG2 hm1 hm2 f (half n) lo so sq o q ook qok w3 _ h ho hq hh2 (by omega) (by omega) hl0 (by omega) (.inl hp1) (by omega)) ?_
        rintro v w3 ⟨a, so1, sq1, ook1, qok1, o1, q1, rfl, ha32, hab, h, ho1, hq1, hx⟩
        refine ⟨_, rfl, ?_⟩
        refine r_new h fun b11 w4 h => ?_
        have h : At w0 w4 (B.L so1 sq1 ook1 qok1 ++ ((b11, Array.replicate 32 (.int .u8 0), ty_impl_Key) :: (b9, Array.replicate 32 (.int .u8 0), ty_impl_Key) :: xs)) := At.perm h List.perm_middle.symm
        refine r_stA h 9 rfl rfl (by simp [ha32]) (by simp) (by simpa using u8s_one) fun w5 h => ?_
        refine r_draw h fun w6 h => ?_
        refine r_ldA h 9 rfl rfl (by simp [ha32]) ?_
        refine r_ld (sh := .val) h 5 (o := 0) rfl rfl B.fn2 (by simp [Sh.emb]) rfl ?_
        have e1 : IntKind.wrap .i64 (lo + (half n : Int)) = lo + half n := w64 (by omega) (by omega)
        have e2 : IntKind.wrap .i64 ((n : Int) - (half n : Int)) = ((n - half n : Nat) : Int) := by rw [w64 (by omega) (by omega)]; omega
        rw [e1, e2]
        refine r_callVR (by kernel_rfl) (c_CG2 hm1 hm2 f (n - half n) (lo + half n) so1 sq1 o1 q1 ook1 qok1 w6 _ h ho1 hq1 (by omega) (by omega) (by omega) (by omega) (by omega) (.inr (by omega)) (by omega)) ?_
        rintro v w7 ⟨b, so2, sq2, ook2, qok2, o2, q2, rfl, hb32, hbb, h, ho2, hq2, hx2⟩
        refine ⟨_, rfl, ?_⟩
        refine r_chk1 (ldOk_blk h 9 rfl (by simp [ha32])) ?_
        refine r_call h (c_NodeKey ha32 hb32 hab hbb w7) fun k w9 h _ hk => ?_
        subst hk
        refine r_stA h 10 rfl rfl (by simp [hashL_len]) (by simp) (by simpa using u8s_one) fun w10 h => ?_
        refine r_ldA h 10 rfl rfl (by simp [hashL_len]) ?_
        have hend' : At w0 w10 (B.L so2 sq2 ook2 qok2 ++ xs) := h.take _ (List.Sublist.append_left ((List.sublist_cons_self _ _).trans (List.sublist_cons_self _ _)) _)
        refine r_retR ⟨_, so2, sq2, ook2, qok2, o2, q2, rfl, hashL_len _ _, hashL_ok _ _, hend', ho2, hq2, ?_⟩
        rw [hX] at hx
        have em1 : min (min (X : Int) n) (half n : Int) = min (X : Int) (half n) := by omega
        have em2 : min (X : Int) n - (half n : Int) = min (B.m - (lo + (half n : Int))) ((n - half n : Nat) : Int) := by omega
        rw [em1, em2] at hT
        generalize hg1 : grown f (half n) (min (X : Int) (half n)) o q = x1 at hT hx
        have off : (ook && qok) = false → T = none := fun hh => by rw [← hT, hh]; rfl
        have dead : (ook1 && qok1) = false → (ook2 && qok2) = false := fun hh => by rw [hh] at hx2; exact hx2
        cases hok : (ook && qok) with
        | false =>
          have := off hok
          subst this
          rw [hok] at hx
          exact dead hx
        | true =>
          rw [hok] at hT hx
          simp only [if_true] at hT hx
          cases x1 with
          | none =>
            dsimp only at hT hx
            subst hT
            exact dead hx
          | some aq =>
            obtain ⟨a', o', q'⟩ := aq
            dsimp only at hT hx
            obtain ⟨rfl, rfl, rfl, rfl, rfl⟩ := hx
            simp only [Bool.and_self, if_true] at hx2
            generalize grown f (n - half n) (min (B.m - (lo + (half n : Int))) ((n - half n : Nat) : Int)) o1 q1 = x2 at hT hx2
            cases x2 with
            | none => dsimp only at hT hx2; subst hT; exact hx2
            | some bq =>
              obtain ⟨b', o', q'⟩ := bq
              dsimp only at hT hx2
              obtain ⟨rfl, h2, h3, h4, h5⟩ := hx2
              subst hT
              exact ⟨rfl, h2, h3, h4, h5⟩

/-- What CheckGrowth answers. -/
def growAns (root : List Int) (m : Int) (now : List Int) (n : Int) (l : List Int) : Bool × Int :=
  if 256 < l.length / 32 then (false, 3)
  else if ¬ (1 ≤ n ∧ n ≤ 256) ∨ ¬ (1 ≤ m ∧ m ≤ n) then (false, 2)
  else if l.length / 32 < ones m.toNat ∨ ofPeaks (l.take (32 * ones m.toNat)) ≠ root then (false, 0)
  else match grown n.toNat n.toNat m (l.take (32 * ones m.toNat)) (l.drop (32 * ones m.toNat)) with
    | none => (false, 0)
    | some (a, o, q) => (decide (o = []) && decide (q = []) && decide (a = now), 0)

theorem ones_pos : ∀ n : Fin 1025, 1 ≤ n.val → 1 ≤ ones n.val := by decide +kernel

theorem c_spec_CheckGrowth {w : World} {sp : Sl} {root now l : List Int} (m n : Int) (hr : root.length = 32) (hnow : now.length = 32) (hl : KS w sp l) :
    Ret Try.prog n_spec_CheckGrowth [.agg (u8s root).toArray, .int .i64 m, .agg (u8s now).toArray, .int .i64 n, .slice sp.a sp.n sp.c] w [.bool, .int .i64] (fun r _ => r = growAns root m now n l) := by
  generalize hT : growAns root m now n l = T
  unfold growAns at hT
  have hll := hl.len
  have e1 : l.length / 32 = sp.n := by omega
  rw [e1] at hT
  refine spec_CheckGrowth_calls _ _ _ _ _ ?_
  unfold spec_CheckGrowth
  refine r_new (At.refl w) fun b5 w1 h => ?_
  refine r_new h fun b7 w2 h => ?_
  refine r_if ((sp.n : Int) > 256) rfl (fun hgt => ?_) (fun hle => ?_)
  · rw [if_pos (by omega)] at hT
    exact r_ret h (false, 3) rfl hT
  rw [if_neg (by omega)] at hT
  refine r_join (σ := Unit) (fun _ w' => ((1 ≤ n ∧ n ≤ 256) ∧ (1 ≤ m ∧ m ≤ n)) ∧ At w w' [(b7, (u8s now).toArray, ty_impl_Key), (b5, (u8s root).toArray, ty_impl_Key)]) (fun _ w2 hs => ?_) ?_
  · obtain ⟨⟨hn, hm⟩, h⟩ := hs
    rw [if_neg (by simp only [not_or, Decidable.not_not]; exact ⟨hn, hm⟩)] at hT
    refine r_any fun _ => ?_
    obtain ⟨N, hN⟩ : ∃ N : Nat, n = N := ⟨n.toNat, by omega⟩
    subst hN
    obtain ⟨M, hM⟩ : ∃ M : Nat, m = M := ⟨m.toNat, by omega⟩
    subst hM
    rw [Int.toNat_natCast, Int.toNat_natCast] at hT
    refine r_callp (c_l03Ones M (by omega)) ?_
    have hop : 1 ≤ ones M := ones_pos ⟨M, by omega⟩ (by dsimp only; omega)
    generalize ones M = c at hT hop
    refine r_join (σ := Unit) (fun _ w' => (c ≤ sp.n ∧ ofPeaks (l.take (32 * c)) = root) ∧ At w w' [(b7, (u8s now).toArray, ty_impl_Key), (b5, (u8s root).toArray, ty_impl_Key)]) (fun _ w3 hs => ?_) ?_
    · obtain ⟨⟨hc, hpk⟩, h⟩ := hs
      rw [if_neg (by simp only [not_or, Decidable.not_not]; exact ⟨by omega, hpk⟩)] at hT
      refine r_any fun _ => ?_
      refine r_join (σ := Addr × Sl × Sl × Bool) (fun s w' => ∃ (b13 : Nat) (a : List Int), s.1 = ⟨b13, 0, none⟩ ∧ At w w' [(b13, (u8s a).toArray, ty_impl_Key), (b7, (u8s now).toArray, ty_impl_Key), (b5, (u8s root).toArray, ty_impl_Key)] ∧ GrownR w c (sp.n - c) (grown N N M (l.take (32 * c)) (l.drop (32 * c))) ((u8s a).toArray, s.2)) (fun s w4 hs => ?_) ?_
      · obtain ⟨p, so, sq, ok⟩ := s
        obtain ⟨b13, a, hp, h, a2, ha2, ha32, hab, hx⟩ := hs
        dsimp only at hp ha2 hx
        subst hp
        refine r_any fun _ => ?_
        dsimp only
        have haa : a = a2 := by
          exact u8s_inj (by simpa using ha2)
        subst haa
        generalize grown N N M (l.take (32 * c)) (l.drop (32 * c)) = x at hT hx
        cases x with
        | none =>
          dsimp only at hx hT
          subst hx hT
          refine r_false rfl ?_
          exact r_ret h (false, 0) rfl rfl
        | some aq =>
          obtain ⟨a', o1, q1⟩ := aq
          dsimp only at hx hT
          obtain ⟨rfl, rfl, ho1, hq1, _, _⟩ := hx
          subst hT
          have hni := nil_iff ho1
          have hnj := nil_iff hq1
          refine r_true rfl ?_
          refine r_eq (fun h0 => ?_) (fun h0 => ?_)
          · have ho0 : o1 = [] := hni.1 (by omega)
            refine r_eq (fun h0 => ?_) (fun h0 => ?_)
            · have hq0 : q1 = [] := hnj.1 (by omega)
              refine r_ldA h 0 rfl rfl (by simp [ha32]) ?_
              refine r_ldA h 1 rfl rfl (by simp [hnow]) ?_
              refine r_eqK (n := 32) (e := ty_uint8) (by kernel_rfl) (by kernel_rfl) (by kernel_rfl) ha32 hnow ?_
              exact r_ret h (decide (a = now), 0) rfl (by simp [ho0, hq0])
            · have : ¬ q1 = [] := fun hh => by have := hnj.2 hh; omega
              exact r_ret h (false, 0) rfl (by simp [this])
          · have : ¬ o1 = [] := fun hh => by have := hni.2 hh; omega
            exact r_ret h (false, 0) rfl (by simp [this])
      · refine r_draw h fun w4 h => ?_
        refine r_heads hl rfl hc fun s1 hs1 hn1 => ?_
        refine r_rest hl rfl hc fun s2 hs2 hn2 => ?_
        refine r_all2 ?_ ?_
        · refine r_call h (c_l03Grown N N M s1 s2 _ _ w4 _ h hs1 hs2 (by omega) (by omega) (by omega) (Nat.le_refl _) (by omega) (by omega) (by omega)) fun r w5 h _ hr => ?_
          obtain ⟨a, ha, ha32, hab, hx⟩ := hr
          obtain ⟨ra, rs, rq, rb⟩ := r
          dsimp only at ha
          subst ha
          refine r_new h fun b13 w6 h => ?_
          refine r_stA h 0 rfl rfl (by simp [ha32]) (by simp [Value.cells]) (by simpa using u8s_one) fun w7 h => ?_
          exact ⟨(_, rs, rq, rb), rfl, b13, a, rfl, h, a, rfl, ha32, hab, by rw [hn1, hn2] at hx; exact hx⟩
        · refine r_new h fun b13 w6 h => ?_
          refine r_call h (c_l03Grown N N M s1 s2 _ _ w6 _ h hs1 hs2 (by omega) (by omega) (by omega) (Nat.le_refl _) (by omega) (by omega) (by omega)) fun r w5 h _ hr => ?_
          obtain ⟨a, ha, ha32, hab, hx⟩ := hr
          obtain ⟨ra, rs, rq, rb⟩ := r
          dsimp only at ha
          subst ha
          refine r_stA h 0 rfl rfl (by simp [ha32]) (by simp [Value.cells]) (by simpa using u8s_one) fun w7 h => ?_
          exact ⟨(_, rs, rq, rb), rfl, b13, a, rfl, h, a, rfl, ha32, hab, by rw [hn1, hn2] at hx; exact hx⟩
    · refine r_draw h fun w3 h => ?_
      refine r_if ((sp.n : Int) < (c : Int)) rfl (fun hlt => ?_) (fun hge => ?_)
      · rw [if_pos (.inl (by omega))] at hT
        exact r_all2 (r_ret h (false, 0) rfl hT) (r_ret h (false, 0) rfl hT)
      · refine r_heads hl rfl (by omega) fun s1 hs1 hn1 => ?_
        refine r_all2 ?_ ?_
        · refine r_call h (c_l03Of h hs1 (by omega) (by omega)) fun k w4 h _ ⟨hk, hk32, hkb⟩ => ?_
          subst hk
          refine r_ldA h 1 rfl rfl (by simp [hr]) ?_
          refine r_neK (n := 32) (e := ty_uint8) (by kernel_rfl) (by kernel_rfl) (by kernel_rfl) hk32 hr ?_
          by_cases hpk : ofPeaks (l.take (32 * c)) = root
          · exact r_false (by simp [hpk]) ⟨(), rfl, ⟨by omega, hpk⟩, h⟩
          · rw [if_pos (.inr hpk)] at hT
            exact r_true (by simp [hpk]) (r_ret h (false, 0) rfl hT)
        · refine r_ldA h 1 rfl rfl (by simp [hr]) ?_
          refine r_call h (c_l03Of h hs1 (by omega) (by omega)) fun k w4 h _ ⟨hk, hk32, hkb⟩ => ?_
          subst hk
          refine r_neK (n := 32) (e := ty_uint8) (by kernel_rfl) (by kernel_rfl) (by kernel_rfl) hk32 hr ?_
          by_cases hpk : ofPeaks (l.take (32 * c)) = root
          · exact r_false (by simp [hpk]) ⟨(), rfl, ⟨by omega, hpk⟩, h⟩
          · rw [if_pos (.inr hpk)] at hT
            exact r_true (by simp [hpk]) (r_ret h (false, 0) rfl hT)
  · refine r_callp (c_l00In n 1 256) ?_
    by_cases hn : 1 ≤ n ∧ n ≤ 256
    · refine r_false (by simp [hn]) ?_
      refine r_callp (c_l00In m 1 n) ?_
      by_cases hm : 1 ≤ m ∧ m ≤ n
      · exact r_false (by simp [hm]) ⟨(), rfl, ⟨hn, hm⟩, h⟩
      · rw [if_pos (.inr hm)] at hT
        exact r_true (by simp only [hm]; rfl) (r_ret h (false, 2) rfl hT)
    · rw [if_pos (.inl hn)] at hT
      exact r_true (by simp only [hn]; rfl) (r_ret h (false, 2) rfl hT)

theorem c_impl_CheckGrowth {w : World} {sp : Sl} {root now l : List Int} (m n : Int) (hr : root.length = 32) (hnow : now.length = 32) (hl : KS w sp l) :
    Ret Try.prog n_impl_CheckGrowth [.agg (u8s root).toArray, .int .i64 m, .agg (u8s now).toArray, .int .i64 n, .slice sp.a sp.n sp.c] w [.bool, .int .i64] (fun r _ => r = growAns root m now n l) := by
  generalize hT : growAns root m now n l = T
  unfold growAns at hT
  have hll := hl.len
  have e1 : l.length / 32 = sp.n := by omega
  rw [e1] at hT
  refine impl_CheckGrowth_calls _ _ _ _ _ ?_
  unfold impl_CheckGrowth
  refine r_new (At.refl w) fun b5 w1 h => ?_
  refine r_new h fun b6 w2 h => ?_
  refine r_new h fun b7 w3 h => ?_
  have h : At w w3 [(b7, (u8s now).toArray, ty_impl_Key), (b6, #[.int .i64 m], ty_int64), (b5, (u8s root).toArray, ty_impl_Key)] := h
  refine r_join (σ := Unit) (fun _ w' => (sp.n ≤ 256 ∧ (1 ≤ n ∧ n ≤ 256) ∧ (1 ≤ m ∧ m ≤ n)) ∧ At w w' [(b7, (u8s now).toArray, ty_impl_Key), (b6, #[.int .i64 m], ty_int64), (b5, (u8s root).toArray, ty_impl_Key)]) (fun _ w2 hs => ?_) ?_
  · obtain ⟨⟨hs0, hn, hm⟩, h⟩ := hs
    rw [if_neg (by omega), if_neg (by simp only [not_or, Decidable.not_not]; exact ⟨hn, hm⟩)] at hT
    refine r_any fun _ => ?_
    obtain ⟨N, hN⟩ : ∃ N : Nat, n = N := ⟨n.toNat, by omega⟩
    subst hN
    obtain ⟨M, hM⟩ : ∃ M : Nat, m = M := ⟨m.toNat, by omega⟩
    subst hM
    rw [Int.toNat_natCast, Int.toNat_natCast] at hT
    refine r_ld h 1 (o := 0) rfl rfl (M : Int) (by simp [Sh.emb]) rfl ?_
    rw [wrapu64 (by omega) (by omega)]
    refine r_callp (c_OnesCount M (by omega)) ?_
    have hop : 1 ≤ ones M := ones_pos ⟨M, by omega⟩ (by dsimp only; omega)
    generalize ones M = c at hT hop
    refine r_join (σ := Unit) (fun _ w' => (c ≤ sp.n ∧ ofPeaks (l.take (32 * c)) = root) ∧ At w w' [(b7, (u8s now).toArray, ty_impl_Key), (b6, #[.int .i64 (M : Int)], ty_int64), (b5, (u8s root).toArray, ty_impl_Key)]) (fun _ w3 hs => ?_) ?_
    · obtain ⟨⟨hc, hpk⟩, h⟩ := hs
      rw [if_neg (by simp only [not_or, Decidable.not_not]; exact ⟨by omega, hpk⟩)] at hT
      refine r_any fun _ => ?_
      refine r_join (σ := Addr × Addr) (fun s w' => ∃ (b51 b56 b13 b14 : Nat) (s1 s2 : Sl), s = (⟨b13, 0, none⟩, ⟨b14, 0, none⟩) ∧ KS w s1 (l.take (32 * c)) ∧ KS w s2 (l.drop (32 * c)) ∧ At w w' [(b51, #[.slice s1.a s1.n s1.c, .bool true], ty_impl_queue), (b56, #[.slice s2.a s2.n s2.c, .bool true], ty_impl_queue), (b13, #[.pointer (some ⟨b51, 0, none⟩)], ty_ptr_impl_queue), (b14, #[.pointer (some ⟨b56, 0, none⟩)], ty_ptr_impl_queue), (b7, (u8s now).toArray, ty_impl_Key), (b6, #[.int .i64 (M : Int)], ty_int64), (b5, (u8s root).toArray, ty_impl_Key)]) (fun s w4 hs => ?_) ?_
      · obtain ⟨b51, b56, b13, b14, s1, s2, rfl, hs1, hs2, h⟩ := hs
        refine r_any fun _ => ?_
        dsimp only
        refine r_new h fun b15 w5 h => ?_
        refine r_st h 0 (o := 0) rfl rfl (by simp [Value.cells]) rfl fun w6 h => ?_
        refine r_new h fun b16 w7 h => ?_
        refine r_st h 0 (o := 0) rfl rfl (by simp [Value.cells]) rfl fun w8 h => ?_
        let B : CGB := ⟨b51, b56, b13, b14, b15, b16, b7, b6, b5, (u8s now).toArray, (u8s root).toArray, M⟩
        have h : At w w8 (B.L s1 s2 true true ++ []) := At.pick h [2, 3, 4, 5, 1, 0, 6, 7, 8] (by decide)
        refine r_ld (sh := .val) h 5 (o := 0) rfl rfl B.fn2 (by simp [Sh.emb]) rfl ?_
        refine r_callVR (by kernel_rfl) (c_CG2 (B := B) (by show (0 : Int) ≤ M; omega) (by show (M : Int) ≤ 1024; omega) N N 0 s1 s2 _ _ true true w8 _ h hs1 hs2 (by omega) (Nat.le_refl _) (by omega) (by omega) (by omega) (.inr (by show (M : Int) - 0 ≤ N; omega)) (by show (M : Int) - 0 < _; omega)) ?_
        rintro v w6 ⟨a, so, sq, ook, qok, o1, q1, rfl, ha32, hab, h, ho1, hq1, hx⟩
        refine ⟨_, rfl, ?_⟩
        refine r_new h fun b17 w7 h => ?_
        refine r_stA h 0 rfl rfl (by simp [ha32]) (by simp [Value.cells]) (by simpa using u8s_one) fun w8 h => ?_
        refine r_ld h 3 (o := 0) rfl rfl (⟨b51, 0, none⟩ : Addr) (by simp [Sh.emb]) rfl ?_
        refine r_ld h 1 (o := 1) rfl (add_lit _ _ _) ook (by simp [Sh.emb]) rfl ?_
        have em : min (B.m - 0) (N : Int) = M := by show min ((M : Int) - 0) N = M; omega
        rw [em] at hx
        simp only [Bool.and_self, if_true] at hx
        generalize grown N N M (l.take (32 * c)) (l.drop (32 * c)) = x at hT hx
        cases ook with
        | false =>
          refine r_false rfl (r_ret h (false, 0) rfl ?_)
          cases x with
          | none => exact hT
          | some aq => exact absurd hx.2.1 (by simp)
        | true =>
          refine r_true rfl ?_
          refine r_ld h 4 (o := 0) rfl rfl (⟨b56, 0, none⟩ : Addr) (by simp [Sh.emb]) rfl ?_
          refine r_ld h 2 (o := 1) rfl (add_lit _ _ _) qok (by simp [Sh.emb]) rfl ?_
          cases qok with
          | false =>
            refine r_false rfl (r_ret h (false, 0) rfl ?_)
            cases x with
            | none => exact hT
            | some aq => exact absurd hx.2.2.1 (by simp)
          | true =>
            cases x with
            | none => exact absurd hx (by simp)
            | some aq =>
              obtain ⟨a', o', q'⟩ := aq
              dsimp only at hx hT
              obtain ⟨rfl, _, _, rfl, rfl⟩ := hx
              subst hT
              have hni := nil_iff ho1
              have hnj := nil_iff hq1
              refine r_true rfl ?_
              refine r_ld h 3 (o := 0) rfl rfl (⟨b51, 0, none⟩ : Addr) (by simp [Sh.emb]) rfl ?_
              refine r_ld h 1 (o := 0) rfl (add_lit _ _ _) so (by simp [Sh.emb]) rfl ?_
              refine r_eq (fun h0 => ?_) (fun h0 => ?_)
              · have ho0 : o1 = [] := hni.1 (by omega)
                refine r_ld h 4 (o := 0) rfl rfl (⟨b56, 0, none⟩ : Addr) (by simp [Sh.emb]) rfl ?_
                refine r_ld h 2 (o := 0) rfl (add_lit _ _ _) sq (by simp [Sh.emb]) rfl ?_
                refine r_eq (fun h0 => ?_) (fun h0 => ?_)
                · have hq0 : q1 = [] := hnj.1 (by omega)
                  refine r_ldA h 0 rfl rfl (by simp [ha32]) ?_
                  refine r_ldA h 7 (b := b7) (cs := (u8s now).toArray) rfl rfl (by simp [hnow]) ?_
                  refine r_eqK (n := 32) (e := ty_uint8) (by kernel_rfl) (by kernel_rfl) (by kernel_rfl) ha32 hnow ?_
                  exact r_ret h (decide (a = now), 0) rfl (by simp [ho0, hq0])
                · have : ¬ q1 = [] := fun hh => by have := hnj.2 hh; omega
                  exact r_ret h (false, 0) rfl (by simp [this])
              · have : ¬ o1 = [] := fun hh => by have := hni.2 hh; omega
                exact r_ret h (false, 0) rfl (by simp [this])
      · refine r_draw h fun w4 h => ?_
        refine r_heads hl rfl hc fun s1 hs1 hn1 => ?_
        refine r_pur _ (fun w' => run_queue s1 w') ?_
        refine r_rest hl rfl hc fun s2 hs2 hn2 => ?_
        refine r_pur _ (fun w' => run_queue s2 w') ?_
        refine r_all4 ?_ ?_ ?_ ?_
        · refine r_new h fun b51 v1 h => ?_
          refine r_all3 ?_ ?_ ?_
          · refine r_new h fun b56 v2 h => ?_
            refine r_all2 ?_ ?_
            · refine r_new h fun b13 v3 h => ?_
              refine r_new h fun b14 v4 h => ?_
              refine r_st h 1 (o := 0) rfl rfl (by simp [Value.cells]) rfl fun v5 h => ?_
              refine r_st h 0 (o := 0) rfl rfl (by simp [Value.cells]) rfl fun v6 h => ?_
              exact ⟨(_, _), rfl, b51, b56, b13, b14, s1, s2, rfl, hs1, hs2, (At.pick h [3, 2, 1, 0, 4, 5, 6] (by decide))⟩
            · refine r_new h fun b14 v7 h => ?_
              refine r_new h fun b13 v8 h => ?_
              refine r_st h 0 (o := 0) rfl rfl (by simp [Value.cells]) rfl fun v9 h => ?_
              refine r_st h 1 (o := 0) rfl rfl (by simp [Value.cells]) rfl fun v10 h => ?_
              exact ⟨(_, _), rfl, b51, b56, b13, b14, s1, s2, rfl, hs1, hs2, (At.pick h [3, 2, 0, 1, 4, 5, 6] (by decide))⟩
          · refine r_new h fun b13 v11 h => ?_
            refine r_all2 ?_ ?_
            · refine r_new h fun b56 v12 h => ?_
              refine r_new h fun b14 v13 h => ?_
              refine r_st h 2 (o := 0) rfl rfl (by simp [Value.cells]) rfl fun v14 h => ?_
              refine r_st h 0 (o := 0) rfl rfl (by simp [Value.cells]) rfl fun v15 h => ?_
              exact ⟨(_, _), rfl, b51, b56, b13, b14, s1, s2, rfl, hs1, hs2, (At.pick h [3, 1, 2, 0, 4, 5, 6] (by decide))⟩
            · refine r_new h fun b14 v16 h => ?_
              refine r_all2 ?_ ?_
              · refine r_new h fun b56 v17 h => ?_
                refine r_st h 2 (o := 0) rfl rfl (by simp [Value.cells]) rfl fun v18 h => ?_
                refine r_st h 1 (o := 0) rfl rfl (by simp [Value.cells]) rfl fun v19 h => ?_
                exact ⟨(_, _), rfl, b51, b56, b13, b14, s1, s2, rfl, hs1, hs2, (At.pick h [3, 0, 2, 1, 4, 5, 6] (by decide))⟩
              · refine r_st h 1 (o := 0) rfl rfl (by simp [Value.cells]) rfl fun v20 h => ?_
                refine r_new h fun b56 v21 h => ?_
                refine r_st h 1 (o := 0) rfl rfl (by simp [Value.cells]) rfl fun v22 h => ?_
                exact ⟨(_, _), rfl, b51, b56, b13, b14, s1, s2, rfl, hs1, hs2, (At.pick h [3, 0, 2, 1, 4, 5, 6] (by decide))⟩
          · refine r_new h fun b14 v23 h => ?_
            refine r_all2 ?_ ?_
            · refine r_new h fun b56 v24 h => ?_
              refine r_new h fun b13 v25 h => ?_
              refine r_st h 0 (o := 0) rfl rfl (by simp [Value.cells]) rfl fun v26 h => ?_
              refine r_st h 2 (o := 0) rfl rfl (by simp [Value.cells]) rfl fun v27 h => ?_
              exact ⟨(_, _), rfl, b51, b56, b13, b14, s1, s2, rfl, hs1, hs2, (At.pick h [3, 1, 0, 2, 4, 5, 6] (by decide))⟩
            · refine r_new h fun b13 v28 h => ?_
              refine r_all2 ?_ ?_
              · refine r_new h fun b56 v29 h => ?_
                refine r_st h 1 (o := 0) rfl rfl (by simp [Value.cells]) rfl fun v30 h => ?_
                refine r_st h 2 (o := 0) rfl rfl (by simp [Value.cells]) rfl fun v31 h => ?_
                exact ⟨(_, _), rfl, b51, b56, b13, b14, s1, s2, rfl, hs1, hs2, (At.pick h [3, 0, 1, 2, 4, 5, 6] (by decide))⟩
              · refine r_st h 0 (o := 0) rfl rfl (by simp [Value.cells]) rfl fun v32 h => ?_
                refine r_new h fun b56 v33 h => ?_
                refine r_st h 2 (o := 0) rfl rfl (by simp [Value.cells]) rfl fun v34 h => ?_
                exact ⟨(_, _), rfl, b51, b56, b13, b14, s1, s2, rfl, hs1, hs2, (At.pick h [3, 0, 1, 2, 4, 5, 6] (by decide))⟩
        · refine r_new h fun b56 v35 h => ?_
          refine r_all3 ?_ ?_ ?_
          · refine r_new h fun b51 v36 h => ?_
            refine r_all2 ?_ ?_
            · refine r_new h fun b13 v37 h => ?_
              refine r_new h fun b14 v38 h => ?_
              refine r_st h 1 (o := 0) rfl rfl (by simp [Value.cells]) rfl fun v39 h => ?_
              refine r_st h 0 (o := 0) rfl rfl (by simp [Value.cells]) rfl fun v40 h => ?_
              exact ⟨(_, _), rfl, b51, b56, b13, b14, s1, s2, rfl, hs1, hs2, (At.pick h [2, 3, 1, 0, 4, 5, 6] (by decide))⟩
            · refine r_new h fun b14 v41 h => ?_
              refine r_new h fun b13 v42 h => ?_
              refine r_st h 0 (o := 0) rfl rfl (by simp [Value.cells]) rfl fun v43 h => ?_
              refine r_st h 1 (o := 0) rfl rfl (by simp [Value.cells]) rfl fun v44 h => ?_
              exact ⟨(_, _), rfl, b51, b56, b13, b14, s1, s2, rfl, hs1, hs2, (At.pick h [2, 3, 0, 1, 4, 5, 6] (by decide))⟩
          · refine r_new h fun b13 v45 h => ?_
            refine r_all2 ?_ ?_
            · refine r_new h fun b51 v46 h => ?_
              refine r_new h fun b14 v47 h => ?_
              refine r_st h 2 (o := 0) rfl rfl (by simp [Value.cells]) rfl fun v48 h => ?_
              refine r_st h 0 (o := 0) rfl rfl (by simp [Value.cells]) rfl fun v49 h => ?_
              exact ⟨(_, _), rfl, b51, b56, b13, b14, s1, s2, rfl, hs1, hs2, (At.pick h [1, 3, 2, 0, 4, 5, 6] (by decide))⟩
            · refine r_new h fun b14 v50 h => ?_
              refine r_new h fun b51 v51 h => ?_
              refine r_st h 2 (o := 0) rfl rfl (by simp [Value.cells]) rfl fun v52 h => ?_
              refine r_st h 1 (o := 0) rfl rfl (by simp [Value.cells]) rfl fun v53 h => ?_
              exact ⟨(_, _), rfl, b51, b56, b13, b14, s1, s2, rfl, hs1, hs2, (At.pick h [0, 3, 2, 1, 4, 5, 6] (by decide))⟩
          · refine r_new h fun b14 v54 h => ?_
            refine r_all2 ?_ ?_
            · refine r_new h fun b51 v55 h => ?_
              refine r_new h fun b13 v56 h => ?_
              refine r_st h 0 (o := 0) rfl rfl (by simp [Value.cells]) rfl fun v57 h => ?_
              refine r_st h 2 (o := 0) rfl rfl (by simp [Value.cells]) rfl fun v58 h => ?_
              exact ⟨(_, _), rfl, b51, b56, b13, b14, s1, s2, rfl, hs1, hs2, (At.pick h [1, 3, 0, 2, 4, 5, 6] (by decide))⟩
            · refine r_new h fun b13 v59 h => ?_
              refine r_new h fun b51 v60 h => ?_
              refine r_st h 1 (o := 0) rfl rfl (by simp [Value.cells]) rfl fun v61 h => ?_
              refine r_st h 2 (o := 0) rfl rfl (by simp [Value.cells]) rfl fun v62 h => ?_
              exact ⟨(_, _), rfl, b51, b56, b13, b14, s1, s2, rfl, hs1, hs2, (At.pick h [0, 3, 1, 2, 4, 5, 6] (by decide))⟩
        · refine r_new h fun b13 v63 h => ?_
          refine r_all3 ?_ ?_ ?_
          · refine r_new h fun b51 v64 h => ?_
            refine r_all2 ?_ ?_
            · refine r_new h fun b56 v65 h => ?_
              refine r_new h fun b14 v66 h => ?_
              refine r_st h 3 (o := 0) rfl rfl (by simp [Value.cells]) rfl fun v67 h => ?_
              refine r_st h 0 (o := 0) rfl rfl (by simp [Value.cells]) rfl fun v68 h => ?_
              exact ⟨(_, _), rfl, b51, b56, b13, b14, s1, s2, rfl, hs1, hs2, (At.pick h [2, 1, 3, 0, 4, 5, 6] (by decide))⟩
            · refine r_new h fun b14 v69 h => ?_
              refine r_all2 ?_ ?_
              · refine r_new h fun b56 v70 h => ?_
                refine r_st h 3 (o := 0) rfl rfl (by simp [Value.cells]) rfl fun v71 h => ?_
                refine r_st h 1 (o := 0) rfl rfl (by simp [Value.cells]) rfl fun v72 h => ?_
                exact ⟨(_, _), rfl, b51, b56, b13, b14, s1, s2, rfl, hs1, hs2, (At.pick h [2, 0, 3, 1, 4, 5, 6] (by decide))⟩
              · refine r_st h 2 (o := 0) rfl rfl (by simp [Value.cells]) rfl fun v73 h => ?_
                refine r_new h fun b56 v74 h => ?_
                refine r_st h 1 (o := 0) rfl rfl (by simp [Value.cells]) rfl fun v75 h => ?_
                exact ⟨(_, _), rfl, b51, b56, b13, b14, s1, s2, rfl, hs1, hs2, (At.pick h [2, 0, 3, 1, 4, 5, 6] (by decide))⟩
          · refine r_new h fun b56 v76 h => ?_
            refine r_all2 ?_ ?_
            · refine r_new h fun b51 v77 h => ?_
              refine r_new h fun b14 v78 h => ?_
              refine r_st h 3 (o := 0) rfl rfl (by simp [Value.cells]) rfl fun v79 h => ?_
              refine r_st h 0 (o := 0) rfl rfl (by simp [Value.cells]) rfl fun v80 h => ?_
              exact ⟨(_, _), rfl, b51, b56, b13, b14, s1, s2, rfl, hs1, hs2, (At.pick h [1, 2, 3, 0, 4, 5, 6] (by decide))⟩
            · refine r_new h fun b14 v81 h => ?_
              refine r_new h fun b51 v82 h => ?_
              refine r_st h 3 (o := 0) rfl rfl (by simp [Value.cells]) rfl fun v83 h => ?_
              refine r_st h 1 (o := 0) rfl rfl (by simp [Value.cells]) rfl fun v84 h => ?_
              exact ⟨(_, _), rfl, b51, b56, b13, b14, s1, s2, rfl, hs1, hs2, (At.pick h [0, 2, 3, 1, 4, 5, 6] (by decide))⟩
          · refine r_new h fun b14 v85 h => ?_
            refine r_all2 ?_ ?_
            · refine r_new h fun b51 v86 h => ?_
              refine r_all2 ?_ ?_
              · refine r_new h fun b56 v87 h => ?_
                refine r_st h 3 (o := 0) rfl rfl (by simp [Value.cells]) rfl fun v88 h => ?_
                refine r_st h 2 (o := 0) rfl rfl (by simp [Value.cells]) rfl fun v89 h => ?_
                exact ⟨(_, _), rfl, b51, b56, b13, b14, s1, s2, rfl, hs1, hs2, (At.pick h [1, 0, 3, 2, 4, 5, 6] (by decide))⟩
              · refine r_st h 2 (o := 0) rfl rfl (by simp [Value.cells]) rfl fun v90 h => ?_
                refine r_new h fun b56 v91 h => ?_
                refine r_st h 2 (o := 0) rfl rfl (by simp [Value.cells]) rfl fun v92 h => ?_
                exact ⟨(_, _), rfl, b51, b56, b13, b14, s1, s2, rfl, hs1, hs2, (At.pick h [1, 0, 3, 2, 4, 5, 6] (by decide))⟩
            · refine r_new h fun b56 v93 h => ?_
              refine r_new h fun b51 v94 h => ?_
              refine r_st h 3 (o := 0) rfl rfl (by simp [Value.cells]) rfl fun v95 h => ?_
              refine r_st h 2 (o := 0) rfl rfl (by simp [Value.cells]) rfl fun v96 h => ?_
              exact ⟨(_, _), rfl, b51, b56, b13, b14, s1, s2, rfl, hs1, hs2, (At.pick h [0, 1, 3, 2, 4, 5, 6] (by decide))⟩
        · refine r_new h fun b14 v97 h => ?_
          refine r_all3 ?_ ?_ ?_
          · refine r_new h fun b51 v98 h => ?_
            refine r_all2 ?_ ?_
            · refine r_new h fun b56 v99 h => ?_
              refine r_new h fun b13 v100 h => ?_
              refine r_st h 0 (o := 0) rfl rfl (by simp [Value.cells]) rfl fun v101 h => ?_
              refine r_st h 3 (o := 0) rfl rfl (by simp [Value.cells]) rfl fun v102 h => ?_
              exact ⟨(_, _), rfl, b51, b56, b13, b14, s1, s2, rfl, hs1, hs2, (At.pick h [2, 1, 0, 3, 4, 5, 6] (by decide))⟩
            · refine r_new h fun b13 v103 h => ?_
              refine r_all2 ?_ ?_
              · refine r_new h fun b56 v104 h => ?_
                refine r_st h 1 (o := 0) rfl rfl (by simp [Value.cells]) rfl fun v105 h => ?_
                refine r_st h 3 (o := 0) rfl rfl (by simp [Value.cells]) rfl fun v106 h => ?_
                exact ⟨(_, _), rfl, b51, b56, b13, b14, s1, s2, rfl, hs1, hs2, (At.pick h [2, 0, 1, 3, 4, 5, 6] (by decide))⟩
              · refine r_st h 0 (o := 0) rfl rfl (by simp [Value.cells]) rfl fun v107 h => ?_
                refine r_new h fun b56 v108 h => ?_
                refine r_st h 3 (o := 0) rfl rfl (by simp [Value.cells]) rfl fun v109 h => ?_
                exact ⟨(_, _), rfl, b51, b56, b13, b14, s1, s2, rfl, hs1, hs2, (At.pick h [2, 0, 1, 3, 4, 5, 6] (by decide))⟩
          · refine r_new h fun b56 v110 h => ?_
            refine r_all2 ?_ ?_
            · refine r_new h fun b51 v111 h => ?_
              refine r_new h fun b13 v112 h => ?_
              refine r_st h 0 (o := 0) rfl rfl (by simp [Value.cells]) rfl fun v113 h => ?_
              refine r_st h 3 (o := 0) rfl rfl (by simp [Value.cells]) rfl fun v114 h => ?_
              exact ⟨(_, _), rfl, b51, b56, b13, b14, s1, s2, rfl, hs1, hs2, (At.pick h [1, 2, 0, 3, 4, 5, 6] (by decide))⟩
            · refine r_new h fun b13 v115 h => ?_
              refine r_new h fun b51 v116 h => ?_
              refine r_st h 1 (o := 0) rfl rfl (by simp [Value.cells]) rfl fun v117 h => ?_
              refine r_st h 3 (o := 0) rfl rfl (by simp [Value.cells]) rfl fun v118 h => ?_
              exact ⟨(_, _), rfl, b51, b56, b13, b14, s1, s2, rfl, hs1, hs2, (At.pick h [0, 2, 1, 3, 4, 5, 6] (by decide))⟩
          · refine r_new h fun b13 v119 h => ?_
            refine r_all2 ?_ ?_
            · refine r_new h fun b51 v120 h => ?_
              refine r_all2 ?_ ?_
              · refine r_new h fun b56 v121 h => ?_
                refine r_st h 2 (o := 0) rfl rfl (by simp [Value.cells]) rfl fun v122 h => ?_
                refine r_st h 3 (o := 0) rfl rfl (by simp [Value.cells]) rfl fun v123 h => ?_
                exact ⟨(_, _), rfl, b51, b56, b13, b14, s1, s2, rfl, hs1, hs2, (At.pick h [1, 0, 2, 3, 4, 5, 6] (by decide))⟩
              · refine r_st h 1 (o := 0) rfl rfl (by simp [Value.cells]) rfl fun v124 h => ?_
                refine r_new h fun b56 v125 h => ?_
                refine r_st h 3 (o := 0) rfl rfl (by simp [Value.cells]) rfl fun v126 h => ?_
                exact ⟨(_, _), rfl, b51, b56, b13, b14, s1, s2, rfl, hs1, hs2, (At.pick h [1, 0, 2, 3, 4, 5, 6] (by decide))⟩
            · refine r_new h fun b56 v127 h => ?_
              refine r_new h fun b51 v128 h => ?_
              refine r_st h 2 (o := 0) rfl rfl (by simp [Value.cells]) rfl fun v129 h => ?_
              refine r_st h 3 (o := 0) rfl rfl (by simp [Value.cells]) rfl fun v130 h => ?_
              exact ⟨(_, _), rfl, b51, b56, b13, b14, s1, s2, rfl, hs1, hs2, (At.pick h [0, 1, 2, 3, 4, 5, 6] (by decide))⟩
    · refine r_draw h fun w3 h => ?_
      refine r_if ((sp.n : Int) < (c : Int)) rfl (fun hlt => ?_) (fun hge => ?_)
      · rw [if_pos (.inl (by omega))] at hT
        exact r_all2 (r_ret h (false, 0) rfl hT) (r_ret h (false, 0) rfl hT)
      · refine r_heads hl rfl (by omega) fun s1 hs1 hn1 => ?_
        refine r_all2 ?_ ?_
        · refine r_call h (c_keyOfPeaks h hs1 (by omega) (by omega)) fun k w4 h _ ⟨hk, hk32, hkb⟩ => ?_
          subst hk
          refine r_ldA h 2 rfl rfl (by simp [hr]) ?_
          refine r_neK (n := 32) (e := ty_uint8) (by kernel_rfl) (by kernel_rfl) (by kernel_rfl) hk32 hr ?_
          by_cases hpk : ofPeaks (l.take (32 * c)) = root
          · exact r_false (by simp [hpk]) ⟨(), rfl, ⟨by omega, hpk⟩, h⟩
          · rw [if_pos (.inr hpk)] at hT
            exact r_true (by simp [hpk]) (r_ret h (false, 0) rfl hT)
        · refine r_ldA h 2 rfl rfl (by simp [hr]) ?_
          refine r_call h (c_keyOfPeaks h hs1 (by omega) (by omega)) fun k w4 h _ ⟨hk, hk32, hkb⟩ => ?_
          subst hk
          refine r_neK (n := 32) (e := ty_uint8) (by kernel_rfl) (by kernel_rfl) (by kernel_rfl) hk32 hr ?_
          by_cases hpk : ofPeaks (l.take (32 * c)) = root
          · exact r_false (by simp [hpk]) ⟨(), rfl, ⟨by omega, hpk⟩, h⟩
          · rw [if_pos (.inr hpk)] at hT
            exact r_true (by simp [hpk]) (r_ret h (false, 0) rfl hT)
  · refine r_if ((sp.n : Int) > 256) rfl (fun hgt => ?_) (fun hle => ?_)
    · rw [if_pos (by omega)] at hT
      exact r_ret h (false, 3) rfl hT
    rw [if_neg (by omega)] at hT
    refine r_callp (c_isLeaves n) ?_
    by_cases hn : 1 ≤ n ∧ n ≤ 256
    · refine r_false (by simp [hn]) ?_
      refine r_ld h 1 (o := 0) rfl rfl m (by simp [Sh.emb]) rfl ?_
      refine r_callp (c_within m 1 n) ?_
      by_cases hm : 1 ≤ m ∧ m ≤ n
      · exact r_false (by simp [hm]) ⟨(), rfl, ⟨by omega, hn, hm⟩, h⟩
      · rw [if_pos (.inr hm)] at hT
        exact r_true (by simp only [hm]; rfl) (r_ret h (false, 2) rfl hT)
    · rw [if_pos (.inl hn)] at hT
      exact r_true (by simp only [hn]; rfl) (r_ret h (false, 2) rfl hT)

end Go.Proofs.Ytjmncaoddfggnaa
