/- CheckRange: the program's closure, both sides. -/
import Derived.Test.YtjmncaoddfggnaaK2
namespace Go.Proofs.Ytjmncaoddfggnaa
open Go.Sx Go.RowKit

theorem At.perm {w0 w : World} {l l' : List Blk} (h : At w0 w l) (hp : l.Perm l') : At w0 w l' :=
  ⟨h.below, fun x hx => h.own x (hp.mem_iff.2 hx), fun x hx => h.ge x (hp.mem_iff.2 hx), (hp.map _).nodup_iff.1 h.nodup⟩
theorem At.sw1 {w0 w : World} {a b : Blk} {l : List Blk} (h : At w0 w (a :: b :: l)) : At w0 w (b :: a :: l) := At.perm h (.swap _ _ _)
theorem At.sw2 {w0 w : World} {a b c : Blk} {l : List Blk} (h : At w0 w (a :: b :: c :: l)) : At w0 w (a :: c :: b :: l) := At.perm h (.cons _ (.swap _ _ _))

theorem c_take {w0 w : World} {b : Nat} {rest : List Blk} {sq : Sl} {q : List Int} {ok : Bool} (hA : At w0 w ((b, #[.slice sq.a sq.n sq.c, .bool ok], ty_impl_queue) :: rest)) (hq : KS w0 sq q) :
    Calls Try.prog n_ptr_impl_queue_take #[.pointer (some ⟨b, 0, none⟩)] w fun e w' => ∃ v, e = .returned v ∧
      ((q.length < 32 ∧ v = .agg (u8s zeroK).toArray ∧ At w0 w' ((b, #[.slice sq.a sq.n sq.c, .bool false], ty_impl_queue) :: rest)) ∨
       (32 ≤ q.length ∧ v = .agg (u8s (q.take 32)).toArray ∧ ∃ sq', KS w0 sq' (q.drop 32) ∧ At w0 w' ((b, #[.slice sq'.a sq'.n sq'.c, .bool ok], ty_impl_queue) :: rest))) := ptr_impl_queue_take_calls _ (by
  unfold ptr_impl_queue_take
  have hql := hq.len
  refine r_new hA fun b2 w1 h => ?_
  refine r_ld h 1 rfl (add_lit _ _ _) sq (by simp [Sh.emb]) rfl ?_
  refine r_eq (fun h0 => ?_) (fun h0 => ?_)
  · refine r_st h 1 (o := 1) rfl (add_lit _ _ _) (by simp) rfl fun w2 h => ?_
    have h : At w0 w2 ((b2, Array.replicate 32 (.int .u8 0), ty_impl_Key) :: (b, #[.slice sq.a sq.n sq.c, .bool false], ty_impl_queue) :: rest) := h
    refine r_stA h 0 rfl rfl (by simp) (by simp) rep_one fun w3 h => ?_
    refine r_ldA h 0 rfl rfl (by simp) ?_
    exact r_retR (.inl ⟨by omega, rfl, h.take _ (List.sublist_cons_self _ _)⟩)
  · refine r_ld h 1 rfl (add_lit _ _ _) sq (by simp [Sh.emb]) rfl ?_
    obtain ⟨p, hp, hl⟩ := hq.head (by omega)
    refine r_ix p hp (by omega) (by omega) ?_
    refine r_ldO h _ (by have : p.add (Int.toNat 0 * 32) = p := by simp [Addr.add]
                         rw [this]; exact hl) (by simp) ?_
    have hk32 : (q.take 32).length = 32 := by simp; omega
    refine r_new h fun b3 w2 h => ?_
    refine r_stA h 0 rfl rfl (by simp [hk32]) (by simp [Value.cells]) (by simpa using u8s_one) fun w3 h => ?_
    refine r_ld h 2 rfl (add_lit _ _ _) sq (by simp [Sh.emb]) rfl ?_
    refine r_tail hq (by omega) fun s' hs' hsn => ?_
    refine r_st h 2 (o := 0) rfl (add_lit _ _ _) (by simp) rfl fun w4 h => ?_
    have h : At w0 w4 ((b3, (u8s (q.take 32)).toArray, ty_impl_Key) :: (b2, Array.replicate 32 (.int .u8 0), ty_impl_Key) :: (b, #[.slice s'.a s'.n s'.c, .bool ok], ty_impl_queue) :: rest) := h
    refine r_ldA h 0 rfl rfl (by simp [hk32]) ?_
    refine r_stA h 1 rfl rfl (by simp [hk32]) (by simp) (by simpa using u8s_one) fun w5 h => ?_
    refine r_ldA h 1 rfl rfl (by simp [hk32]) ?_
    exact r_retR (.inr ⟨by omega, rfl, s', hs', h.take _ ((List.sublist_cons_self _ _).trans (List.sublist_cons_self _ _))⟩))

/-- The variables that CheckRange's function reads and writes. -/
structure CRB where
  (b52 b12 b13 b14 b8 b7 b5 : Nat)
  root : Array Value
  slv : Sl
  first : Int
  e : Int
abbrev CRB.fn (B : CRB) : Value := .func (.func n_impl_CheckRange_1) #[] #[.pointer (some ⟨B.b7, 0, none⟩), .pointer (some ⟨B.b12, 0, none⟩), .pointer (some ⟨B.b13, 0, none⟩), .pointer (some ⟨B.b8, 0, none⟩), .pointer (some ⟨B.b14, 0, none⟩)]
abbrev CRB.rest (B : CRB) : List Blk := [(B.b12, #[.int .i64 B.e], ty_int64), (B.b13, #[.pointer (some ⟨B.b52, 0, none⟩)], ty_ptr_impl_queue), (B.b14, #[B.fn], ty_func_int64_int64_impl_Key),
  (B.b8, #[.slice B.slv.a B.slv.n B.slv.c], ty_sl_impl_Key), (B.b7, #[.int .i64 B.first], ty_int64), (B.b5, B.root, ty_impl_Key)]
abbrev CRB.L (B : CRB) (q : Sl) (ok : Bool) : List Blk := (B.b52, #[.slice q.a q.n q.c, .bool ok], ty_impl_queue) :: B.rest

def CR1R (w0 : World) (B : CRB) (xs : List Blk) (o : Option (List Int × List Int)) (v : Value) (w' : World) : Prop :=
  ∃ (a : List Int) (sq' : Sl) (ok' : Bool), v = .agg (u8s a).toArray ∧ a.length = 32 ∧ bytesOk a ∧ At w0 w' (B.L sq' ok' ++ xs) ∧ match o with
    | none => ok' = false ∧ ∃ q', KS w0 sq' q'
    | some (a', q1) => a = a' ∧ ok' = true ∧ KS w0 sq' q1

theorem c_CR1 {w0 : World} {B : CRB} {lv : List Int} (hlv : KS w0 B.slv lv) (hlm : B.slv.n ≤ 65536) (hf1 : 0 ≤ B.first) (hf2 : B.first ≤ 65536) (hend : B.e = B.first + B.slv.n) :
    ∀ (f n : Nat) (lo : Int) (sq : Sl) (q : List Int) (ok : Bool) (w : World) (xs : List Blk), At w0 w (B.L sq ok ++ xs) → KS w0 sq q → 1 ≤ n → n ≤ f → 0 ≤ lo → lo + n ≤ 65536 →
    Calls Try.prog n_impl_CheckRange_1 #[.int .i64 lo, .int .i64 (n : Int), .pointer (some ⟨B.b7, 0, none⟩), .pointer (some ⟨B.b12, 0, none⟩), .pointer (some ⟨B.b13, 0, none⟩), .pointer (some ⟨B.b8, 0, none⟩), .pointer (some ⟨B.b14, 0, none⟩)] w
      fun e w' => ∃ v, e = .returned v ∧ CR1R w0 B xs (if ok then told f n (B.first - lo) lv q else none) v w'
  | 0, n, lo, sq, q, ok, w, xs, hA, hq, h1, hf, hl0, hl1 => by omega
  | f + 1, n, lo, sq, q, ok, w, xs, hA, hq, h1, hf, hl0, hl1 => by
    generalize hT : (if ok then told (f + 1) n (B.first - lo) lv q else none) = T
    rw [told] at hT
    have hll := hlv.len
    have hlvn : lv.length / 32 = B.slv.n := by omega
    refine impl_CheckRange_1_calls _ _ _ _ _ _ _ ?_
    unfold impl_CheckRange_1
    refine r_new hA fun b9 w1 h => ?_
    have h : At w0 w1 (B.L sq ok ++ ((b9, Array.replicate 32 (.int .u8 0), ty_impl_Key) :: xs)) := At.perm h List.perm_middle.symm
    refine r_join (σ := Bool) (fun s w' => s = decide (B.first - lo + (lv.length / 32 : Nat) ≤ 0 ∨ (n : Int) ≤ B.first - lo) ∧ At w0 w' (B.L sq ok ++ ((b9, Array.replicate 32 (.int .u8 0), ty_impl_Key) :: xs))) (fun s w2 hs => ?_) ?_
    · obtain ⟨rfl, h⟩ := hs
      refine r_any fun _ => ?_
      have hdone : ∀ {w' : World} {a : List Int} {sq' : Sl} {ok' : Bool} {X : Array Value}, At w0 w' (B.L sq' ok' ++ ((b9, X, ty_impl_Key) :: xs)) → At w0 w' (B.L sq' ok' ++ xs) := fun h => h.take _ (List.Sublist.append_left (List.sublist_cons_self _ _) _)
      refine r_if (B.first - lo + (lv.length / 32 : Nat) ≤ 0 ∨ (n : Int) ≤ B.first - lo) rfl (fun hout => ?_) (fun hin => ?_)
      · rw [if_pos hout] at hT
        refine r_ld h 2 (o := 0) rfl rfl (⟨B.b52, 0, none⟩ : Addr) (by simp [Sh.emb]) rfl ?_
        refine r_callR (c_take h hq) ?_
        rintro v w3 (⟨hlt, rfl, h⟩ | ⟨hge, rfl, s', hs', h⟩)
        · refine ⟨_, rfl, ?_⟩
          rw [if_pos hlt] at hT
          refine r_stA h 7 rfl rfl (by simp [zeroK_len]) (by simp) (by simpa using u8s_one) fun w4 h => ?_
          refine r_ldA h 7 rfl rfl (by simp [zeroK_len]) ?_
          refine r_retR ⟨zeroK, sq, false, rfl, rfl, zeroK_ok, hdone (a := zeroK) h, ?_⟩
          have : T = none := by rw [← hT]; cases ok <;> rfl
          subst this
          exact ⟨rfl, q, hq⟩
        · refine ⟨_, rfl, ?_⟩
          rw [if_neg (show ¬ q.length < 32 by omega)] at hT
          have hk32 : (q.take 32).length = 32 := by simp; omega
          refine r_stA h 7 rfl rfl (by simp [hk32]) (by simp) (by simpa using u8s_one) fun w4 h => ?_
          refine r_ldA h 7 rfl rfl (by simp [hk32]) ?_
          refine r_retR ⟨_, s', ok, rfl, hk32, hq.ok.take _, hdone (a := zeroK) h, ?_⟩
          subst hT
          cases ok
          · exact ⟨rfl, _, hs'⟩
          · exact ⟨rfl, rfl, hs'⟩
      · rw [if_neg hin] at hT
        refine r_eq (fun hn1 => ?_) (fun hn1 => ?_)
        · have hn1 : n = 1 := by omega
          rw [if_pos hn1] at hT
          refine r_ld h 4 (o := 0) rfl rfl B.slv (by simp [Sh.emb]) rfl ?_
          refine r_ld h 5 (o := 0) rfl rfl B.first (by simp [Sh.emb]) rfl ?_
          have hi : (-(B.first - lo)).toNat < B.slv.n := by omega
          obtain ⟨p, hp, hl⟩ := hlv.key hi
          have e1 : IntKind.wrap .i64 (lo - B.first) = ((-(B.first - lo)).toNat : Int) := by rw [w64 (by omega) (by omega)]; omega
          rw [e1]
          have hk32 : (keyAt lv (-(B.first - lo)).toNat).length = 32 := keyAt_len (by omega)
          refine r_ix p hp (by omega) (by omega) ?_
          refine r_ldO h _ (by simp only [Int.toNat_natCast]; exact hl) (by simp) ?_
          refine r_stA h 7 rfl rfl (by simp [hk32]) (by simp) (by simpa using u8s_one) fun w4 h => ?_
          refine r_ldA h 7 rfl rfl (by simp [hk32]) ?_
          refine r_retR ⟨_, sq, ok, rfl, hk32, keyAt_ok hlv.ok _, hdone (a := zeroK) h, ?_⟩
          subst hT
          cases ok
          · exact ⟨rfl, _, hq⟩
          · exact ⟨rfl, rfl, hq⟩
        · have hn1 : ¬ n = 1 := by omega
          rw [if_neg hn1] at hT
          obtain ⟨hh1, hh2⟩ := half_lt (n := n) (by omega)
          refine r_callp (c_leftOf n (by omega) (by omega)) ?_
          refine r_ld (sh := .val) h 3 (o := 0) rfl rfl B.fn (by simp [Sh.emb]) rfl ?_
          refine r_callVR (by kernel_rfl) (c_CR1 hlv hlm hf1 hf2 hend f (half n) lo sq q ok w2 _ h hq hh2 (by omega) hl0 (by omega)) ?_
          rintro v w3 ⟨a, sq1, ok1, rfl, ha32, hab, h, ho⟩
          refine ⟨_, rfl, ?_⟩
          refine r_new h fun b11 w4 h => ?_
          have h : At w0 w4 (B.L sq1 ok1 ++ ((b11, Array.replicate 32 (.int .u8 0), ty_impl_Key) :: (b9, Array.replicate 32 (.int .u8 0), ty_impl_Key) :: xs)) := At.perm h List.perm_middle.symm
          refine r_stA h 7 rfl rfl (by simp [ha32]) (by simp) (by simpa using u8s_one) fun w5 h => ?_
          refine r_draw h fun w6 h => ?_
          refine r_ldA h 7 rfl rfl (by simp [ha32]) ?_
          refine r_ld (sh := .val) h 3 (o := 0) rfl rfl B.fn (by simp [Sh.emb]) rfl ?_
          have e1 : IntKind.wrap .i64 (lo + (half n : Int)) = lo + half n := w64 (by omega) (by omega)
          have e2 : IntKind.wrap .i64 ((n : Int) - (half n : Int)) = ((n - half n : Nat) : Int) := by rw [w64 (by omega) (by omega)]; omega
          rw [e1, e2]
          obtain ⟨q1, hq1⟩ : ∃ q1, KS w0 sq1 q1 ∧ (∀ a' q', (if ok then told f (half n) (B.first - lo) lv q else none) = some (a', q') → q1 = q' ∧ a = a' ∧ ok1 = true) ∧ ((if ok then told f (half n) (B.first - lo) lv q else none) = none → ok1 = false) := by
            generalize (if ok then told f (half n) (B.first - lo) lv q else none) = o at ho
            cases o with
            | none => exact ⟨_, ho.2.choose_spec, by simp, fun _ => ho.1⟩
            | some aq =>
              obtain ⟨a', q'⟩ := aq
              exact ⟨q', ho.2.2, fun x y hxy => by cases hxy; exact ⟨rfl, ho.1, ho.2.1⟩, by simp⟩
          obtain ⟨hq1, hsome, hnone⟩ := hq1
          refine r_callVR (by kernel_rfl) (c_CR1 hlv hlm hf1 hf2 hend f (n - half n) (lo + half n) sq1 q1 ok1 w6 _ h hq1 (by omega) (by omega) (by omega) (by omega)) ?_
          rintro v w7 ⟨b, sq2, ok2, rfl, hb32, hbb, h, ho2⟩
          refine ⟨_, rfl, ?_⟩
          refine r_chk1 (ldOk_blk h 7 rfl (by simp [ha32])) ?_
          refine r_call h (c_NodeKey ha32 hb32 hab hbb w7) fun k w9 h _ hk => ?_
          subst hk
          refine r_stA h 8 rfl rfl (by simp [hashL_len]) (by simp) (by simpa using u8s_one) fun w10 h => ?_
          refine r_ldA h 8 rfl rfl (by simp [hashL_len]) ?_
          have hend' : At w0 w10 (B.L sq2 ok2 ++ xs) := h.take _ (List.Sublist.append_left ((List.sublist_cons_self _ _).trans (List.sublist_cons_self _ _)) _)
          refine r_retR ⟨_, sq2, ok2, rfl, hashL_len _ _, hashL_ok _ _, hend', ?_⟩
          rw [show B.first - (lo + (half n : Int)) = B.first - lo - half n by omega] at ho2
          cases ok with
          | false =>
            simp only [Bool.false_eq_true, if_false] at hT hnone
            subst hT
            have := hnone trivial
            subst this
            exact ho2
          | true =>
            simp only [if_true] at hT hnone hsome
            generalize told f (half n) (B.first - lo) lv q = o at hT hnone hsome
            cases o with
            | none =>
              have := hnone rfl
              subst this
              dsimp only at hT
              subst hT
              exact ho2
            | some aq =>
              obtain ⟨a', q'⟩ := aq
              obtain ⟨rfl, rfl, rfl⟩ := hsome _ _ rfl
              dsimp only at hT
              simp only [if_true] at ho2
              generalize told f (n - half n) (B.first - lo - half n) lv q1 = o2 at hT ho2
              cases o2 with
              | none => dsimp only at hT; subst hT; exact ho2
              | some bq =>
                obtain ⟨b', q2⟩ := bq
                dsimp only at hT ho2
                subst hT
                obtain ⟨rfl, hok2, hq2⟩ := ho2
                exact ⟨rfl, hok2, hq2⟩
    · refine r_ld h 5 (o := 0) rfl rfl B.first (by simp [Sh.emb]) rfl ?_
      have e1 : IntKind.wrap .i64 (lo + (n : Int)) = lo + n := w64 (by omega) (by omega)
      rw [e1]
      refine r_if (lo + (n : Int) ≤ B.first) rfl (fun hout => ?_) (fun hin => ?_)
      · exact ⟨true, rfl, (decide_eq_true (Or.inr (by omega))).symm, h⟩
      · refine r_ld h 1 (o := 0) rfl rfl B.e (by simp [Sh.emb]) rfl ?_
        refine ⟨decide (lo ≥ B.e), rfl, ?_, h⟩
        rw [hend]
        apply decide_eq_decide.2
        omega

end Go.Proofs.Ytjmncaoddfggnaa
