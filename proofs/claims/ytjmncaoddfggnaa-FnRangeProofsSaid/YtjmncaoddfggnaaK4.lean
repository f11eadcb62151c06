/- CheckRange: the two are alike. -/
import Derived.Test.YtjmncaoddfggnaaK3
namespace Go.Proofs.Ytjmncaoddfggnaa
open Go.Sx Go.RowKit

/-- What CheckRange answers. -/
def rangeAns (root : List Int) (n first : Int) (lv q : List Int) : Bool × Int :=
  if 256 < lv.length / 32 ∨ 256 < q.length / 32 then (false, 3)
  else if ¬ (1 ≤ n ∧ n ≤ 256) ∨ lv = [] ∨ ¬ (0 ≤ first ∧ first ≤ n - (lv.length / 32 : Nat)) then (false, 2)
  else match told n.toNat n.toNat first lv q with
    | none => (false, 0)
    | some (a, q1) => (decide (q1 = []) && decide (a = root), 0)

theorem r_eqK {P : Program} {R : Value → World → Prop} {w : World} {t e n : Nat} (hu : P.underlying t = some (.array n e)) (he : tyOf P e = some (.int .u8, 1)) (hg : P.eqGuardType P.depth t = false) {x y : Operand} {a b : List Int} (ha : a.length = n) (hb : b.length = n) {k : Bool → World → Prop} (h : k (decide (a = b)) w) :
    ((real P R).pur (eqB .eql t x y (.agg (u8s a).toArray) (.agg (u8s b).toArray)) .bool k : World → Prop) w := r_pur _ (fun w' => run_eql_u8 hu he hg x y ha hb w') h

theorem nil_iff {w : World} {s : Sl} {l : List Int} (h : KS w s l) : s.n = 0 ↔ l = [] := by
  have := h.len
  constructor
  · intro h0; exact List.eq_nil_of_length_eq_zero (by omega)
  · rintro rfl; simp at this; omega

theorem c_spec_CheckRange {w : World} {slv sq : Sl} {root lv q : List Int} (n first : Int) (hr : root.length = 32) (hlv : KS w slv lv) (hq : KS w sq q) :
    Ret Try.prog n_spec_CheckRange [.agg (u8s root).toArray, .int .i64 n, .int .i64 first, .slice slv.a slv.n slv.c, .slice sq.a sq.n sq.c] w [.bool, .int .i64] (fun r _ => r = rangeAns root n first lv q) := by
  generalize hT : rangeAns root n first lv q = T
  unfold rangeAns at hT
  have hll := hlv.len
  have hql := hq.len
  have e1 : lv.length / 32 = slv.n := by omega
  have e2 : q.length / 32 = sq.n := by omega
  rw [e1, e2] at hT
  refine spec_CheckRange_calls _ _ _ _ _ ?_
  unfold spec_CheckRange
  refine r_new (At.refl w) fun b5 w1 h => ?_
  refine r_join (σ := Unit) (fun _ w' => (slv.n ≤ 256 ∧ sq.n ≤ 256) ∧ At w w' [(b5, (u8s root).toArray, ty_impl_Key)]) (fun _ w2 hs => ?_) ?_
  · obtain ⟨hsz, h⟩ := hs
    rw [if_neg (by omega)] at hT
    refine r_any fun _ => ?_
    refine r_join (σ := Unit) (fun _ w' => ((1 ≤ n ∧ n ≤ 256) ∧ lv ≠ [] ∧ (0 ≤ first ∧ first ≤ n - slv.n)) ∧ At w w' [(b5, (u8s root).toArray, ty_impl_Key)]) (fun _ w2 hs => ?_) ?_
    · obtain ⟨⟨hn, hne, hf⟩, h⟩ := hs
      rw [if_neg (by simp only [not_or, Decidable.not_not]; exact ⟨hn, hne, hf⟩)] at hT
      refine r_any fun _ => ?_
      obtain ⟨N, hN⟩ : ∃ N : Nat, n = N := ⟨n.toNat, by omega⟩
      subst hN
      rw [Int.toNat_natCast] at hT
      refine r_call h (c_l03Told hlv (by omega) N N first sq q w2 _ h hq (by omega) (by omega) (Nat.le_refl _) (by omega) (by omega) (by omega)) fun r w3 h _ ⟨hr', _⟩ => ?_
      obtain ⟨ra, rs, rb⟩ := r
      obtain ⟨a, rfl, ha32, hab, hr'⟩ := hr'
      dsimp only at hr' ⊢
      refine r_new h fun b12 w4 h => ?_
      refine r_stA h 0 rfl rfl (by simp [ha32]) (by simp [Value.cells]) (by simpa using u8s_one) fun w5 h => ?_
      generalize told N N first lv q = o at hT hr'
      cases o with
      | none =>
        dsimp only at hr' hT
        subst hr' hT
        refine r_false rfl ?_
        exact r_ret h (false, 0) rfl rfl
      | some aq =>
        obtain ⟨a', q1⟩ := aq
        dsimp only at hr' hT
        obtain ⟨rfl, rfl, hq1⟩ := hr'
        subst hT
        have hni := nil_iff hq1
        refine r_true rfl ?_
        refine r_eq (fun h0 => ?_) (fun h0 => ?_)
        · refine r_ldA h 0 rfl rfl (by simp [ha32]) ?_
          refine r_ldA h 1 rfl rfl (by simp [hr]) ?_
          refine r_eqK (n := 32) (e := ty_uint8) (by kernel_rfl) (by kernel_rfl) (by kernel_rfl) ha32 hr ?_
          have : q1 = [] := hni.1 (by omega)
          exact r_ret h (decide (a = root), 0) rfl (by simp [this])
        · have : ¬ q1 = [] := fun hh => by have := hni.2 hh; omega
          exact r_ret h (false, 0) rfl (by simp [this])
    · refine r_callp (c_l00In n 1 256) ?_
      by_cases hn : 1 ≤ n ∧ n ≤ 256
      · refine r_false (by simp [hn]) ?_
        have hni := nil_iff hlv
        refine r_eq (fun h0 => ?_) (fun h0 => ?_)
        · rw [if_pos (.inr (.inl (hni.1 (by omega))))] at hT
          exact r_ret h (false, 2) rfl hT
        · have e3 : IntKind.wrap .i64 (n - (slv.n : Int)) = n - slv.n := w64 (by omega) (by omega)
          rw [e3]
          refine r_callp (c_l00In first 0 _) ?_
          by_cases hf : 0 ≤ first ∧ first ≤ n - slv.n
          · refine r_false (by simp [hf]) ?_
            exact ⟨(), rfl, ⟨hn, fun hh => h0 (by have := hni.2 hh; omega), hf⟩, h⟩
          · refine r_true (by simp only [hf]; rfl) ?_
            rw [if_pos (.inr (.inr hf))] at hT
            exact r_ret h (false, 2) rfl hT
      · refine r_true (by simp only [hn]; rfl) ?_
        rw [if_pos (.inl hn)] at hT
        exact r_ret h (false, 2) rfl hT
  · refine r_if ((slv.n : Int) > 256) rfl (fun hgt => ?_) (fun hle => ?_)
    · rw [if_pos (.inl (by omega))] at hT
      exact r_ret h (false, 3) rfl hT
    · refine r_if ((sq.n : Int) > 256) rfl (fun hgt => ?_) (fun hle => ?_)
      · rw [if_pos (.inr (by omega))] at hT
        exact r_ret h (false, 3) rfl hT
      · exact ⟨(), rfl, ⟨by omega, by omega⟩, h⟩

theorem ldM {w0 w : World} {ls : List Blk} (hA : At w0 w ls) {b : Nat} {sh : Sh} {x : sh.T} (t : TypeId) (hs : sh ≠ .agg) (hm : (b, #[sh.emb x], t) ∈ ls) : ldOk w 1 ⟨b, 0, none⟩ sh x := by
  have hb := hA.own _ hm
  have hc : w.cell? ⟨b, 0, none⟩ = some (sh.emb x) := by simp [World.cell?, hb]
  cases sh
  case agg => exact (hs rfl).elim
  all_goals exact hc

theorem r_chk2 {P : Program} {R : Value → World → Prop} {w : World} {h1 h2 : Held} {k : World → Prop} (a : ldOk w h1.n h1.p h1.sh h1.x) (b : ldOk w h2.n h2.p h2.sh h2.x) (h : k w) : ((real P R).chk [h1, h2] k : World → Prop) w :=
  ⟨fun x hx => by
    simp at hx
    rcases hx with rfl | rfl
    · exact a
    · exact b, h⟩

theorem run_queue (s : Sl) (w : World) : (Instr.build ty_impl_queue #[(0, (.slice s.a s.n s.c)), (1, (.bool true))]).run Try.prog w = .ok (.agg #[.slice s.a s.n s.c, .bool true]) w := by kernel_rfl

theorem c_impl_CheckRange {w : World} {slv sq : Sl} {root lv q : List Int} (n first : Int) (hfr : first ≤ 9223372036854775807) (hr : root.length = 32) (hlv : KS w slv lv) (hq : KS w sq q) :
    Ret Try.prog n_impl_CheckRange [.agg (u8s root).toArray, .int .i64 n, .int .i64 first, .slice slv.a slv.n slv.c, .slice sq.a sq.n sq.c] w [.bool, .int .i64] (fun r _ => r = rangeAns root n first lv q) := by
  generalize hT : rangeAns root n first lv q = T
  unfold rangeAns at hT
  have hll := hlv.len
  have hql := hq.len
  have e1 : lv.length / 32 = slv.n := by omega
  have e2 : q.length / 32 = sq.n := by omega
  rw [e1, e2] at hT
  have hni := nil_iff hlv
  refine impl_CheckRange_calls _ _ _ _ _ ?_
  unfold impl_CheckRange
  refine r_new (At.refl w) fun b5 w1 h => ?_
  refine r_new h fun b7 w2 h => ?_
  refine r_new h fun b8 w3 h => ?_
  have h : At w w3 [(b8, #[.slice slv.a slv.n slv.c], ty_sl_impl_Key), (b7, #[.int .i64 first], ty_int64), (b5, (u8s root).toArray, ty_impl_Key)] := h
  refine r_join (σ := Unit) (fun _ w' => (slv.n ≤ 256 ∧ sq.n ≤ 256 ∧ (1 ≤ n ∧ n ≤ 256) ∧ lv ≠ [] ∧ (0 ≤ first ∧ first ≤ n - slv.n)) ∧ At w w' [(b8, #[.slice slv.a slv.n slv.c], ty_sl_impl_Key), (b7, #[.int .i64 first], ty_int64), (b5, (u8s root).toArray, ty_impl_Key)]) (fun _ w2 hs => ?_) ?_
  · obtain ⟨⟨hs1, hs2, hn, hne, hf⟩, h⟩ := hs
    rw [if_neg (by omega), if_neg (by simp only [not_or, Decidable.not_not]; exact ⟨hn, hne, hf⟩)] at hT
    refine r_any fun _ => ?_
    refine r_join (σ := Addr × Addr) (fun s w' => ∃ b52 b12 b13, s = (⟨b12, 0, none⟩, ⟨b13, 0, none⟩) ∧ At w w' [(b52, #[.slice sq.a sq.n sq.c, .bool true], ty_impl_queue), (b12, #[.int .i64 (first + slv.n)], ty_int64), (b13, #[.pointer (some ⟨b52, 0, none⟩)], ty_ptr_impl_queue), (b8, #[.slice slv.a slv.n slv.c], ty_sl_impl_Key), (b7, #[.int .i64 first], ty_int64), (b5, (u8s root).toArray, ty_impl_Key)]) (fun s w3 hs => ?_) ?_
    · obtain ⟨b52, b12, b13, rfl, h⟩ := hs
      refine r_any fun _ => ?_
      dsimp only
      refine r_new h fun b14 w4 h => ?_
      refine r_st h 0 (o := 0) rfl rfl (by simp [Value.cells]) rfl fun w5 h => ?_
      let B : CRB := ⟨b52, b12, b13, b14, b8, b7, b5, (u8s root).toArray, slv, first, first + slv.n⟩
      have h : At w w5 (B.L sq true ++ []) := At.perm (l := (b14, #[B.fn], ty_func_int64_int64_impl_Key) :: _) h (List.perm_middle (l₁ := [_, _, _])).symm
      refine r_ld (sh := .val) h 3 (o := 0) rfl rfl B.fn (by simp [Sh.emb]) rfl ?_
      obtain ⟨N, hN⟩ : ∃ N : Nat, n = N := ⟨n.toNat, by omega⟩
      subst hN
      rw [Int.toNat_natCast] at hT
      refine r_callVR (by kernel_rfl) (c_CR1 (B := B) hlv (by show slv.n ≤ _; omega) hf.1 (by show first ≤ _; omega) rfl N N 0 sq q true w5 _ h hq (by omega) (Nat.le_refl _) (by omega) (by omega)) ?_
      rintro v w6 ⟨a, sq1, ok1, rfl, ha32, hab, h, ho⟩
      refine ⟨_, rfl, ?_⟩
      refine r_new h fun b15 w7 h => ?_
      refine r_stA h 0 rfl rfl (by simp [ha32]) (by simp [Value.cells]) (by simpa using u8s_one) fun w8 h => ?_
      refine r_ld h 3 (o := 0) rfl rfl (⟨b52, 0, none⟩ : Addr) (by simp [Sh.emb]) rfl ?_
      refine r_ld h 1 (o := 1) rfl (add_lit _ _ _) ok1 (by simp [Sh.emb]) rfl ?_
      rw [if_pos rfl, show B.first - 0 = first from Int.sub_zero _] at ho
      generalize told N N first lv q = o at hT ho
      cases o with
      | none =>
        dsimp only at ho hT
        obtain ⟨rfl, _⟩ := ho
        subst hT
        refine r_false rfl ?_
        exact r_ret h (false, 0) rfl rfl
      | some aq =>
        obtain ⟨a', q1⟩ := aq
        dsimp only at ho hT
        obtain ⟨rfl, rfl, hq1⟩ := ho
        subst hT
        have hni := nil_iff hq1
        refine r_true rfl ?_
        refine r_ld h 3 (o := 0) rfl rfl (⟨b52, 0, none⟩ : Addr) (by simp [Sh.emb]) rfl ?_
        refine r_ld h 1 (o := 0) rfl (add_lit _ _ _) sq1 (by simp [Sh.emb]) rfl ?_
        refine r_eq (fun h0 => ?_) (fun h0 => ?_)
        · refine r_ldA h 0 rfl rfl (by simp [ha32]) ?_
          refine r_ldA h 7 (b := b5) (cs := (u8s root).toArray) rfl rfl (by simp [hr]) ?_
          refine r_eqK (n := 32) (e := ty_uint8) (by kernel_rfl) (by kernel_rfl) (by kernel_rfl) ha32 hr ?_
          have : q1 = [] := hni.1 (by omega)
          exact r_ret h (decide (a = root), 0) rfl (by simp [this])
        · have : ¬ q1 = [] := fun hh => by have := hni.2 hh; omega
          exact r_ret h (false, 0) rfl (by simp [this])
    · refine r_draw h fun w3 h => ?_
      refine r_ld h 1 (o := 0) rfl rfl first (by simp [Sh.emb]) rfl ?_
      refine r_ld h 0 (o := 0) rfl rfl slv (by simp [Sh.emb]) rfl ?_
      refine r_callP (c_size_Key slv) ?_
      have e3 : IntKind.wrap .i64 (first + (slv.n : Int)) = first + slv.n := w64 (by omega) (by omega)
      rw [e3]
      refine r_pur _ (fun w' => run_queue sq w') ?_
      refine r_all3 ?_ ?_ ?_
      · refine r_new h fun b52 w4 h => ?_
        refine r_chk2 (ldM h ty_sl_impl_Key (by simp) (by simp [Sh.emb])) (ldM h ty_int64 (by simp) (by simp [Sh.emb])) ?_
        refine r_all2 ?_ ?_
        · refine r_new h fun b12 w5 h => ?_
          refine r_chk2 (ldM h ty_sl_impl_Key (by simp) (by simp [Sh.emb])) (ldM h ty_int64 (by simp) (by simp [Sh.emb])) ?_
          refine r_new h fun b13 w6 h => ?_
          refine r_chk2 (ldM h ty_sl_impl_Key (by simp) (by simp [Sh.emb])) (ldM h ty_int64 (by simp) (by simp [Sh.emb])) ?_
          refine r_st h 1 (o := 0) rfl rfl (by simp [Value.cells]) rfl fun w7 h => ?_
          refine r_st h 0 (o := 0) rfl rfl (by simp [Value.cells]) rfl fun w8 h => ?_
          exact ⟨(_, _), rfl, b52, b12, b13, rfl, (At.sw1 (At.sw2 (At.sw1 h)))⟩
        · refine r_new h fun b13 w6 h => ?_
          refine r_chk2 (ldM h ty_sl_impl_Key (by simp) (by simp [Sh.emb])) (ldM h ty_int64 (by simp) (by simp [Sh.emb])) ?_
          refine r_new h fun b12 w5 h => ?_
          refine r_chk2 (ldM h ty_sl_impl_Key (by simp) (by simp [Sh.emb])) (ldM h ty_int64 (by simp) (by simp [Sh.emb])) ?_
          refine r_st h 0 (o := 0) rfl rfl (by simp [Value.cells]) rfl fun w7 h => ?_
          refine r_st h 1 (o := 0) rfl rfl (by simp [Value.cells]) rfl fun w8 h => ?_
          exact ⟨(_, _), rfl, b52, b12, b13, rfl, (At.sw1 (At.sw2 h))⟩
      · refine r_new h fun b12 w5 h => ?_
        refine r_chk2 (ldM h ty_sl_impl_Key (by simp) (by simp [Sh.emb])) (ldM h ty_int64 (by simp) (by simp [Sh.emb])) ?_
        refine r_all2 ?_ ?_
        · refine r_new h fun b52 w4 h => ?_
          refine r_chk2 (ldM h ty_sl_impl_Key (by simp) (by simp [Sh.emb])) (ldM h ty_int64 (by simp) (by simp [Sh.emb])) ?_
          refine r_new h fun b13 w6 h => ?_
          refine r_chk2 (ldM h ty_sl_impl_Key (by simp) (by simp [Sh.emb])) (ldM h ty_int64 (by simp) (by simp [Sh.emb])) ?_
          refine r_st h 2 (o := 0) rfl rfl (by simp [Value.cells]) rfl fun w7 h => ?_
          refine r_st h 0 (o := 0) rfl rfl (by simp [Value.cells]) rfl fun w8 h => ?_
          exact ⟨(_, _), rfl, b52, b12, b13, rfl, (At.sw2 (At.sw1 h))⟩
        · refine r_new h fun b13 w6 h => ?_
          refine r_chk2 (ldM h ty_sl_impl_Key (by simp) (by simp [Sh.emb])) (ldM h ty_int64 (by simp) (by simp [Sh.emb])) ?_
          refine r_all2 ?_ ?_
          · refine r_new h fun b52 w4 h => ?_
            refine r_chk2 (ldM h ty_sl_impl_Key (by simp) (by simp [Sh.emb])) (ldM h ty_int64 (by simp) (by simp [Sh.emb])) ?_
            refine r_st h 2 (o := 0) rfl rfl (by simp [Value.cells]) rfl fun w7 h => ?_
            refine r_st h 1 (o := 0) rfl rfl (by simp [Value.cells]) rfl fun w8 h => ?_
            exact ⟨(_, _), rfl, b52, b12, b13, rfl, (At.sw2 h)⟩
          · refine r_st h 1 (o := 0) rfl rfl (by simp [Value.cells]) rfl fun w7 h => ?_
            refine r_new h fun b52 w4 h => ?_
            refine r_st h 1 (o := 0) rfl rfl (by simp [Value.cells]) rfl fun w8 h => ?_
            exact ⟨(_, _), rfl, b52, b12, b13, rfl, (At.sw2 h)⟩
      · refine r_new h fun b13 w6 h => ?_
        refine r_chk2 (ldM h ty_sl_impl_Key (by simp) (by simp [Sh.emb])) (ldM h ty_int64 (by simp) (by simp [Sh.emb])) ?_
        refine r_all2 ?_ ?_
        · refine r_new h fun b52 w4 h => ?_
          refine r_chk2 (ldM h ty_sl_impl_Key (by simp) (by simp [Sh.emb])) (ldM h ty_int64 (by simp) (by simp [Sh.emb])) ?_
          refine r_new h fun b12 w5 h => ?_
          refine r_chk2 (ldM h ty_sl_impl_Key (by simp) (by simp [Sh.emb])) (ldM h ty_int64 (by simp) (by simp [Sh.emb])) ?_
          refine r_st h 0 (o := 0) rfl rfl (by simp [Value.cells]) rfl fun w7 h => ?_
          refine r_st h 2 (o := 0) rfl rfl (by simp [Value.cells]) rfl fun w8 h => ?_
          exact ⟨(_, _), rfl, b52, b12, b13, rfl, (At.sw1 h)⟩
        · refine r_new h fun b12 w5 h => ?_
          refine r_chk2 (ldM h ty_sl_impl_Key (by simp) (by simp [Sh.emb])) (ldM h ty_int64 (by simp) (by simp [Sh.emb])) ?_
          refine r_all2 ?_ ?_
          · refine r_new h fun b52 w4 h => ?_
            refine r_chk2 (ldM h ty_sl_impl_Key (by simp) (by simp [Sh.emb])) (ldM h ty_int64 (by simp) (by simp [Sh.emb])) ?_
            refine r_st h 1 (o := 0) rfl rfl (by simp [Value.cells]) rfl fun w7 h => ?_
            refine r_st h 2 (o := 0) rfl rfl (by simp [Value.cells]) rfl fun w8 h => ?_
            exact ⟨(_, _), rfl, b52, b12, b13, rfl, h⟩
          · refine r_st h 0 (o := 0) rfl rfl (by simp [Value.cells]) rfl fun w7 h => ?_
            refine r_new h fun b52 w4 h => ?_
            refine r_st h 2 (o := 0) rfl rfl (by simp [Value.cells]) rfl fun w8 h => ?_
            exact ⟨(_, _), rfl, b52, b12, b13, rfl, h⟩
  · refine r_join (σ := Bool) (fun s w' => s = decide (slv.n > 256 ∨ sq.n > 256) ∧ At w w' [(b8, #[.slice slv.a slv.n slv.c], ty_sl_impl_Key), (b7, #[.int .i64 first], ty_int64), (b5, (u8s root).toArray, ty_impl_Key)]) (fun s w2 hs => ?_) ?_
    · obtain ⟨rfl, h⟩ := hs
      refine r_any fun _ => ?_
      refine r_if (slv.n > 256 ∨ sq.n > 256) rfl (fun hgt => ?_) (fun hle => ?_)
      · rw [if_pos (by omega)] at hT
        exact r_ret h (false, 3) rfl hT
      · rw [if_neg (by omega)] at hT
        refine r_draw h fun w3 h => ?_
        refine r_callQ (c_isLeaves n) ?_
        by_cases hn : 1 ≤ n ∧ n ≤ 256
        · refine r_false (by simp [hn]) ?_
          refine r_ld h 0 (o := 0) rfl rfl slv (by simp [Sh.emb]) rfl ?_
          refine r_eq (fun h0 => ?_) (fun h0 => ?_)
          · rw [if_pos (.inr (.inl (hni.1 (by omega))))] at hT
            exact r_ret h (false, 2) rfl hT
          · refine r_ld h 1 (o := 0) rfl rfl first (by simp [Sh.emb]) rfl ?_
            refine r_if (first < 0) rfl (fun hlt => ?_) (fun hge => ?_)
            · rw [if_pos (.inr (.inr (by omega)))] at hT
              exact r_ret h (false, 2) rfl hT
            · refine r_ld h 0 (o := 0) rfl rfl slv (by simp [Sh.emb]) rfl ?_
              refine r_callQ (c_size_Key slv) ?_
              refine r_ld h 1 (o := 0) rfl rfl first (by simp [Sh.emb]) rfl ?_
              by_cases hf : 0 ≤ first ∧ first ≤ n - slv.n
              · refine r_false (decide_eq_false ?_) ⟨(), rfl, ⟨by omega, by omega, hn, fun hh => h0 (by have := hni.2 hh; omega), hf⟩, h⟩
                show ¬ ((slv.n : Int) > IntKind.wrap .i64 (n - first))
                rw [w64 (by omega) (by omega)]
                omega
              · rw [if_pos (.inr (.inr hf))] at hT
                refine r_if ((slv.n : Int) > IntKind.wrap .i64 (n - first)) rfl (fun _ => r_ret h (false, 2) rfl hT) (fun hh => ?_)
                rw [w64 (by omega) (by omega)] at hh
                omega
        · refine r_true (by simp only [hn]; rfl) ?_
          rw [if_pos (.inl hn)] at hT
          exact r_ret h (false, 2) rfl hT
    · refine r_ld h 0 (o := 0) rfl rfl slv (by simp [Sh.emb]) rfl ?_
      refine r_if ((slv.n : Int) > 256) rfl (fun hgt => ?_) (fun hle => ?_)
      · exact ⟨true, rfl, (decide_eq_true (by omega)).symm, h⟩
      · exact ⟨_, rfl, decide_eq_decide.2 (by omega), h⟩

end Go.Proofs.Ytjmncaoddfggnaa
