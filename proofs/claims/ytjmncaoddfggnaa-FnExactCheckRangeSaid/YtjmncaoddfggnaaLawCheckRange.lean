/- For every input the law FnExactCheckRange returns true, and its arguments read behind the call as before it. No conditions. -/
import Derived.Test.YtjmncaoddfggnaaK4
import Derived.Test.YtjmncaoddfggnaaR0
import Derived.Test.YtjmncaoddfggnaaRows
namespace Go.Proofs.Ytjmncaoddfggnaa
open Go.Sx Go.RowKit

/-- A room that is counted down: less than none is told by -1. -/
theorem c_lawCheckRange {w : World} {slv sq : Sl} {root lv q : List Int} (n first : Int) (hfr : first ≤ 9223372036854775807) (hr : root.length = 32) (hrb : bytesOk root) (hlv : SlAt w slv 32 (u8s lv)) (hlb : bytesOk lv) (hlc : slv.n ≤ maxLen) (hq : SlAt w sq 32 (u8s q)) (hqb : bytesOk q) (hqc : sq.n ≤ maxLen) :
    Ret Try.prog n_laws_FnExactCheckRange [.agg (u8s root).toArray, .int .i64 n, .int .i64 first, .slice slv.a slv.n slv.c, .slice sq.a sq.n sq.c] w [.bool] (fun r _ => r = true) := laws_FnExactCheckRange_calls _ _ _ _ _ (by
  unfold laws_FnExactCheckRange
  unfold maxLen at hlc hqc
  refine r_new (At.refl w) fun b5 w1 h => ?_
  refine r_callp (c_szKeyS slv 1048576 (by omega) (by omega)) ?_
  by_cases h1 : (1048576 : Int) - slv.n < 0
  · rw [if_pos h1]
    exact r_true rfl (r_ret h true rfl rfl)
  rw [if_neg h1]
  refine r_false (decide_eq_false h1) ?_
  refine r_callp (c_szKeyS sq _ (by omega) (by omega)) ?_
  by_cases h2 : (1048576 : Int) - slv.n - sq.n < 0
  · rw [if_pos h2]
    exact r_true rfl (r_ret h true rfl rfl)
  rw [if_neg h2]
  refine r_false (decide_eq_false h2) ?_
  refine r_ldA h 0 rfl rfl (by simp [Value.cells, hr]) ?_
  refine r_call h (c_toKey hr w1) fun rt w2 h b2 hrt => ?_
  subst hrt
  refine r_call h (c_toKeyS (hlv.at h) hlb (by omega)) fun s1 w3 h b3 hs1 => ?_
  refine r_call h (c_toKeyS (hq.at h) hqb (by omega)) fun t1 w4 h b4 ht1 => ?_
  refine r_call h (c_spec_CheckRange n first hr (hs1.1.below b4) ht1.1) fun r1 w5 h b5' hr1 => ?_
  subst hr1
  refine r_call h (c_toKeyS (hlv.at h) hlb (by omega)) fun s2 w6 h b6 hs2 => ?_
  refine r_call h (c_toKeyS (hq.at h) hqb (by omega)) fun t2 w7 h b7 ht2 => ?_
  refine r_ldA h 0 rfl rfl (by simp [Value.cells, hr]) ?_
  refine r_call h (c_toKey hr w7) fun rt w8 h b8 hrt => ?_
  subst hrt
  have ks2 := (hs2.1.below b7).below b8
  have kt2 := ht2.1.below b8
  refine r_call h (c_impl_CheckRange n first hfr hr ks2 kt2) fun r2 w9 h b9 hr2 => ?_
  subst hr2
  have ks2 := ks2.below b9
  have kt2 := kt2.below b9
  refine r_join (σ := Unit) (fun _ w' => Below w9.heap.size w9 w' ∧ At w w' []) (fun _ w10 hs => ?_) ?_
  · obtain ⟨b10, h⟩ := hs
    refine r_any fun _ => ?_
    refine r_call h (c_toKeyS (hlv.at h) hlb (by omega)) fun s3 w11 h b11 hs3 => ?_
    have ks2 := (ks2.below b10).below b11
    have kt2 := (kt2.below b10).below b11
    refine r_call h (c_eqKeyS_same ks2 hs3.1 (by have := hs2.2; omega)) fun e1 w12 h b12 he1 => ?_
    subst he1
    refine r_false rfl ?_
    refine r_call h (c_toKeyS (hq.at h) hqb (by omega)) fun t3 w13 h b13 ht3 => ?_
    refine r_call h (c_eqKeyS_same ((kt2.below b12).below b13) ht3.1 (by have := ht2.2; omega)) fun e1 w14 h b14 he1 => ?_
    subst he1
    refine r_false rfl ?_
    exact r_ret h true rfl rfl
  · refine r_pur _ (fun w' => run_neqB (by kernel_rfl) _ _ _ _ w') ?_
    refine r_false (by simp) ?_
    refine r_ne (fun hh => absurd rfl hh) fun _ => ?_
    exact ⟨(), rfl, Below.refl _ _, h.nil⟩)

theorem law_laidOut : laidOutB Try.prog = true := by kernel_rfl
theorem law_own : ownKnob Try.prog.godebug = none := by kernel_rfl

set_option maxRecDepth 100000 in
theorem lifted_CheckRange (os : Os) (started : os.Started) (H : Type) (enc : TypeId × Value → H) :
    ReturnsInHanded {} Try.checked os 3 .any (Rows.fnExactCheckRangeSpec.pre6 enc Try.prog Try.f3 Rows.fnExactCheckRangeRow.domain false) (Rows.fnExactCheckRangeSpec.post enc Try.prog Try.f3 false true false false) := by
  refine law_lifted (C := Try.checked) (tb := ty_bool) law_own started (by kernel_rfl) Try.func3 law_laidOut (by kernel_rfl) (by kernel_rfl) (by kernel_rfl) rfl
    (fun ds hd => by
      rw [Try.params3] at hd
      match ds, hd with
      | [_, _, _, _, _], _ => exact ⟨rfl, rfl, rfl⟩)
    (ChangeSpec.witness6 (enc := enc) (C := Try.checked) false ⟨#[], #[.agg (Array.replicate 32 (.int .u8 0)), .int .i64 0, .int .i64 0, .slice none 0 0, .slice none 0 0], []⟩ 8 (by kernel_rfl) (by kernel_rfl) (by kernel_rfl) (by kernel_rfl)) ?_
  intro W base args ds p hval0 hA0
  have hval : ∀ (j : Nat) t v, Try.f3.params[j]? = some t → args[j]? = some v → Value.okWide Try.prog W .any base t v := hval0
  have hA : DataW.TrodAll enc Try.prog W 0 (fun _ => true) true Try.f3.params.toList args.toList ds p := hA0
  rw [Try.params3] at hA hval
  obtain ⟨v0, vs0, d0, ds0, p0, q0, hargs, rfl, rfl, h0, r0⟩ := ChangeShapes.trodAll_cons hA
  obtain ⟨v1, vs1, d1, ds1, p1, q1, rfl, rfl, rfl, h1, r1⟩ := ChangeShapes.trodAll_cons r0
  obtain ⟨v2, vs2, d2, ds2, p2, q2, rfl, rfl, rfl, h2, r2⟩ := ChangeShapes.trodAll_cons r1
  obtain ⟨v3, vs3, d3, ds3, p3, q3, rfl, rfl, rfl, h3, r3⟩ := ChangeShapes.trodAll_cons r2
  obtain ⟨v4, vs4, d4, ds4, p4, q4, rfl, rfl, rfl, h4, r4⟩ := ChangeShapes.trodAll_cons r3
  obtain ⟨rfl, rfl, rfl⟩ := ChangeShapes.trodAll_nil r4
  obtain rfl : args = #[v0, v1, v2, v3, v4] := by cases args; simp_all
  obtain ⟨root, rfl, hr, hrb⟩ := open_bytes (n := 32) (e := ty_uint8) (by kernel_rfl) (by kernel_rfl) (by kernel_rfl) (by kernel_rfl) (hval 0 _ _ rfl rfl) h0
  obtain ⟨n, rfl, _, _, wn⟩ := ChangeShapes.open_int (k := .i64) (by kernel_rfl) (hval 1 _ _ rfl rfl) h1
  obtain ⟨first, rfl, _, _, wf⟩ := ChangeShapes.open_int (k := .i64) (by kernel_rfl) (hval 2 _ _ rfl rfl) h2
  obtain ⟨slv, lv, rfl, hlv, hlb, hlc, hlm⟩ := open_arrs (n := 32) (u := ty_arr32_uint8) (e := ty_uint8) (by kernel_rfl) (by kernel_rfl) (by kernel_rfl) (by kernel_rfl) (by kernel_rfl) (by decide) (hval 3 _ _ rfl rfl) h3
  obtain ⟨sq, q, rfl, hq, hqb, hqc, hqm⟩ := open_arrs (n := 32) (u := ty_arr32_uint8) (e := ty_uint8) (by kernel_rfl) (by kernel_rfl) (by kernel_rfl) (by kernel_rfl) (by kernel_rfl) (by decide) (hval 4 _ _ rfl rfl) h4
  exact c_lawCheckRange n first (bounds_i64 wf).2 hr hrb hlv hlb (by omega) hq hqb (by omega)

theorem over_CheckRange : Rows.fnExactCheckRangeRow.holds Try.pinned (OpenSpec.ofChange Rows.fnExactCheckRangeSpec) :=
  OpenClaim.holds_of_wide 3 Try.f3 rfl rfl rfl rfl rfl rfl rfl ⟨rfl, rfl, rfl, rfl, rfl⟩ rfl rfl rfl rfl rfl (by kernel_rfl) Try.func3 (by kernel_rfl)
    (of_decide_eq_true (by kernel_rfl)) (by unfold Func.isWrapper; first | (rw [if_pos (by decide +kernel)]; kernel_rfl) | (rw [if_neg (by decide +kernel)]; exact ⟨rfl, rfl⟩))
    (fun os started H enc _ => lifted_CheckRange os started H enc)

/-- The given statement. -/
theorem checkRange_holds : Rows.FnExactCheckRangeSaid := over_CheckRange
#print axioms checkRange_holds
end Go.Proofs.Ytjmncaoddfggnaa
