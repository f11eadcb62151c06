/- For every input the law FnExactCheckGrowth returns true, and its arguments read behind the call as before it. No conditions. -/
import Derived.Test.YtjmncaoddfggnaaG1
import Derived.Test.YtjmncaoddfggnaaR0
import Derived.Test.YtjmncaoddfggnaaRows
namespace Go.Proofs.Ytjmncaoddfggnaa
open Go.Sx Go.RowKit

theorem c_lawCheckGrowth {w : World} {sp : Sl} {root now l : List Int} (m n : Int) (hr : root.length = 32) (hnow : now.length = 32) (hl : SlAt w sp 32 (u8s l)) (hlb : bytesOk l) (hlc : sp.n ≤ maxLen) :
    Ret Try.prog n_laws_FnExactCheckGrowth [.agg (u8s root).toArray, .int .i64 m, .agg (u8s now).toArray, .int .i64 n, .slice sp.a sp.n sp.c] w [.bool] (fun r _ => r = true) := laws_FnExactCheckGrowth_calls _ _ _ _ _ (by
  unfold laws_FnExactCheckGrowth
  unfold maxLen at hlc
  refine r_new (At.refl w) fun b5 w1 h => ?_
  refine r_new h fun b7 w2 h => ?_
  refine r_callp (c_szKeyS sp 1048576 (by omega) (by omega)) ?_
  by_cases h1 : (1048576 : Int) - sp.n < 0
  · rw [if_pos h1]
    exact r_true rfl (r_ret h true rfl rfl)
  rw [if_neg h1]
  refine r_false (decide_eq_false h1) ?_
  have h : At w w2 [(b7, (u8s now).toArray, ty_arr32_uint8), (b5, (u8s root).toArray, ty_arr32_uint8)] := h
  refine r_join (σ := Bool × Int) (fun s w' => s = growAns root m now n l ∧ At w w' [(b7, (u8s now).toArray, ty_arr32_uint8), (b5, (u8s root).toArray, ty_arr32_uint8)]) (fun s w3 hs => ?_) ?_
  · obtain ⟨rfl, h⟩ := hs
    refine r_any fun _ => ?_
    refine r_call h (c_toKeyS (hl.at h) hlb (by omega)) fun t w4 h b4 ht => ?_
    have kt := ht.1
    refine r_join (σ := Bool × Int) (fun s w' => s = growAns root m now n l ∧ KS w' t l ∧ At w w' []) (fun s w5 hs => ?_) ?_
    · obtain ⟨rfl, kt, h⟩ := hs
      refine r_any fun _ => ?_
      refine r_join (σ := Unit) (fun _ w' => KS w' t l ∧ At w w' []) (fun _ w6 hs => ?_) ?_
      · obtain ⟨kt, h⟩ := hs
        refine r_any fun _ => ?_
        refine r_call h (c_toKeyS (hl.at h) hlb (by omega)) fun t2 w7 h b7 ht2 => ?_
        refine r_call h (c_eqKeyS_same (kt.below b7) ht2.1 (by have := ht.2; omega)) fun e1 w8 h b8 he1 => ?_
        subst he1
        exact r_false rfl (r_ret h true rfl rfl)
      · refine r_pur _ (fun w' => run_neqB (by kernel_rfl) _ _ _ _ w') ?_
        refine r_false (by simp) ?_
        refine r_ne (fun hh => absurd rfl hh) fun _ => ?_
        exact ⟨(), rfl, kt, h⟩
    · refine r_drawB h fun w5 h dr => ?_
      refine r_ldA h 1 rfl rfl (by simp [hr]) ?_
      refine r_ldA h 0 rfl rfl (by simp [hnow]) ?_
      refine r_call h (c_toKey hr _) fun k1 w6 h b6 hk1 => ?_
      subst hk1
      refine r_chk1 (ldOk_blk h 0 rfl (by simp [hnow])) ?_
      refine r_call h (c_toKey hnow w6) fun k2 w7 h b7 hk2 => ?_
      subst hk2
      have kt := ((kt.below dr).below b6).below b7
      refine r_call h (c_impl_CheckGrowth m n hr hnow kt) fun r w8 h b8 hr1 => ?_
      exact ⟨r, rfl, hr1, kt.below b8, h.nil⟩
  · refine r_draw h fun w3 h => ?_
    refine r_ldA h 1 rfl rfl (by simp [hr]) ?_
    refine r_ldA h 0 rfl rfl (by simp [hnow]) ?_
    refine r_call h (c_toKey hr w3) fun k1 w4 h b4 hk1 => ?_
    subst hk1
    refine r_chk1 (ldOk_blk h 0 rfl (by simp [hnow])) ?_
    refine r_call h (c_toKey hnow w4) fun k2 w5 h b5 hk2 => ?_
    subst hk2
    refine r_call h (c_toKeyS (hl.at h) hlb (by omega)) fun t w6 h b6 ht => ?_
    refine r_call h (c_spec_CheckGrowth m n hr hnow ht.1) fun r w7 h b7 hr1 => ?_
    exact ⟨r, rfl, hr1, h⟩)

set_option maxRecDepth 100000 in
theorem lifted_CheckGrowth (os : Os) (started : os.Started) (H : Type) (enc : TypeId × Value → H) :
    ReturnsInHanded {} Try.checked os 4 .any (Rows.fnExactCheckGrowthSpec.pre6 enc Try.prog Try.f4 Rows.fnExactCheckGrowthRow.domain false) (Rows.fnExactCheckGrowthSpec.post enc Try.prog Try.f4 false true false false) := by
  refine law_lifted (C := Try.checked) (tb := ty_bool) (by kernel_rfl) started (by kernel_rfl) Try.func4 (by kernel_rfl) (by kernel_rfl) (by kernel_rfl) (by kernel_rfl) rfl
    (fun ds hd => by
      rw [Try.params4] at hd
      match ds, hd with
      | [_, _, _, _, _], _ => exact ⟨rfl, rfl, rfl⟩)
    (ChangeSpec.witness6 (enc := enc) (C := Try.checked) false ⟨#[], #[.agg (Array.replicate 32 (.int .u8 0)), .int .i64 0, .agg (Array.replicate 32 (.int .u8 0)), .int .i64 0, .slice none 0 0], []⟩ 8 (by kernel_rfl) (by kernel_rfl) (by kernel_rfl) (by kernel_rfl)) ?_
  intro W base args ds p hval0 hA0
  have hval : ∀ (j : Nat) t v, Try.f4.params[j]? = some t → args[j]? = some v → Value.okWide Try.prog W .any base t v := hval0
  have hA : DataW.TrodAll enc Try.prog W 0 (fun _ => true) true Try.f4.params.toList args.toList ds p := hA0
  rw [Try.params4] at hA hval
  obtain ⟨v0, vs0, d0, ds0, p0, q0, hargs, rfl, rfl, h0, r0⟩ := ChangeShapes.trodAll_cons hA
  obtain ⟨v1, vs1, d1, ds1, p1, q1, rfl, rfl, rfl, h1, r1⟩ := ChangeShapes.trodAll_cons r0
  obtain ⟨v2, vs2, d2, ds2, p2, q2, rfl, rfl, rfl, h2, r2⟩ := ChangeShapes.trodAll_cons r1
  obtain ⟨v3, vs3, d3, ds3, p3, q3, rfl, rfl, rfl, h3, r3⟩ := ChangeShapes.trodAll_cons r2
  obtain ⟨v4, vs4, d4, ds4, p4, q4, rfl, rfl, rfl, h4, r4⟩ := ChangeShapes.trodAll_cons r3
  obtain ⟨rfl, rfl, rfl⟩ := ChangeShapes.trodAll_nil r4
  obtain rfl : args = #[v0, v1, v2, v3, v4] := by cases args; simp_all
  obtain ⟨root, rfl, hr, hrb⟩ := open_bytes (n := 32) (e := ty_uint8) (by kernel_rfl) (by kernel_rfl) (by kernel_rfl) (by kernel_rfl) (hval 0 _ _ rfl rfl) h0
  obtain ⟨m, rfl, _, _, wn⟩ := ChangeShapes.open_int (k := .i64) (by kernel_rfl) (hval 1 _ _ rfl rfl) h1
  obtain ⟨now, rfl, hn, hnb⟩ := open_bytes (n := 32) (e := ty_uint8) (by kernel_rfl) (by kernel_rfl) (by kernel_rfl) (by kernel_rfl) (hval 2 _ _ rfl rfl) h2
  obtain ⟨n, rfl, _, _, wf⟩ := ChangeShapes.open_int (k := .i64) (by kernel_rfl) (hval 3 _ _ rfl rfl) h3
  obtain ⟨sq, q, rfl, hq, hqb, hqc, hqm⟩ := open_arrs (n := 32) (u := ty_arr32_uint8) (e := ty_uint8) (by kernel_rfl) (by kernel_rfl) (by kernel_rfl) (by kernel_rfl) (by kernel_rfl) (by decide) (hval 4 _ _ rfl rfl) h4
  exact c_lawCheckGrowth m n hr hn hq hqb (by omega)

theorem over_CheckGrowth : Rows.fnExactCheckGrowthRow.holds Try.pinned (OpenSpec.ofChange Rows.fnExactCheckGrowthSpec) :=
  OpenClaim.holds_of_wide 4 Try.f4 rfl rfl rfl rfl rfl rfl rfl ⟨rfl, rfl, rfl, rfl, rfl⟩ rfl rfl rfl rfl rfl (by kernel_rfl) Try.func4 (by kernel_rfl)
    (of_decide_eq_true (by kernel_rfl)) (by unfold Func.isWrapper; first | (rw [if_pos (by decide +kernel)]; kernel_rfl) | (rw [if_neg (by decide +kernel)]; exact ⟨rfl, rfl⟩))
    (fun os started H enc _ => lifted_CheckGrowth os started H enc)

/-- The given statement. -/
theorem checkGrowth_holds : Rows.FnExactCheckGrowthSaid := over_CheckGrowth
#print axioms checkGrowth_holds
end Go.Proofs.Ytjmncaoddfggnaa
