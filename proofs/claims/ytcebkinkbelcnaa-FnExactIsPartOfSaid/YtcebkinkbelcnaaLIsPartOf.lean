/- For every input the law FnExactIsPartOf returns true, and its arguments read behind the call as before it. Printed by lawgen.py. -/
import Derived.Test.YtcebkinkbelcnaaT2
import Derived.Test.YtcebkinkbelcnaaR1
import Derived.Test.YtcebkinkbelcnaaRows
namespace Go.Proofs.Ytcebkinkbelcnaa
open Go.Sx Go.RowKit

theorem c_law_FnExactIsPartOf {w : World} {x0 : Array Value} {d0 : List PB} (a0 : RawStore w x0 d0) {x1 : Array Value} {d1 : List PB} (a1 : RawStore w x1 d1) : Ret Try.prog n_laws_FnExactIsPartOf [.agg x0, .agg x1] w [.bool] (fun r _ => r = true) := laws_FnExactIsPartOf_calls _ _ (by
  unfold laws_FnExactIsPartOf
  have h := At.refl w
  refine r_new h fun b2 _ h => ?_
  have h : At w _ ([(b2, x0, ty_laws_Store)] ++ ([])) := h
  refine r_new h fun b3 _ h => ?_
  have h : At w _ ([(b3, x1, ty_laws_Store), (b2, x0, ty_laws_Store)] ++ ([])) := h
  refine r_ldA h 1 rfl rfl (a0.sz) ?_
  refine r_call h (c_szStoreV a0 h.below (1048576) (by omega)) fun r14 _ h _ hr => ?_
  subst hr
  by_cases hz_1 : (sizeBs d0 : Int) ≤ 1048576
  rotate_left
  · rw [if_neg hz_1]
    exact r_true rfl (r_ret h.nil true rfl rfl)
  rw [if_pos hz_1]
  refine r_if (1048576 - (sizeBs d0 : Int) < 0) rfl (fun hh => by omega) (fun _ => ?_)
  refine r_ldA h 0 rfl rfl (a1.sz) ?_
  refine r_call h (c_szStoreV a1 h.below (1048576 - (sizeBs d0 : Int)) (by omega)) fun r19 _ h _ hr => ?_
  subst hr
  by_cases hz_2 : (sizeBs d1 : Int) ≤ 1048576 - (sizeBs d0 : Int)
  rotate_left
  · rw [if_neg hz_2]
    exact r_true rfl (r_ret h.nil true rfl rfl)
  rw [if_pos hz_2]
  refine r_if (1048576 - (sizeBs d0 : Int) - (sizeBs d1 : Int) < 0) rfl (fun hh => by omega) (fun _ => ?_)
  refine r_joinI ?_
  refine r_draw h fun _ h => ?_
  refine r_ldA h 1 rfl rfl (a0.sz) ?_
  refine r_ldA h 0 rfl rfl (a1.sz) ?_
  refine r_call h (c_toStoreV (a0.rd.at h) (by omega)) fun r24 _ _ _ ⟨L_3, hL, hO_4⟩ => ?_
  have h := (h.join hL).rot
  have h : At w _ ([(b3, x1, ty_laws_Store), (b2, x0, ty_laws_Store)] ++ (L_3 ++ ([]))) := h
  refine r_chk1 ?_ ?_
  · exact ldOk_blk h 0 rfl (a1.sz)
  refine r_call h (c_toStoreV (a1.rd.at h) (by omega)) fun r26 _ _ _ ⟨L_5, hL, hO_6⟩ => ?_
  have h := (h.join hL).rot
  have h : At w _ ([(b3, x1, ty_laws_Store), (b2, x0, ty_laws_Store)] ++ (L_5 ++ (L_3 ++ ([])))) := h
  refine r_call h (c_spec_IsPartOf (hO_4.rd h.pl2) (hO_6.rd h.pl1) (by omega) (by omega)) fun r27 _ h2 _ ⟨hc_7, hc_8⟩ => ?_
  have h := h2
  have h : At w _ ([(b3, x1, ty_laws_Store), (b2, x0, ty_laws_Store)] ++ (L_5 ++ (L_3 ++ ([])))) := h
  refine ⟨(r27.1, r27.2), rfl, ?_⟩
  refine r_any fun _ => ?_
  try dsimp only
  refine r_ldA h 1 rfl rfl (a0.sz) ?_
  refine r_call h (c_toStoreV (a0.rd.at h) (by omega)) fun r31 _ _ _ ⟨L_9, hL, hO_10⟩ => ?_
  have h := (h.join hL).rot
  have h : At w _ ([(b3, x1, ty_laws_Store), (b2, x0, ty_laws_Store)] ++ (L_9 ++ (L_5 ++ (L_3 ++ ([]))))) := h
  refine r_new h fun b8 _ h => ?_
  have h : At w _ ([(b8, #[(.slice none 0 0)], ty_impl_Store), (b3, x1, ty_laws_Store), (b2, x0, ty_laws_Store)] ++ (L_9 ++ (L_5 ++ (L_3 ++ ([]))))) := h
  refine r_stA h 0 rfl rfl (hO_10.sz) (rfl) (hO_10.one) fun _ h => ?_
  have h : At w _ ([(b8, r31, ty_impl_Store), (b3, x1, ty_laws_Store), (b2, x0, ty_laws_Store)] ++ (L_9 ++ (L_5 ++ (L_3 ++ ([]))))) := h
  refine r_ldA h 1 rfl rfl (a1.sz) ?_
  refine r_call h (c_toStoreV (a1.rd.at h) (by omega)) fun r33 _ _ _ ⟨L_11, hL, hO_12⟩ => ?_
  have h := (h.join hL).rot
  have h : At w _ ([(b8, r31, ty_impl_Store), (b3, x1, ty_laws_Store), (b2, x0, ty_laws_Store)] ++ (L_11 ++ (L_9 ++ (L_5 ++ (L_3 ++ ([])))))) := h
  refine r_new h fun b9 _ h => ?_
  have h : At w _ ([(b9, #[(.slice none 0 0)], ty_impl_Store), (b8, r31, ty_impl_Store), (b3, x1, ty_laws_Store), (b2, x0, ty_laws_Store)] ++ (L_11 ++ (L_9 ++ (L_5 ++ (L_3 ++ ([])))))) := h
  refine r_stA h 0 rfl rfl (hO_12.sz) (rfl) (hO_12.one) fun _ h => ?_
  have h : At w _ ([(b9, r33, ty_impl_Store), (b8, r31, ty_impl_Store), (b3, x1, ty_laws_Store), (b2, x0, ty_laws_Store)] ++ (L_11 ++ (L_9 ++ (L_5 ++ (L_3 ++ ([])))))) := h
  refine r_ldA h 1 rfl rfl (hO_10.sz) ?_
  refine r_ldA h 0 rfl rfl (hO_12.sz) ?_
  refine r_call h (c_impl_IsPartOf (hO_10.rd h.pl2) (hO_12.rd h.pl1) (by omega) (by omega)) fun r37 _ h2 _ ⟨hc_13, hc_14⟩ => ?_
  have h := h2
  have h : At w _ ([(b9, r33, ty_impl_Store), (b8, r31, ty_impl_Store), (b3, x1, ty_laws_Store), (b2, x0, ty_laws_Store)] ++ (L_11 ++ (L_9 ++ (L_5 ++ (L_3 ++ ([])))))) := h
  refine r_joinI ?_
  refine r_pur _ (fun w' => run_neqB (by kernel_rfl) _ _ _ _ w') ?_
  refine r_false (by rw [hc_13, hc_7]; simp) ?_
  refine r_ne (fun hh => absurd (hc_14.trans hc_8.symm) hh) fun _ => ?_
  refine ⟨(), rfl, ?_⟩
  refine r_any fun _ => ?_
  try dsimp only
  refine r_joinI ?_
  refine r_draw h fun _ h => ?_
  refine r_ldA h 1 rfl rfl (hO_10.sz) ?_
  refine r_ldA h 3 rfl rfl (a0.sz) ?_
  refine r_call h (c_toStoreV (a0.rd.at h) (by omega)) fun r50 _ _ _ ⟨L_15, hL, hO_16⟩ => ?_
  have h := (h.join hL).rot
  have h : At w _ ([(b9, r33, ty_impl_Store), (b8, r31, ty_impl_Store), (b3, x1, ty_laws_Store), (b2, x0, ty_laws_Store)] ++ (L_15 ++ (L_11 ++ (L_9 ++ (L_5 ++ (L_3 ++ ([]))))))) := h
  refine r_chk1 ?_ ?_
  · exact ldOk_blk h 1 rfl (hO_10.sz)
  refine r_call h (c_eqStoreV (hO_10.rd h.pl3) (hO_16.rd h.pl1) (by omega)) fun r51 _ h _ hr => ?_
  subst hr
  refine r_false rfl ?_
  refine ⟨(), rfl, ?_⟩
  refine r_any fun _ => ?_
  try dsimp only
  refine r_draw h fun _ h => ?_
  refine r_ldA h 0 rfl rfl (hO_12.sz) ?_
  refine r_ldA h 2 rfl rfl (a1.sz) ?_
  refine r_call h (c_toStoreV (a1.rd.at h) (by omega)) fun r55 _ _ _ ⟨L_17, hL, hO_18⟩ => ?_
  have h := (h.join hL).rot
  have h : At w _ ([(b9, r33, ty_impl_Store), (b8, r31, ty_impl_Store), (b3, x1, ty_laws_Store), (b2, x0, ty_laws_Store)] ++ (L_17 ++ (L_15 ++ (L_11 ++ (L_9 ++ (L_5 ++ (L_3 ++ ([])))))))) := h
  refine r_chk1 ?_ ?_
  · exact ldOk_blk h 0 rfl (hO_12.sz)
  refine r_call h (c_eqStoreV (hO_12.rd h.pl3) (hO_18.rd h.pl1) (by omega)) fun r56 _ h _ hr => ?_
  subst hr
  refine r_false rfl ?_
  exact r_ret h.nil true rfl rfl)

set_option maxRecDepth 100000 in
theorem lifted_FnExactIsPartOf (os : Os) (started : os.Started) (H : Type) (enc : TypeId × Value → H) :
    ReturnsInHanded {} Try.checked os 3 .any (Rows.fnExactIsPartOfSpec.pre6 enc Try.prog Try.f3 Rows.fnExactIsPartOfRow.domain false) (Rows.fnExactIsPartOfSpec.post enc Try.prog Try.f3 false true false false) := by
  refine law_lifted (C := Try.checked) (tb := ty_bool) (by kernel_rfl) started (by kernel_rfl) Try.func3 (by kernel_rfl) (by kernel_rfl) (by kernel_rfl) (by kernel_rfl) rfl
    (fun ds hd => by
      rw [Try.params3] at hd
      match ds, hd with
      | [_, _], _ => exact ⟨rfl, rfl, rfl⟩)
    (ChangeSpec.witness6 (enc := enc) (C := Try.checked) false ⟨#[], #[.agg #[.slice none 0 0], .agg #[.slice none 0 0]], []⟩ 8 (by kernel_rfl) (by kernel_rfl) (by kernel_rfl) (by kernel_rfl)) ?_
  intro W base args ds p hval0 hA0
  have hval : ∀ (j : Nat) t v, Try.f3.params[j]? = some t → args[j]? = some v → Value.okWide Try.prog W .any base t v := hval0
  have hA : DataW.TrodAll enc Try.prog W 0 (fun _ => true) true Try.f3.params.toList args.toList ds p := hA0
  rw [Try.params3] at hA hval
  obtain ⟨v0, vs0, d0, ds0, p0, q0, hargs, rfl, rfl, h0, r0⟩ := ChangeShapes.trodAll_cons hA
  obtain ⟨v1, vs1, d1, ds1, p1, q1, rfl, rfl, rfl, h1, r1⟩ := ChangeShapes.trodAll_cons r0
  obtain ⟨rfl, rfl, rfl⟩ := ChangeShapes.trodAll_nil r1
  obtain rfl : args = #[v0, v1] := by cases args; simp_all
  obtain ⟨x0, D0, rfl, a0⟩ := open_Store (hval 0 _ _ rfl rfl) h0
  obtain ⟨x1, D1, rfl, a1⟩ := open_Store (hval 1 _ _ rfl rfl) h1
  exact c_law_FnExactIsPartOf a0 a1

theorem over_FnExactIsPartOf : Rows.fnExactIsPartOfRow.holds Try.pinned (OpenSpec.ofChange Rows.fnExactIsPartOfSpec) :=
  OpenClaim.holds_of_wide 3 Try.f3 rfl rfl rfl rfl rfl rfl rfl ⟨rfl, rfl, rfl, rfl, rfl⟩ rfl rfl rfl rfl rfl (by kernel_rfl) Try.func3 (by kernel_rfl)
    (of_decide_eq_true (by kernel_rfl)) (by unfold Func.isWrapper; first | (rw [if_pos (by decide +kernel)]; kernel_rfl) | (rw [if_neg (by decide +kernel)]; exact ⟨rfl, rfl⟩))
    (fun os started H enc _ => lifted_FnExactIsPartOf os started H enc)

/-- The given statement. -/
theorem fnExactIsPartOf_holds : Rows.FnExactIsPartOfSaid := over_FnExactIsPartOf
#print axioms fnExactIsPartOf_holds
end Go.Proofs.Ytcebkinkbelcnaa
