/- For every input the law FnExactPackReachable returns true, and its arguments read behind the call as before it. Printed by lawgen.py. -/
import Derived.Test.YtkifkdkjljcclaaGreatRows
import Derived.Test.YtkifkdkjljcclaaGreatPkLPR39
import Derived.Test.YtkifkdkjljcclaaGreatPkLPR27
namespace Go.Proofs.YtkifkdkjljcclaaGreat
open Go.Sx Go.RowKit

theorem c_law_FnExactPackReachable {w : World} {x0 : Array Value} {d0 : List PB} (a0 : RawStore w x0 d0) {x1 : Sl} {d1 : List (List Int)} (a1 : RawKeyS w x1 d1) : Ret Tryz.prog n_laws_FnExactPackReachable [.agg x0, .slice x1.a x1.n x1.c] w [.bool] (fun r _ => r = true) := laws_FnExactPackReachable_calls _ _ (by
  unfold laws_FnExactPackReachable
  have h := At.refl w
  have hsz0 := packRAns_small d0 d1
  have hsz1 := msizeK_eq d1
  refine r_new h fun b2 _ h => ?_
  have h : At w _ ([_] ++ ([])) := h
  refine r_ldA h 0 rfl rfl (a0.sz) ?_
  refine r_call h (c_szStoreV a0 h.below (1048576) (by omega)) fun r19 _ h _ hr => ?_
  subst hr
  by_cases hz_1 : (sizeBs d0 : Int) ≤ 1048576
  rotate_left
  · rw [if_neg hz_1]
    exact r_true rfl (r_ret h.nil true rfl rfl)
  rw [if_pos hz_1]
  refine r_if (1048576 - (sizeBs d0 : Int) < 0) rfl (fun hh => by omega) (fun _ => ?_)
  refine r_call h (c_szKeySV a1 h.below (1048576 - (sizeBs d0 : Int)) (by omega)) fun r24 _ h _ hr => ?_
  subst hr
  by_cases hz_2 : (sizeKeyS d1 : Int) ≤ 1048576 - (sizeBs d0 : Int)
  rotate_left
  · rw [if_neg hz_2]
    exact r_true rfl (r_ret h.nil true rfl rfl)
  rw [if_pos hz_2]
  refine r_if (1048576 - (sizeBs d0 : Int) - (sizeKeyS d1 : Int) < 0) rfl (fun hh => by omega) (fun _ => ?_)
  refine r_ldA h 0 rfl rfl (a0.sz) ?_
  refine r_call h (c_toStoreV (a0.rd.at h) (by omega)) fun r29 _ _ _ ⟨L_3, hL, hO_4⟩ => ?_
  have h := (h.join hL).rot
  have h : At w _ ([_] ++ (L_3 ++ ([]))) := h
  refine r_call h (c_toKeySV (a1.rd.at h) (by omega)) fun r31 _ _ _ ⟨L_5, hL, hO_6⟩ => ?_
  have h := (h.join hL).rot
  have h : At w _ ([_] ++ (L_5 ++ (L_3 ++ ([])))) := h
  refine r_call h (c_spec_PackReachable (hO_4.rd h.pl2) (hO_6.rd h.pl1) (by omega) (by omega)) fun r32 _ h2 _ ⟨L_7, hL, hO_8, hc_9⟩ => ?_
  have h := (h.join hL).rot
  have h : At w _ ([_] ++ (L_7 ++ (L_5 ++ (L_3 ++ ([]))))) := h
  refine r_ldA h 0 rfl rfl (a0.sz) ?_
  refine r_call h (c_toStoreV (a0.rd.at h) (by omega)) fun r36 _ _ _ ⟨L_10, hL, hO_11⟩ => ?_
  have h := (h.join hL).rot
  have h : At w _ ([_] ++ (L_10 ++ (L_7 ++ (L_5 ++ (L_3 ++ ([])))))) := h
  refine r_new h fun b8 _ h => ?_
  have h : At w _ ([_, _] ++ (L_10 ++ (L_7 ++ (L_5 ++ (L_3 ++ ([])))))) := h
  refine r_stA h 0 rfl rfl (hO_11.sz) (rfl) (hO_11.one) fun _ h => ?_
  have h : At w _ ([_, _] ++ (L_10 ++ (L_7 ++ (L_5 ++ (L_3 ++ ([])))))) := h
  refine r_call h (c_toKeySV (a1.rd.at h) (by omega)) fun r38 _ _ _ ⟨L_12, hL, hO_13⟩ => ?_
  have h := (h.join hL).rot
  have h : At w _ ([_, _] ++ (L_12 ++ (L_10 ++ (L_7 ++ (L_5 ++ (L_3 ++ ([]))))))) := h
  refine r_ldA h 0 rfl rfl (hO_11.sz) ?_
  refine r_call h (c_impl_PackReachable (hO_11.rd h.pl2) (hO_13.rd h.pl1) (by omega) (by omega)) fun r42 _ h2 _ ⟨L_14, hL, hO_15, hc_16⟩ => ?_
  have h := (h.join hL).rot
  have h : At w _ ([_, _] ++ (L_14 ++ (L_12 ++ (L_10 ++ (L_7 ++ (L_5 ++ (L_3 ++ ([])))))))) := h
  refine r_joinI ?_
  refine r_call h (c_eqByteSV (hO_15.rd h.pl1) (hO_8.rd h.pl4) (by omega)) fun r47 _ h _ hr => ?_
  subst hr
  refine r_false rfl ?_
  refine r_ne (fun hh => absurd (hc_16.trans hc_9.symm) hh) fun _ => ?_
  refine ⟨(), rfl, ?_⟩
  refine r_any fun _ => ?_
  try dsimp only
  refine r_joinI ?_
  refine r_draw h fun _ h => ?_
  refine r_ldA h 0 rfl rfl (hO_11.sz) ?_
  refine r_ldA h 1 rfl rfl (a0.sz) ?_
  refine r_call h (c_toStoreV (a0.rd.at h) (by omega)) fun r56 _ _ _ ⟨L_17, hL, hO_18⟩ => ?_
  have h := (h.join hL).rot
  have h : At w _ ([_, _] ++ (L_17 ++ (L_14 ++ (L_12 ++ (L_10 ++ (L_7 ++ (L_5 ++ (L_3 ++ ([]))))))))) := h
  refine r_chk1 ?_ ?_
  · exact ldOk_blk h 0 rfl (hO_11.sz)
  refine r_call h (c_eqStoreV (hO_11.rd h.pl4) (hO_18.rd h.pl1) (by omega)) fun r57 _ h _ hr => ?_
  subst hr
  refine r_false rfl ?_
  refine ⟨(), rfl, ?_⟩
  refine r_any fun _ => ?_
  try dsimp only
  refine r_call h (c_toKeySV (a1.rd.at h) (by omega)) fun r61 _ _ _ ⟨L_19, hL, hO_20⟩ => ?_
  have h := (h.join hL).rot
  have h : At w _ ([_, _] ++ (L_19 ++ (L_17 ++ (L_14 ++ (L_12 ++ (L_10 ++ (L_7 ++ (L_5 ++ (L_3 ++ ([])))))))))) := h
  refine r_call h (c_eqKeySV (hO_13.rd h.pl4) (hO_20.rd h.pl1) (by omega)) fun r62 _ h _ hr => ?_
  subst hr
  refine r_false rfl ?_
  refine r_ldA h 0 rfl rfl (hO_11.sz) ?_
  refine r_callR (c_markStoreV h.pl5 hO_11 (1) (by omega) (by omega)) ?_
  rintro _ _ ⟨rfl, L_21, h, hO_22⟩
  refine ⟨_, rfl, ?_⟩
  have h := h.ps5
  have h : At w _ ([_, _] ++ (L_19 ++ (L_17 ++ (L_14 ++ (L_12 ++ (L_21 ++ (L_7 ++ (L_5 ++ (L_3 ++ ([])))))))))) := h
  refine r_callR (c_markKeySV h.pl4 hO_13 (1 + (sizeBs d0 : Int)) (by omega) (by omega)) ?_
  rintro _ _ ⟨rfl, L_23, h, hO_24⟩
  refine ⟨_, rfl, ?_⟩
  have h := h.ps4
  have h : At w _ ([_, _] ++ (L_19 ++ (L_17 ++ (L_14 ++ (L_23 ++ (L_21 ++ (L_7 ++ (L_5 ++ (L_3 ++ ([])))))))))) := h
  refine r_joinI ?_
  refine r_if (1 + (sizeBs d0 : Int) + (msizeKeyS d1 : Int) < 0) rfl (fun hh => by omega) (fun _ => ?_)
  refine r_call h (c_eqByteSV (hO_15.rd h.pl3) (hO_8.rd h.pl6) (by omega)) fun r75 _ h _ hr => ?_
  subst hr
  refine r_false rfl ?_
  refine r_ne (fun hh => absurd (hc_16.trans hc_9.symm) hh) fun _ => ?_
  refine ⟨(), rfl, ?_⟩
  refine r_any fun _ => ?_
  try dsimp only
  refine r_callR (c_markByteSV h.pl3 hO_15 (1) (by omega) (by omega)) ?_
  rintro _ _ ⟨rfl, L_25, h, hO_26⟩
  refine ⟨_, rfl, ?_⟩
  have h := h.ps3
  have h : At w _ ([_, _] ++ (L_19 ++ (L_17 ++ (L_25 ++ (L_23 ++ (L_21 ++ (L_7 ++ (L_5 ++ (L_3 ++ ([])))))))))) := h
  refine r_call h (c_heldByteSV (1) (hO_26.rd h.pl3) (by omega) (by omega)) fun r88 _ h _ hr => ?_
  subst hr
  refine r_if (1 + (sizeByteS (packRAns d0 d1).1 : Int) < 0) rfl (fun hh => by omega) (fun _ => ?_)
  refine r_ne (fun hh => absurd rfl hh) fun _ => ?_
  refine r_ldA h 1 rfl rfl (a0.sz) ?_
  refine r_call h (c_toStoreV (a0.rd.at h) (by omega)) fun r96 _ _ _ ⟨L_27, hL, hO_28⟩ => ?_
  have h := (h.join hL).rot
  have h : At w _ ([_, _] ++ (L_27 ++ (L_19 ++ (L_17 ++ (L_25 ++ (L_23 ++ (L_21 ++ (L_7 ++ (L_5 ++ (L_3 ++ ([]))))))))))) := h
  refine r_call h (c_toKeySV (a1.rd.at h) (by omega)) fun r98 _ _ _ ⟨L_29, hL, hO_30⟩ => ?_
  have h := (h.join hL).rot
  have h : At w _ ([_, _] ++ (L_29 ++ (L_27 ++ (L_19 ++ (L_17 ++ (L_25 ++ (L_23 ++ (L_21 ++ (L_7 ++ (L_5 ++ (L_3 ++ ([])))))))))))) := h
  refine r_call h (c_impl_PackReachable (hO_28.rd h.pl2) (hO_30.rd h.pl1) (by omega) (by omega)) fun r99 _ h2 _ ⟨L_31, hL, hO_32, hc_33⟩ => ?_
  have h := (h.join hL).rot
  have h : At w _ ([_, _] ++ (L_31 ++ (L_29 ++ (L_27 ++ (L_19 ++ (L_17 ++ (L_25 ++ (L_23 ++ (L_21 ++ (L_7 ++ (L_5 ++ (L_3 ++ ([]))))))))))))) := h
  refine r_joinI ?_
  refine r_call h (c_eqByteSV (hO_32.rd h.pl1) (hO_8.rd h.pl9) (by omega)) fun r104 _ h _ hr => ?_
  subst hr
  refine r_false rfl ?_
  refine r_ne (fun hh => absurd (hc_33.trans hc_9.symm) hh) fun _ => ?_
  refine ⟨(), rfl, ?_⟩
  refine r_any fun _ => ?_
  try dsimp only
  refine r_call h (c_heldByteSV (1) (hO_26.rd h.pl6) (by omega) (by omega)) fun r113 _ h _ hr => ?_
  subst hr
  refine r_if (1 + (sizeByteS (packRAns d0 d1).1 : Int) < 0) rfl (fun hh => by omega) (fun _ => ?_)
  refine r_ne (fun hh => absurd rfl hh) fun _ => ?_
  exact r_ret h.nil true rfl rfl)

set_option maxRecDepth 100000 in
theorem lifted_FnExactPackReachable (os : Os) (started : os.Started) (H : Type) (enc : TypeId × Value → H) :
    ReturnsInHanded {} Tryz.checked os 7 .any (Rows.fnExactPackReachableSpec.pre6 enc Tryz.prog Tryz.f7 Rows.fnExactPackReachableRow.domain false) (Rows.fnExactPackReachableSpec.post enc Tryz.prog Tryz.f7 false true false false) := by
  refine law_lifted (C := Tryz.checked) (tb := ty_bool) (by kernel_rfl) started (by kernel_rfl) Tryz.func7 (by kernel_rfl) (by kernel_rfl) (by kernel_rfl) (by kernel_rfl) rfl
    (fun ds hd => by
      rw [Tryz.params7] at hd
      match ds, hd with
      | [_, _], _ => exact ⟨rfl, rfl, rfl⟩)
    (ChangeSpec.witness6 (enc := enc) (C := Tryz.checked) false ⟨#[], #[.agg #[.slice none 0 0], .slice none 0 0], []⟩ 8 (by kernel_rfl) (by kernel_rfl) (by kernel_rfl) (by kernel_rfl)) ?_
  intro W base args ds p hval0 hA0
  have hval : ∀ (j : Nat) t v, Tryz.f7.params[j]? = some t → args[j]? = some v → Value.okWide Tryz.prog W .any base t v := hval0
  have hA : DataW.TrodAll enc Tryz.prog W 0 (fun _ => true) true Tryz.f7.params.toList args.toList ds p := hA0
  rw [Tryz.params7] at hA hval
  obtain ⟨v0, vs0, d0, ds0, p0, q0, hargs, rfl, rfl, h0, r0⟩ := ChangeShapes.trodAll_cons hA
  obtain ⟨v1, vs1, d1, ds1, p1, q1, rfl, rfl, rfl, h1, r1⟩ := ChangeShapes.trodAll_cons r0
  obtain ⟨rfl, rfl, rfl⟩ := ChangeShapes.trodAll_nil r1
  obtain rfl : args = #[v0, v1] := by cases args; simp_all
  obtain ⟨x0, D0, rfl, a0⟩ := open_Store (hval 0 _ _ rfl rfl) h0
  obtain ⟨x1, D1, rfl, a1⟩ := open_KeyS (hval 1 _ _ rfl rfl) h1
  exact c_law_FnExactPackReachable a0 a1

set_option maxHeartbeats 400000000 in
theorem joined_FnExactPackReachable : joinedFacts Tryz.pinned.checked.prog 7 Tryz.f7 Rows.fnExactPackReachableSpec Rows.fnExactPackReachableRow = true := by
  unfold joinedFacts
  simp only [Bool.and_eq_true]
  repeat' (apply And.intro)
  all_goals (as_aux_lemma => kernel_rfl)

theorem over_FnExactPackReachable : Rows.fnExactPackReachableRow.holds Tryz.pinned (OpenSpec.ofChange Rows.fnExactPackReachableSpec) :=
  OpenClaim.holds_of_wide 7 Tryz.f7 rfl rfl rfl rfl rfl rfl rfl ⟨rfl, rfl, rfl, rfl, rfl⟩ rfl rfl rfl rfl rfl (by as_aux_lemma => kernel_rfl) Tryz.func7 joined_FnExactPackReachable
    (of_decide_eq_true (by as_aux_lemma => kernel_rfl)) (by unfold Func.isWrapper; first | (rw [if_pos (by as_aux_lemma => decide +kernel)]; as_aux_lemma => kernel_rfl) | (rw [if_neg (by as_aux_lemma => decide +kernel)]; exact ⟨rfl, rfl⟩))
    (fun os started H enc _ => lifted_FnExactPackReachable os started H enc)

theorem fnExactPackReachable_holds : Rows.FnExactPackReachableSaid := over_FnExactPackReachable
#print axioms fnExactPackReachable_holds
end Go.Proofs.YtkifkdkjljcclaaGreat
