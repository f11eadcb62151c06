/- For every input the law FnExactPackStore returns true, and its arguments read behind the call as before it. Printed by lawgen.py. -/
import Derived.Test.YtkifkdkjljcclaaRows
import Derived.Test.YtkifkdkjljcclaaPkLPS31
import Derived.Test.YtkifkdkjljcclaaPkLPS22
namespace Go.Proofs.Ytkifkdkjljcclaa
open Go.Sx Go.RowKit

theorem c_law_FnExactPackStore {w : World} {x0 : Array Value} {d0 : List PB} (a0 : RawStore w x0 d0) : Ret Try.prog n_laws_FnExactPackStore [.agg x0] w [.bool] (fun r _ => r = true) := laws_FnExactPackStore_calls _ (by
  unfold laws_FnExactPackStore
  have h := At.refl w
  have hsz0 := packAns_small d0
  refine r_new h fun b1 _ h => ?_
  have h : At w _ ([_] ++ ([])) := h
  refine r_ldA h 0 rfl rfl (a0.sz) ?_
  refine r_call h (c_szStoreV a0 h.below (1048576) (by omega)) fun r16 _ h _ hr => ?_
  subst hr
  by_cases hz_1 : (sizeBs d0 : Int) ≤ 1048576
  rotate_left
  · rw [if_neg hz_1]
    exact r_true rfl (r_ret h.nil true rfl rfl)
  rw [if_pos hz_1]
  refine r_if (1048576 - (sizeBs d0 : Int) < 0) rfl (fun hh => by omega) (fun _ => ?_)
  refine r_ldA h 0 rfl rfl (a0.sz) ?_
  refine r_call h (c_toStoreV (a0.rd.at h) (by omega)) fun r21 _ _ _ ⟨L_2, hL, hO_3⟩ => ?_
  have h := (h.join hL).rot
  have h : At w _ ([_] ++ (L_2 ++ ([]))) := h
  refine r_call h (c_spec_PackStore (hO_3.rd h.pl1) (by omega)) fun r22 _ h2 _ ⟨L_4, hL, hO_5, hc_6⟩ => ?_
  have h := (h.join hL).rot
  have h : At w _ ([_] ++ (L_4 ++ (L_2 ++ ([])))) := h
  refine r_ldA h 0 rfl rfl (a0.sz) ?_
  refine r_call h (c_toStoreV (a0.rd.at h) (by omega)) fun r26 _ _ _ ⟨L_7, hL, hO_8⟩ => ?_
  have h := (h.join hL).rot
  have h : At w _ ([_] ++ (L_7 ++ (L_4 ++ (L_2 ++ ([]))))) := h
  refine r_new h fun b6 _ h => ?_
  have h : At w _ ([_, _] ++ (L_7 ++ (L_4 ++ (L_2 ++ ([]))))) := h
  refine r_stA h 0 rfl rfl (hO_8.sz) (rfl) (hO_8.one) fun _ h => ?_
  have h : At w _ ([_, _] ++ (L_7 ++ (L_4 ++ (L_2 ++ ([]))))) := h
  refine r_ldA h 0 rfl rfl (hO_8.sz) ?_
  refine r_call h (c_impl_PackStore (hO_8.rd h.pl1) (by omega)) fun r29 _ h2 _ ⟨L_9, hL, hO_10, hc_11⟩ => ?_
  have h := (h.join hL).rot
  have h : At w _ ([_, _] ++ (L_9 ++ (L_7 ++ (L_4 ++ (L_2 ++ ([])))))) := h
  refine r_joinI ?_
  refine r_call h (c_eqByteSV (hO_10.rd h.pl1) (hO_5.rd h.pl3) (by omega)) fun r34 _ h _ hr => ?_
  subst hr
  refine r_false rfl ?_
  refine r_ne (fun hh => absurd (hc_11.trans hc_6.symm) hh) fun _ => ?_
  refine ⟨(), rfl, ?_⟩
  refine r_any fun _ => ?_
  try dsimp only
  refine r_joinI ?_
  refine r_draw h fun _ h => ?_
  refine r_ldA h 0 rfl rfl (hO_8.sz) ?_
  refine r_ldA h 1 rfl rfl (a0.sz) ?_
  refine r_call h (c_toStoreV (a0.rd.at h) (by omega)) fun r43 _ _ _ ⟨L_12, hL, hO_13⟩ => ?_
  have h := (h.join hL).rot
  have h : At w _ ([_, _] ++ (L_12 ++ (L_9 ++ (L_7 ++ (L_4 ++ (L_2 ++ ([]))))))) := h
  refine r_chk1 ?_ ?_
  · exact ldOk_blk h 0 rfl (hO_8.sz)
  refine r_call h (c_eqStoreV (hO_8.rd h.pl3) (hO_13.rd h.pl1) (by omega)) fun r44 _ h _ hr => ?_
  subst hr
  refine r_false rfl ?_
  refine ⟨(), rfl, ?_⟩
  refine r_any fun _ => ?_
  try dsimp only
  refine r_ldA h 0 rfl rfl (hO_8.sz) ?_
  refine r_callR (c_markStoreV h.pl3 hO_8 (1) (by omega) (by omega)) ?_
  rintro _ _ ⟨rfl, L_14, h, hO_15⟩
  refine ⟨_, rfl, ?_⟩
  have h := h.ps3
  have h : At w _ ([_, _] ++ (L_12 ++ (L_9 ++ (L_14 ++ (L_4 ++ (L_2 ++ ([]))))))) := h
  refine r_joinI ?_
  refine r_if (1 + (sizeBs d0 : Int) < 0) rfl (fun hh => by omega) (fun _ => ?_)
  refine r_call h (c_eqByteSV (hO_10.rd h.pl2) (hO_5.rd h.pl4) (by omega)) fun r54 _ h _ hr => ?_
  subst hr
  refine r_false rfl ?_
  refine r_ne (fun hh => absurd (hc_11.trans hc_6.symm) hh) fun _ => ?_
  refine ⟨(), rfl, ?_⟩
  refine r_any fun _ => ?_
  try dsimp only
  refine r_callR (c_markByteSV h.pl2 hO_10 (1) (by omega) (by omega)) ?_
  rintro _ _ ⟨rfl, L_16, h, hO_17⟩
  refine ⟨_, rfl, ?_⟩
  have h := h.ps2
  have h : At w _ ([_, _] ++ (L_12 ++ (L_16 ++ (L_14 ++ (L_4 ++ (L_2 ++ ([]))))))) := h
  refine r_call h (c_heldByteSV (1) (hO_17.rd h.pl2) (by omega) (by omega)) fun r67 _ h _ hr => ?_
  subst hr
  refine r_if (1 + (sizeByteS (packAns d0).1 : Int) < 0) rfl (fun hh => by omega) (fun _ => ?_)
  refine r_ne (fun hh => absurd rfl hh) fun _ => ?_
  refine r_ldA h 1 rfl rfl (a0.sz) ?_
  refine r_call h (c_toStoreV (a0.rd.at h) (by omega)) fun r75 _ _ _ ⟨L_18, hL, hO_19⟩ => ?_
  have h := (h.join hL).rot
  have h : At w _ ([_, _] ++ (L_18 ++ (L_12 ++ (L_16 ++ (L_14 ++ (L_4 ++ (L_2 ++ ([])))))))) := h
  refine r_call h (c_impl_PackStore (hO_19.rd h.pl1) (by omega)) fun r76 _ h2 _ ⟨L_20, hL, hO_21, hc_22⟩ => ?_
  have h := (h.join hL).rot
  have h : At w _ ([_, _] ++ (L_20 ++ (L_18 ++ (L_12 ++ (L_16 ++ (L_14 ++ (L_4 ++ (L_2 ++ ([]))))))))) := h
  refine r_joinI ?_
  refine r_call h (c_eqByteSV (hO_21.rd h.pl1) (hO_5.rd h.pl6) (by omega)) fun r81 _ h _ hr => ?_
  subst hr
  refine r_false rfl ?_
  refine r_ne (fun hh => absurd (hc_22.trans hc_6.symm) hh) fun _ => ?_
  refine ⟨(), rfl, ?_⟩
  refine r_any fun _ => ?_
  try dsimp only
  refine r_call h (c_heldByteSV (1) (hO_17.rd h.pl4) (by omega) (by omega)) fun r90 _ h _ hr => ?_
  subst hr
  refine r_if (1 + (sizeByteS (packAns d0).1 : Int) < 0) rfl (fun hh => by omega) (fun _ => ?_)
  refine r_ne (fun hh => absurd rfl hh) fun _ => ?_
  exact r_ret h.nil true rfl rfl)

set_option maxRecDepth 100000 in
theorem lifted_FnExactPackStore (os : Os) (started : os.Started) (H : Type) (enc : TypeId × Value → H) :
    ReturnsInHanded {} Try.checked os 3 .any (Rows.fnExactPackStoreSpec.pre6 enc Try.prog Try.f3 Rows.fnExactPackStoreRow.domain false) (Rows.fnExactPackStoreSpec.post enc Try.prog Try.f3 false true false false) := by
  refine law_lifted (C := Try.checked) (tb := ty_bool) (by kernel_rfl) started (by kernel_rfl) Try.func3 (by kernel_rfl) (by kernel_rfl) (by kernel_rfl) (by kernel_rfl) rfl
    (fun ds hd => by
      rw [Try.params3] at hd
      match ds, hd with
      | [_], _ => exact ⟨rfl, rfl, rfl⟩)
    (ChangeSpec.witness6 (enc := enc) (C := Try.checked) false ⟨#[], #[.agg #[.slice none 0 0]], []⟩ 8 (by kernel_rfl) (by kernel_rfl) (by kernel_rfl) (by kernel_rfl)) ?_
  intro W base args ds p hval0 hA0
  have hval : ∀ (j : Nat) t v, Try.f3.params[j]? = some t → args[j]? = some v → Value.okWide Try.prog W .any base t v := hval0
  have hA : DataW.TrodAll enc Try.prog W 0 (fun _ => true) true Try.f3.params.toList args.toList ds p := hA0
  rw [Try.params3] at hA hval
  obtain ⟨v0, vs0, d0, ds0, p0, q0, hargs, rfl, rfl, h0, r0⟩ := ChangeShapes.trodAll_cons hA
  obtain ⟨rfl, rfl, rfl⟩ := ChangeShapes.trodAll_nil r0
  obtain rfl : args = #[v0] := by cases args; simp_all
  obtain ⟨x0, D0, rfl, a0⟩ := open_Store (hval 0 _ _ rfl rfl) h0
  exact c_law_FnExactPackStore a0

set_option maxHeartbeats 400000000 in
theorem joined_FnExactPackStore : joinedFacts Try.pinned.checked.prog 3 Try.f3 Rows.fnExactPackStoreSpec Rows.fnExactPackStoreRow = true := by
  unfold joinedFacts
  simp only [Bool.and_eq_true]
  repeat' (apply And.intro)
  all_goals (as_aux_lemma => kernel_rfl)

theorem over_FnExactPackStore : Rows.fnExactPackStoreRow.holds Try.pinned (OpenSpec.ofChange Rows.fnExactPackStoreSpec) :=
  OpenClaim.holds_of_wide 3 Try.f3 rfl rfl rfl rfl rfl rfl rfl ⟨rfl, rfl, rfl, rfl, rfl⟩ rfl rfl rfl rfl rfl (by as_aux_lemma => kernel_rfl) Try.func3 joined_FnExactPackStore
    (of_decide_eq_true (by as_aux_lemma => kernel_rfl)) (by unfold Func.isWrapper; first | (rw [if_pos (by as_aux_lemma => decide +kernel)]; as_aux_lemma => kernel_rfl) | (rw [if_neg (by as_aux_lemma => decide +kernel)]; exact ⟨rfl, rfl⟩))
    (fun os started H enc _ => lifted_FnExactPackStore os started H enc)

theorem fnExactPackStore_holds : Rows.FnExactPackStoreSaid := over_FnExactPackStore
#print axioms fnExactPackStore_holds
end Go.Proofs.Ytkifkdkjljcclaa
