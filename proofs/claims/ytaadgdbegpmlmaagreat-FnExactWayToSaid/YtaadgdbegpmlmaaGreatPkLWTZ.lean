/- For every input the law FnExactWayTo returns true, and its arguments read behind the call as before it. Printed by lawgen.py. -/
import Derived.Test.YtaadgdbegpmlmaaGreatRows
import Derived.Test.YtaadgdbegpmlmaaGreatPkLWT36
import Derived.Test.YtaadgdbegpmlmaaGreatPkLWT17
namespace Go.Proofs.YtaadgdbegpmlmaaGreat
open Go.Sx Go.RowKit

theorem c_law_FnExactWayTo {w : World} {x0 : Array Value} {d0 : PBk} (a0 : RawBook w x0 d0) {x1 : Array Value} {d1 : List Int} (a1 : RdKey w x1 d1) {x2 : Array Value} {d2 : List Int} (a2 : RdKey w x2 d2) : Ret Tryz.prog n_laws_FnExactWayTo [.agg x0, .agg x1, .agg x2] w [.bool] (fun r _ => r = true) := laws_FnExactWayTo_calls _ _ _ (by
  unfold laws_FnExactWayTo
  have h := At.refl w
  have hsz0 := wayAns_small d0 d1 d2
  have hsz1 := wayAns_msmall d0 d1 d2
  have hsz2 := msizeBook_le d0
  refine r_new h fun b3 _ h => ?_
  have h : At w _ ([(b3, x0, ty_laws_Book)] ++ ([])) := h
  refine r_new h fun b4 _ h => ?_
  have h : At w _ ([(b4, x1, ty_arr32_uint8), (b3, x0, ty_laws_Book)] ++ ([])) := h
  refine r_new h fun b5 _ h => ?_
  have h : At w _ ([(b5, x2, ty_arr32_uint8), (b4, x1, ty_arr32_uint8), (b3, x0, ty_laws_Book)] ++ ([])) := h
  refine r_ldA h 2 rfl rfl (a0.sz) ?_
  refine r_call h (c_szBookV a0 h.below (1048576) (by omega)) fun r20 _ h _ hr => ?_
  subst hr
  by_cases hz_1 : (sizeBook d0 : Int) ≤ 1048576
  rotate_left
  · rw [if_neg hz_1]
    exact r_true rfl (r_ret h.nil true rfl rfl)
  rw [if_pos hz_1]
  refine r_if (1048576 - (sizeBook d0 : Int) < 0) rfl (fun hh => by omega) (fun _ => ?_)
  refine r_joinI ?_
  refine r_draw h fun _ h => ?_
  refine r_ldA h 2 rfl rfl (a0.sz) ?_
  refine r_ldA h 1 rfl rfl (a1.sz) ?_
  refine r_ldA h 0 rfl rfl (a2.sz) ?_
  refine r_call h (c_toBookV (a0.rd.at h) (by omega)) fun r25 _ _ _ ⟨L_2, hL, hO_3⟩ => ?_
  have h := (h.join hL).rot
  have h : At w _ ([(b5, x2, ty_arr32_uint8), (b4, x1, ty_arr32_uint8), (b3, x0, ty_laws_Book)] ++ (L_2 ++ ([]))) := h
  refine r_chk2 ?_ ?_ ?_
  · exact ldOk_blk h 0 rfl (a2.sz)
  · exact ldOk_blk h 1 rfl (a1.sz)
  refine r_call h (c_toKeyV (a1.at h)) fun r27 _ _ _ ⟨L_4, hL, hO_5⟩ => ?_
  have h := (h.join hL).rot
  have h : At w _ ([(b5, x2, ty_arr32_uint8), (b4, x1, ty_arr32_uint8), (b3, x0, ty_laws_Book)] ++ (L_4 ++ (L_2 ++ ([])))) := h
  refine r_chk1 ?_ ?_
  · exact ldOk_blk h 0 rfl (a2.sz)
  refine r_call h (c_toKeyV (a2.at h)) fun r29 _ _ _ ⟨L_6, hL, hO_7⟩ => ?_
  have h := (h.join hL).rot
  have h : At w _ ([(b5, x2, ty_arr32_uint8), (b4, x1, ty_arr32_uint8), (b3, x0, ty_laws_Book)] ++ (L_6 ++ (L_4 ++ (L_2 ++ ([]))))) := h
  refine r_call h (c_spec_WayTo (hO_3.rd h.pl3) (hO_5.rd h.pl2) (hO_7.rd h.pl1) (by omega)) fun r30 _ h2 _ ⟨L_8, hL, hO_9, hc_10⟩ => ?_
  have h := (h.join hL).rot
  have h : At w _ ([(b5, x2, ty_arr32_uint8), (b4, x1, ty_arr32_uint8), (b3, x0, ty_laws_Book)] ++ (L_8 ++ (L_6 ++ (L_4 ++ (L_2 ++ ([])))))) := h
  refine ⟨(r30.1, r30.2), rfl, ?_⟩
  refine r_any fun _ => ?_
  try dsimp only
  refine r_ldA h 2 rfl rfl (a0.sz) ?_
  refine r_call h (c_toBookV (a0.rd.at h) (by omega)) fun r34 _ _ _ ⟨L_11, hL, hO_12⟩ => ?_
  have h := (h.join hL).rot
  have h : At w _ ([(b5, x2, ty_arr32_uint8), (b4, x1, ty_arr32_uint8), (b3, x0, ty_laws_Book)] ++ (L_11 ++ (L_8 ++ (L_6 ++ (L_4 ++ (L_2 ++ ([]))))))) := h
  refine r_new h fun b10 _ h => ?_
  have h : At w _ ([(b10, #[(.slice none 0 0), (.slice none 0 0)], ty_impl_Book), (b5, x2, ty_arr32_uint8), (b4, x1, ty_arr32_uint8), (b3, x0, ty_laws_Book)] ++ (L_11 ++ (L_8 ++ (L_6 ++ (L_4 ++ (L_2 ++ ([]))))))) := h
  refine r_stA h 0 rfl rfl (hO_12.sz) (rfl) (hO_12.one) fun _ h => ?_
  have h : At w _ ([(b10, r34, ty_impl_Book), (b5, x2, ty_arr32_uint8), (b4, x1, ty_arr32_uint8), (b3, x0, ty_laws_Book)] ++ (L_11 ++ (L_8 ++ (L_6 ++ (L_4 ++ (L_2 ++ ([]))))))) := h
  refine r_joinI ?_
  refine r_draw h fun _ h => ?_
  refine r_ldA h 0 rfl rfl (hO_12.sz) ?_
  refine r_ldA h 2 rfl rfl (a1.sz) ?_
  refine r_ldA h 1 rfl rfl (a2.sz) ?_
  refine r_call h (c_toKeyV (a1.at h)) fun r38 _ _ _ ⟨L_13, hL, hO_14⟩ => ?_
  have h := (h.join hL).rot
  have h : At w _ ([(b10, r34, ty_impl_Book), (b5, x2, ty_arr32_uint8), (b4, x1, ty_arr32_uint8), (b3, x0, ty_laws_Book)] ++ (L_13 ++ (L_11 ++ (L_8 ++ (L_6 ++ (L_4 ++ (L_2 ++ ([])))))))) := h
  refine r_chk2 ?_ ?_ ?_
  · exact ldOk_blk h 1 rfl (a2.sz)
  · exact ldOk_blk h 0 rfl (hO_12.sz)
  refine r_call h (c_toKeyV (a2.at h)) fun r40 _ _ _ ⟨L_15, hL, hO_16⟩ => ?_
  have h := (h.join hL).rot
  have h : At w _ ([(b10, r34, ty_impl_Book), (b5, x2, ty_arr32_uint8), (b4, x1, ty_arr32_uint8), (b3, x0, ty_laws_Book)] ++ (L_15 ++ (L_13 ++ (L_11 ++ (L_8 ++ (L_6 ++ (L_4 ++ (L_2 ++ ([]))))))))) := h
  refine r_chk1 ?_ ?_
  · exact ldOk_blk h 0 rfl (hO_12.sz)
  refine r_call h (c_impl_WayTo (hO_12.rd h.pl3) (hO_14.rd h.pl2) (hO_16.rd h.pl1) (by omega)) fun r41 _ h2 _ ⟨L_17, hL, hO_18, hc_19⟩ => ?_
  have h := (h.join hL).rot
  have h : At w _ ([(b10, r34, ty_impl_Book), (b5, x2, ty_arr32_uint8), (b4, x1, ty_arr32_uint8), (b3, x0, ty_laws_Book)] ++ (L_17 ++ (L_15 ++ (L_13 ++ (L_11 ++ (L_8 ++ (L_6 ++ (L_4 ++ (L_2 ++ ([])))))))))) := h
  refine ⟨(r41.1, r41.2), rfl, ?_⟩
  refine r_any fun _ => ?_
  try dsimp only
  refine r_joinI ?_
  refine r_call h (c_eqKeySV (hO_18.rd h.pl1) (hO_9.rd h.pl5) (by omega)) fun r46 _ h _ hr => ?_
  subst hr
  refine r_false rfl ?_
  refine r_ne (fun hh => absurd (hc_19.trans hc_10.symm) hh) fun _ => ?_
  refine ⟨(), rfl, ?_⟩
  refine r_any fun _ => ?_
  try dsimp only
  refine r_joinI ?_
  refine r_draw h fun _ h => ?_
  refine r_ldA h 0 rfl rfl (hO_12.sz) ?_
  refine r_ldA h 3 rfl rfl (a0.sz) ?_
  refine r_call h (c_toBookV (a0.rd.at h) (by omega)) fun r55 _ _ _ ⟨L_20, hL, hO_21⟩ => ?_
  have h := (h.join hL).rot
  have h : At w _ ([(b10, r34, ty_impl_Book), (b5, x2, ty_arr32_uint8), (b4, x1, ty_arr32_uint8), (b3, x0, ty_laws_Book)] ++ (L_20 ++ (L_17 ++ (L_15 ++ (L_13 ++ (L_11 ++ (L_8 ++ (L_6 ++ (L_4 ++ (L_2 ++ ([]))))))))))) := h
  refine r_chk1 ?_ ?_
  · exact ldOk_blk h 0 rfl (hO_12.sz)
  refine r_call h (c_eqBookV (hO_12.rd h.pl5) (hO_21.rd h.pl1) (by omega)) fun r56 _ h _ hr => ?_
  subst hr
  refine r_false rfl ?_
  refine ⟨(), rfl, ?_⟩
  refine r_any fun _ => ?_
  try dsimp only
  refine r_ldA h 0 rfl rfl (hO_12.sz) ?_
  refine r_callR (c_markBookV h.pl5 hO_12 (1) (by omega) (by omega) (by omega)) ?_
  rintro _ _ ⟨rfl, L_22, h, hO_23⟩
  refine ⟨_, rfl, ?_⟩
  have h := h.ps5
  have h : At w _ ([(b10, r34, ty_impl_Book), (b5, x2, ty_arr32_uint8), (b4, x1, ty_arr32_uint8), (b3, x0, ty_laws_Book)] ++ (L_20 ++ (L_17 ++ (L_15 ++ (L_13 ++ (L_22 ++ (L_8 ++ (L_6 ++ (L_4 ++ (L_2 ++ ([]))))))))))) := h
  refine r_joinI ?_
  refine r_if (1 + (msizeBook d0 : Int) < 0) rfl (fun hh => by omega) (fun _ => ?_)
  refine r_call h (c_eqKeySV (hO_18.rd h.pl2) (hO_9.rd h.pl6) (by omega)) fun r66 _ h _ hr => ?_
  subst hr
  refine r_false rfl ?_
  refine r_ne (fun hh => absurd (hc_19.trans hc_10.symm) hh) fun _ => ?_
  refine ⟨(), rfl, ?_⟩
  refine r_any fun _ => ?_
  try dsimp only
  refine r_callR (c_markKeySV h.pl2 hO_18 (1) (by omega) (by omega)) ?_
  rintro _ _ ⟨rfl, L_24, h, hO_25⟩
  refine ⟨_, rfl, ?_⟩
  have h := h.ps2
  have h : At w _ ([(b10, r34, ty_impl_Book), (b5, x2, ty_arr32_uint8), (b4, x1, ty_arr32_uint8), (b3, x0, ty_laws_Book)] ++ (L_20 ++ (L_24 ++ (L_15 ++ (L_13 ++ (L_22 ++ (L_8 ++ (L_6 ++ (L_4 ++ (L_2 ++ ([]))))))))))) := h
  refine r_call h (c_heldKeySV (1) (hO_25.rd h.pl2) (by omega) (by omega)) fun r79 _ h _ hr => ?_
  subst hr
  refine r_if (1 + (msizeKeyS (wayAns d0 d1 d2).1 : Int) < 0) rfl (fun hh => by omega) (fun _ => ?_)
  refine r_ne (fun hh => absurd rfl hh) fun _ => ?_
  refine r_joinI ?_
  refine r_draw h fun _ h => ?_
  refine r_ldA h 3 rfl rfl (a0.sz) ?_
  refine r_ldA h 2 rfl rfl (a1.sz) ?_
  refine r_ldA h 1 rfl rfl (a2.sz) ?_
  refine r_call h (c_toBookV (a0.rd.at h) (by omega)) fun r87 _ _ _ ⟨L_26, hL, hO_27⟩ => ?_
  have h := (h.join hL).rot
  have h : At w _ ([(b10, r34, ty_impl_Book), (b5, x2, ty_arr32_uint8), (b4, x1, ty_arr32_uint8), (b3, x0, ty_laws_Book)] ++ (L_26 ++ (L_20 ++ (L_24 ++ (L_15 ++ (L_13 ++ (L_22 ++ (L_8 ++ (L_6 ++ (L_4 ++ (L_2 ++ ([])))))))))))) := h
  refine r_chk2 ?_ ?_ ?_
  · exact ldOk_blk h 1 rfl (a2.sz)
  · exact ldOk_blk h 2 rfl (a1.sz)
  refine r_call h (c_toKeyV (a1.at h)) fun r89 _ _ _ ⟨L_28, hL, hO_29⟩ => ?_
  have h := (h.join hL).rot
  have h : At w _ ([(b10, r34, ty_impl_Book), (b5, x2, ty_arr32_uint8), (b4, x1, ty_arr32_uint8), (b3, x0, ty_laws_Book)] ++ (L_28 ++ (L_26 ++ (L_20 ++ (L_24 ++ (L_15 ++ (L_13 ++ (L_22 ++ (L_8 ++ (L_6 ++ (L_4 ++ (L_2 ++ ([]))))))))))))) := h
  refine r_chk1 ?_ ?_
  · exact ldOk_blk h 1 rfl (a2.sz)
  refine r_call h (c_toKeyV (a2.at h)) fun r91 _ _ _ ⟨L_30, hL, hO_31⟩ => ?_
  have h := (h.join hL).rot
  have h : At w _ ([(b10, r34, ty_impl_Book), (b5, x2, ty_arr32_uint8), (b4, x1, ty_arr32_uint8), (b3, x0, ty_laws_Book)] ++ (L_30 ++ (L_28 ++ (L_26 ++ (L_20 ++ (L_24 ++ (L_15 ++ (L_13 ++ (L_22 ++ (L_8 ++ (L_6 ++ (L_4 ++ (L_2 ++ ([])))))))))))))) := h
  refine r_call h (c_impl_WayTo (hO_27.rd h.pl3) (hO_29.rd h.pl2) (hO_31.rd h.pl1) (by omega)) fun r92 _ h2 _ ⟨L_32, hL, hO_33, hc_34⟩ => ?_
  have h := (h.join hL).rot
  have h : At w _ ([(b10, r34, ty_impl_Book), (b5, x2, ty_arr32_uint8), (b4, x1, ty_arr32_uint8), (b3, x0, ty_laws_Book)] ++ (L_32 ++ (L_30 ++ (L_28 ++ (L_26 ++ (L_20 ++ (L_24 ++ (L_15 ++ (L_13 ++ (L_22 ++ (L_8 ++ (L_6 ++ (L_4 ++ (L_2 ++ ([]))))))))))))))) := h
  refine ⟨(r92.1, r92.2), rfl, ?_⟩
  refine r_any fun _ => ?_
  try dsimp only
  refine r_joinI ?_
  refine r_call h (c_eqKeySV (hO_33.rd h.pl1) (hO_9.rd h.pl10) (by omega)) fun r97 _ h _ hr => ?_
  subst hr
  refine r_false rfl ?_
  refine r_ne (fun hh => absurd (hc_34.trans hc_10.symm) hh) fun _ => ?_
  refine ⟨(), rfl, ?_⟩
  refine r_any fun _ => ?_
  try dsimp only
  refine r_call h (c_heldKeySV (1) (hO_25.rd h.pl6) (by omega) (by omega)) fun r106 _ h _ hr => ?_
  subst hr
  refine r_if (1 + (msizeKeyS (wayAns d0 d1 d2).1 : Int) < 0) rfl (fun hh => by omega) (fun _ => ?_)
  refine r_ne (fun hh => absurd rfl hh) fun _ => ?_
  exact r_ret h.nil true rfl rfl)

set_option maxRecDepth 100000 in
theorem lifted_FnExactWayTo (os : Os) (started : os.Started) (H : Type) (enc : TypeId × Value → H) :
    ReturnsInHanded {} Tryz.checked os 10 .any (Rows.fnExactWayToSpec.pre6 enc Tryz.prog Tryz.f10 Rows.fnExactWayToRow.domain false) (Rows.fnExactWayToSpec.post enc Tryz.prog Tryz.f10 false true false false) := by
  refine law_lifted (C := Tryz.checked) (tb := ty_bool) (by kernel_rfl) started (by kernel_rfl) Tryz.func10 (by kernel_rfl) (by kernel_rfl) (by kernel_rfl) (by kernel_rfl) rfl
    (fun ds hd => by
      rw [Tryz.params10] at hd
      match ds, hd with
      | [_, _, _], _ => exact ⟨rfl, rfl, rfl⟩)
    (ChangeSpec.witness6 (enc := enc) (C := Tryz.checked) false ⟨#[], #[.agg #[.slice none 0 0, .slice none 0 0], .agg (Array.replicate 32 (.int .u8 0)), .agg (Array.replicate 32 (.int .u8 0))], []⟩ 8 (by kernel_rfl) (by kernel_rfl) (by kernel_rfl) (by kernel_rfl)) ?_
  intro W base args ds p hval0 hA0
  have hval : ∀ (j : Nat) t v, Tryz.f10.params[j]? = some t → args[j]? = some v → Value.okWide Tryz.prog W .any base t v := hval0
  have hA : DataW.TrodAll enc Tryz.prog W 0 (fun _ => true) true Tryz.f10.params.toList args.toList ds p := hA0
  rw [Tryz.params10] at hA hval
  obtain ⟨v0, vs0, d0, ds0, p0, q0, hargs, rfl, rfl, h0, r0⟩ := ChangeShapes.trodAll_cons hA
  obtain ⟨v1, vs1, d1, ds1, p1, q1, rfl, rfl, rfl, h1, r1⟩ := ChangeShapes.trodAll_cons r0
  obtain ⟨v2, vs2, d2, ds2, p2, q2, rfl, rfl, rfl, h2, r2⟩ := ChangeShapes.trodAll_cons r1
  obtain ⟨rfl, rfl, rfl⟩ := ChangeShapes.trodAll_nil r2
  obtain rfl : args = #[v0, v1, v2] := by cases args; simp_all
  obtain ⟨x0, D0, rfl, a0⟩ := open_Book (hval 0 _ _ rfl rfl) h0
  obtain ⟨x1, D1, rfl, a1⟩ := open_Key (hval 1 _ _ rfl rfl) h1
  obtain ⟨x2, D2, rfl, a2⟩ := open_Key (hval 2 _ _ rfl rfl) h2
  exact c_law_FnExactWayTo a0 a1 a2

set_option maxHeartbeats 400000000 in
theorem joined_FnExactWayTo : joinedFacts Tryz.pinned.checked.prog 10 Tryz.f10 Rows.fnExactWayToSpec Rows.fnExactWayToRow = true := by
  unfold joinedFacts
  simp only [Bool.and_eq_true]
  repeat' (apply And.intro)
  all_goals (as_aux_lemma => kernel_rfl)

theorem over_FnExactWayTo : Rows.fnExactWayToRow.holds Tryz.pinned (OpenSpec.ofChange Rows.fnExactWayToSpec) :=
  OpenClaim.holds_of_wide 10 Tryz.f10 rfl rfl rfl rfl rfl rfl rfl ⟨rfl, rfl, rfl, rfl, rfl⟩ rfl rfl rfl rfl rfl (by as_aux_lemma => kernel_rfl) Tryz.func10 joined_FnExactWayTo
    (of_decide_eq_true (by as_aux_lemma => kernel_rfl)) (by unfold Func.isWrapper; first | (rw [if_pos (by as_aux_lemma => decide +kernel)]; as_aux_lemma => kernel_rfl) | (rw [if_neg (by as_aux_lemma => decide +kernel)]; exact ⟨rfl, rfl⟩))
    (fun os started H enc _ => lifted_FnExactWayTo os started H enc)

/-- The given statement. -/
theorem fnExactWayTo_holds : Rows.FnExactWayToSaid := over_FnExactWayTo
#print axioms fnExactWayTo_holds
end Go.Proofs.YtaadgdbegpmlmaaGreat
