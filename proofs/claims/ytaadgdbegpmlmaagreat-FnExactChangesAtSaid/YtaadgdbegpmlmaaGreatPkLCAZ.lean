/- For every input the law FnExactChangesAt returns true, and its arguments read behind the call as before it. Printed by lawgen.py. -/
import Derived.Test.YtaadgdbegpmlmaaGreatRows
import Derived.Test.YtaadgdbegpmlmaaGreatPkLCA34
import Derived.Test.YtaadgdbegpmlmaaGreatPkLCA17
namespace Go.Proofs.YtaadgdbegpmlmaaGreat
open Go.Sx Go.RowKit

theorem c_law_FnExactChangesAt {w : World} {x0 : Array Value} {d0 : PBk} (a0 : RawBook w x0 d0) {x1 : Array Value} {d1 : List Int} (a1 : RdKey w x1 d1) : Ret Tryz.prog n_laws_FnExactChangesAt [.agg x0, .agg x1] w [.bool] (fun r _ => r = true) := laws_FnExactChangesAt_calls _ _ (by
  unfold laws_FnExactChangesAt
  have h := At.refl w
  have hsz0 := chAtAns_small d0 d1
  have hsz1 := chAtAns_msmall d0 d1
  have hsz2 := msizeBook_le d0
  refine r_new h fun b2 _ h => ?_
  have h : At w _ ([(b2, x0, ty_laws_Book)] ++ ([])) := h
  refine r_new h fun b3 _ h => ?_
  have h : At w _ ([(b3, x1, ty_arr32_uint8), (b2, x0, ty_laws_Book)] ++ ([])) := h
  refine r_ldA h 1 rfl rfl (a0.sz) ?_
  refine r_call h (c_szBookV a0 h.below (1048576) (by omega)) fun r18 _ h _ hr => ?_
  subst hr
  by_cases hz_1 : (sizeBook d0 : Int) ≤ 1048576
  rotate_left
  · rw [if_neg hz_1]
    exact r_true rfl (r_ret h.nil true rfl rfl)
  rw [if_pos hz_1]
  refine r_if (1048576 - (sizeBook d0 : Int) < 0) rfl (fun hh => by omega) (fun _ => ?_)
  refine r_joinI ?_
  refine r_draw h fun _ h => ?_
  refine r_ldA h 1 rfl rfl (a0.sz) ?_
  refine r_ldA h 0 rfl rfl (a1.sz) ?_
  refine r_call h (c_toBookV (a0.rd.at h) (by omega)) fun r23 _ _ _ ⟨L_2, hL, hO_3⟩ => ?_
  have h := (h.join hL).rot
  have h : At w _ ([(b3, x1, ty_arr32_uint8), (b2, x0, ty_laws_Book)] ++ (L_2 ++ ([]))) := h
  refine r_chk1 ?_ ?_
  · exact ldOk_blk h 0 rfl (a1.sz)
  refine r_call h (c_toKeyV (a1.at h)) fun r25 _ _ _ ⟨L_4, hL, hO_5⟩ => ?_
  have h := (h.join hL).rot
  have h : At w _ ([(b3, x1, ty_arr32_uint8), (b2, x0, ty_laws_Book)] ++ (L_4 ++ (L_2 ++ ([])))) := h
  refine r_call h (c_spec_ChangesAt (hO_3.rd h.pl2) (hO_5.rd h.pl1) (by omega)) fun r26 _ h2 _ ⟨L_6, hL, hO_7, hc_8⟩ => ?_
  have h := (h.join hL).rot
  have h : At w _ ([(b3, x1, ty_arr32_uint8), (b2, x0, ty_laws_Book)] ++ (L_6 ++ (L_4 ++ (L_2 ++ ([]))))) := h
  refine ⟨(r26.1, r26.2), rfl, ?_⟩
  refine r_any fun _ => ?_
  try dsimp only
  refine r_ldA h 1 rfl rfl (a0.sz) ?_
  refine r_call h (c_toBookV (a0.rd.at h) (by omega)) fun r30 _ _ _ ⟨L_9, hL, hO_10⟩ => ?_
  have h := (h.join hL).rot
  have h : At w _ ([(b3, x1, ty_arr32_uint8), (b2, x0, ty_laws_Book)] ++ (L_9 ++ (L_6 ++ (L_4 ++ (L_2 ++ ([])))))) := h
  refine r_new h fun b8 _ h => ?_
  have h : At w _ ([(b8, #[(.slice none 0 0), (.slice none 0 0)], ty_impl_Book), (b3, x1, ty_arr32_uint8), (b2, x0, ty_laws_Book)] ++ (L_9 ++ (L_6 ++ (L_4 ++ (L_2 ++ ([])))))) := h
  refine r_stA h 0 rfl rfl (hO_10.sz) (rfl) (hO_10.one) fun _ h => ?_
  have h : At w _ ([(b8, r30, ty_impl_Book), (b3, x1, ty_arr32_uint8), (b2, x0, ty_laws_Book)] ++ (L_9 ++ (L_6 ++ (L_4 ++ (L_2 ++ ([])))))) := h
  refine r_joinI ?_
  refine r_draw h fun _ h => ?_
  refine r_ldA h 0 rfl rfl (hO_10.sz) ?_
  refine r_ldA h 1 rfl rfl (a1.sz) ?_
  refine r_call h (c_toKeyV (a1.at h)) fun r34 _ _ _ ⟨L_11, hL, hO_12⟩ => ?_
  have h := (h.join hL).rot
  have h : At w _ ([(b8, r30, ty_impl_Book), (b3, x1, ty_arr32_uint8), (b2, x0, ty_laws_Book)] ++ (L_11 ++ (L_9 ++ (L_6 ++ (L_4 ++ (L_2 ++ ([]))))))) := h
  refine r_chk1 ?_ ?_
  · exact ldOk_blk h 0 rfl (hO_10.sz)
  refine r_call h (c_impl_ChangesAt (hO_10.rd h.pl2) (hO_12.rd h.pl1) (by omega)) fun r35 _ h2 _ ⟨L_13, hL, hO_14, hc_15⟩ => ?_
  have h := (h.join hL).rot
  have h : At w _ ([(b8, r30, ty_impl_Book), (b3, x1, ty_arr32_uint8), (b2, x0, ty_laws_Book)] ++ (L_13 ++ (L_11 ++ (L_9 ++ (L_6 ++ (L_4 ++ (L_2 ++ ([])))))))) := h
  refine ⟨(r35.1, r35.2), rfl, ?_⟩
  refine r_any fun _ => ?_
  try dsimp only
  refine r_joinI ?_
  refine r_call h (c_eqChangeSV (hO_14.rd h.pl1) (hO_7.rd h.pl4) (by omega)) fun r40 _ h _ hr => ?_
  subst hr
  refine r_false rfl ?_
  refine r_ne (fun hh => absurd (hc_15.trans hc_8.symm) hh) fun _ => ?_
  refine ⟨(), rfl, ?_⟩
  refine r_any fun _ => ?_
  try dsimp only
  refine r_joinI ?_
  refine r_draw h fun _ h => ?_
  refine r_ldA h 0 rfl rfl (hO_10.sz) ?_
  refine r_ldA h 2 rfl rfl (a0.sz) ?_
  refine r_call h (c_toBookV (a0.rd.at h) (by omega)) fun r49 _ _ _ ⟨L_16, hL, hO_17⟩ => ?_
  have h := (h.join hL).rot
  have h : At w _ ([(b8, r30, ty_impl_Book), (b3, x1, ty_arr32_uint8), (b2, x0, ty_laws_Book)] ++ (L_16 ++ (L_13 ++ (L_11 ++ (L_9 ++ (L_6 ++ (L_4 ++ (L_2 ++ ([]))))))))) := h
  refine r_chk1 ?_ ?_
  · exact ldOk_blk h 0 rfl (hO_10.sz)
  refine r_call h (c_eqBookV (hO_10.rd h.pl4) (hO_17.rd h.pl1) (by omega)) fun r50 _ h _ hr => ?_
  subst hr
  refine r_false rfl ?_
  refine ⟨(), rfl, ?_⟩
  refine r_any fun _ => ?_
  try dsimp only
  refine r_ldA h 0 rfl rfl (hO_10.sz) ?_
  refine r_callR (c_markBookV h.pl4 hO_10 (1) (by omega) (by omega) (by omega)) ?_
  rintro _ _ ⟨rfl, L_18, h, hO_19⟩
  refine ⟨_, rfl, ?_⟩
  have h := h.ps4
  have h : At w _ ([(b8, r30, ty_impl_Book), (b3, x1, ty_arr32_uint8), (b2, x0, ty_laws_Book)] ++ (L_16 ++ (L_13 ++ (L_11 ++ (L_18 ++ (L_6 ++ (L_4 ++ (L_2 ++ ([]))))))))) := h
  refine r_joinI ?_
  refine r_if (1 + (msizeBook d0 : Int) < 0) rfl (fun hh => by omega) (fun _ => ?_)
  refine r_call h (c_eqChangeSV (hO_14.rd h.pl2) (hO_7.rd h.pl5) (by omega)) fun r60 _ h _ hr => ?_
  subst hr
  refine r_false rfl ?_
  refine r_ne (fun hh => absurd (hc_15.trans hc_8.symm) hh) fun _ => ?_
  refine ⟨(), rfl, ?_⟩
  refine r_any fun _ => ?_
  try dsimp only
  refine r_callR (c_markChangeSV h.pl2 hO_14 (1) (by omega) (by omega) (by omega)) ?_
  rintro _ _ ⟨rfl, L_20, h, hO_21⟩
  refine ⟨_, rfl, ?_⟩
  have h := h.ps2
  have h : At w _ ([(b8, r30, ty_impl_Book), (b3, x1, ty_arr32_uint8), (b2, x0, ty_laws_Book)] ++ (L_16 ++ (L_20 ++ (L_11 ++ (L_18 ++ (L_6 ++ (L_4 ++ (L_2 ++ ([]))))))))) := h
  refine r_call h (c_heldChangeSV (1) (hO_21.rd h.pl2) (by omega) (by omega) (by omega)) fun r73 _ h _ hr => ?_
  subst hr
  refine r_if (1 + (msizeChangeS (chAtAns d0 d1).1 : Int) < 0) rfl (fun hh => by omega) (fun _ => ?_)
  refine r_ne (fun hh => absurd rfl hh) fun _ => ?_
  refine r_joinI ?_
  refine r_draw h fun _ h => ?_
  refine r_ldA h 2 rfl rfl (a0.sz) ?_
  refine r_ldA h 1 rfl rfl (a1.sz) ?_
  refine r_call h (c_toBookV (a0.rd.at h) (by omega)) fun r81 _ _ _ ⟨L_22, hL, hO_23⟩ => ?_
  have h := (h.join hL).rot
  have h : At w _ ([(b8, r30, ty_impl_Book), (b3, x1, ty_arr32_uint8), (b2, x0, ty_laws_Book)] ++ (L_22 ++ (L_16 ++ (L_20 ++ (L_11 ++ (L_18 ++ (L_6 ++ (L_4 ++ (L_2 ++ ([])))))))))) := h
  refine r_chk1 ?_ ?_
  · exact ldOk_blk h 1 rfl (a1.sz)
  refine r_call h (c_toKeyV (a1.at h)) fun r83 _ _ _ ⟨L_24, hL, hO_25⟩ => ?_
  have h := (h.join hL).rot
  have h : At w _ ([(b8, r30, ty_impl_Book), (b3, x1, ty_arr32_uint8), (b2, x0, ty_laws_Book)] ++ (L_24 ++ (L_22 ++ (L_16 ++ (L_20 ++ (L_11 ++ (L_18 ++ (L_6 ++ (L_4 ++ (L_2 ++ ([]))))))))))) := h
  refine r_call h (c_impl_ChangesAt (hO_23.rd h.pl2) (hO_25.rd h.pl1) (by omega)) fun r84 _ h2 _ ⟨L_26, hL, hO_27, hc_28⟩ => ?_
  have h := (h.join hL).rot
  have h : At w _ ([(b8, r30, ty_impl_Book), (b3, x1, ty_arr32_uint8), (b2, x0, ty_laws_Book)] ++ (L_26 ++ (L_24 ++ (L_22 ++ (L_16 ++ (L_20 ++ (L_11 ++ (L_18 ++ (L_6 ++ (L_4 ++ (L_2 ++ ([])))))))))))) := h
  refine ⟨(r84.1, r84.2), rfl, ?_⟩
  refine r_any fun _ => ?_
  try dsimp only
  refine r_joinI ?_
  refine r_call h (c_eqChangeSV (hO_27.rd h.pl1) (hO_7.rd h.pl8) (by omega)) fun r89 _ h _ hr => ?_
  subst hr
  refine r_false rfl ?_
  refine r_ne (fun hh => absurd (hc_28.trans hc_8.symm) hh) fun _ => ?_
  refine ⟨(), rfl, ?_⟩
  refine r_any fun _ => ?_
  try dsimp only
  refine r_call h (c_heldChangeSV (1) (hO_21.rd h.pl5) (by omega) (by omega) (by omega)) fun r98 _ h _ hr => ?_
  subst hr
  refine r_if (1 + (msizeChangeS (chAtAns d0 d1).1 : Int) < 0) rfl (fun hh => by omega) (fun _ => ?_)
  refine r_ne (fun hh => absurd rfl hh) fun _ => ?_
  exact r_ret h.nil true rfl rfl)

set_option maxRecDepth 100000 in
theorem lifted_FnExactChangesAt (os : Os) (started : os.Started) (H : Type) (enc : TypeId × Value → H) :
    ReturnsInHanded {} Tryz.checked os 4 .any (Rows.fnExactChangesAtSpec.pre6 enc Tryz.prog Tryz.f4 Rows.fnExactChangesAtRow.domain false) (Rows.fnExactChangesAtSpec.post enc Tryz.prog Tryz.f4 false true false false) := by
  refine law_lifted (C := Tryz.checked) (tb := ty_bool) (by kernel_rfl) started (by kernel_rfl) Tryz.func4 (by kernel_rfl) (by kernel_rfl) (by kernel_rfl) (by kernel_rfl) rfl
    (fun ds hd => by
      rw [Tryz.params4] at hd
      match ds, hd with
      | [_, _], _ => exact ⟨rfl, rfl, rfl⟩)
    (ChangeSpec.witness6 (enc := enc) (C := Tryz.checked) false ⟨#[], #[.agg #[.slice none 0 0, .slice none 0 0], .agg (Array.replicate 32 (.int .u8 0))], []⟩ 8 (by kernel_rfl) (by kernel_rfl) (by kernel_rfl) (by kernel_rfl)) ?_
  intro W base args ds p hval0 hA0
  have hval : ∀ (j : Nat) t v, Tryz.f4.params[j]? = some t → args[j]? = some v → Value.okWide Tryz.prog W .any base t v := hval0
  have hA : DataW.TrodAll enc Tryz.prog W 0 (fun _ => true) true Tryz.f4.params.toList args.toList ds p := hA0
  rw [Tryz.params4] at hA hval
  obtain ⟨v0, vs0, d0, ds0, p0, q0, hargs, rfl, rfl, h0, r0⟩ := ChangeShapes.trodAll_cons hA
  obtain ⟨v1, vs1, d1, ds1, p1, q1, rfl, rfl, rfl, h1, r1⟩ := ChangeShapes.trodAll_cons r0
  obtain ⟨rfl, rfl, rfl⟩ := ChangeShapes.trodAll_nil r1
  obtain rfl : args = #[v0, v1] := by cases args; simp_all
  obtain ⟨x0, D0, rfl, a0⟩ := open_Book (hval 0 _ _ rfl rfl) h0
  obtain ⟨x1, D1, rfl, a1⟩ := open_Key (hval 1 _ _ rfl rfl) h1
  exact c_law_FnExactChangesAt a0 a1

set_option maxHeartbeats 400000000 in
theorem joined_FnExactChangesAt : joinedFacts Tryz.pinned.checked.prog 4 Tryz.f4 Rows.fnExactChangesAtSpec Rows.fnExactChangesAtRow = true := by
  unfold joinedFacts
  simp only [Bool.and_eq_true]
  repeat' (apply And.intro)
  all_goals (as_aux_lemma => kernel_rfl)

theorem over_FnExactChangesAt : Rows.fnExactChangesAtRow.holds Tryz.pinned (OpenSpec.ofChange Rows.fnExactChangesAtSpec) :=
  OpenClaim.holds_of_wide 4 Tryz.f4 rfl rfl rfl rfl rfl rfl rfl ⟨rfl, rfl, rfl, rfl, rfl⟩ rfl rfl rfl rfl rfl (by as_aux_lemma => kernel_rfl) Tryz.func4 joined_FnExactChangesAt
    (of_decide_eq_true (by as_aux_lemma => kernel_rfl)) (by unfold Func.isWrapper; first | (rw [if_pos (by as_aux_lemma => decide +kernel)]; as_aux_lemma => kernel_rfl) | (rw [if_neg (by as_aux_lemma => decide +kernel)]; exact ⟨rfl, rfl⟩))
    (fun os started H enc _ => lifted_FnExactChangesAt os started H enc)

/-- The given statement. -/
theorem fnExactChangesAt_holds : Rows.FnExactChangesAtSaid := over_FnExactChangesAt
#print axioms fnExactChangesAt_holds
end Go.Proofs.YtaadgdbegpmlmaaGreat
