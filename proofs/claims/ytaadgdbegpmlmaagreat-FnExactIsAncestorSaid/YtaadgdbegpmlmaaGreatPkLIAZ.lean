/- For every input the law FnExactIsAncestor returns true, and its arguments read behind the call as before it. Printed by lawgen.py. -/
import Derived.Test.YtaadgdbegpmlmaaGreatRows
import Derived.Test.YtaadgdbegpmlmaaGreatPkLIA35
import Derived.Test.YtaadgdbegpmlmaaGreatPkLIA19
namespace Go.Proofs.YtaadgdbegpmlmaaGreat
open Go.Sx Go.RowKit

theorem c_law_FnExactIsAncestor {w : World} {x0 : Array Value} {d0 : PBk} (a0 : RawBook w x0 d0) {x1 : Array Value} {d1 : List Int} (a1 : RdKey w x1 d1) {x2 : Array Value} {d2 : List Int} (a2 : RdKey w x2 d2) : Ret Tryz.prog n_laws_FnExactIsAncestor [.agg x0, .agg x1, .agg x2] w [.bool] (fun r _ => r = true) := laws_FnExactIsAncestor_calls _ _ _ (by
  unfold laws_FnExactIsAncestor
  have h := At.refl w
  have hsz0 := msizeBook_le d0
  refine r_new h fun b3 _ h => ?_
  have h : At w _ ([(b3, x0, ty_laws_Book)] ++ ([])) := h
  refine r_new h fun b4 _ h => ?_
  have h : At w _ ([(b4, x1, ty_arr32_uint8), (b3, x0, ty_laws_Book)] ++ ([])) := h
  refine r_new h fun b5 _ h => ?_
  have h : At w _ ([(b5, x2, ty_arr32_uint8), (b4, x1, ty_arr32_uint8), (b3, x0, ty_laws_Book)] ++ ([])) := h
  refine r_ldA h 2 rfl rfl (a0.sz) ?_
  refine r_call h (c_szBookV a0 h.below (1048576) (by omega)) fun r15 _ h _ hr => ?_
  subst hr
  by_cases hz_1 : (sizeBook d0 : Int) ≤ 1048576
  rotate_left
  · rw [if_neg hz_1]
    exact r_true rfl (r_ret h.nil true rfl rfl)
  rw [if_pos hz_1]
  refine r_if (1048576 - (sizeBook d0 : Int) < 0) rfl (fun hh => by omega) (fun _ => ?_)
  refine r_joinI ?_
  refine r_draw h fun _ h => ?_
  refine r_ldA h 2 rfl rfl (a0.sz) ?_
  refine r_ldA h 1 rfl rfl (a1.sz) ?_
  refine r_ldA h 0 rfl rfl (a2.sz) ?_
  refine r_call h (c_toBookV (a0.rd.at h) (by omega)) fun r20 _ _ _ ⟨L_2, hL, hO_3⟩ => ?_
  have h := (h.join hL).rot
  have h : At w _ ([(b5, x2, ty_arr32_uint8), (b4, x1, ty_arr32_uint8), (b3, x0, ty_laws_Book)] ++ (L_2 ++ ([]))) := h
  refine r_chk2 ?_ ?_ ?_
  · exact ldOk_blk h 0 rfl (a2.sz)
  · exact ldOk_blk h 1 rfl (a1.sz)
  refine r_call h (c_toKeyV (a1.at h)) fun r22 _ _ _ ⟨L_4, hL, hO_5⟩ => ?_
  have h := (h.join hL).rot
  have h : At w _ ([(b5, x2, ty_arr32_uint8), (b4, x1, ty_arr32_uint8), (b3, x0, ty_laws_Book)] ++ (L_4 ++ (L_2 ++ ([])))) := h
  refine r_chk1 ?_ ?_
  · exact ldOk_blk h 0 rfl (a2.sz)
  refine r_call h (c_toKeyV (a2.at h)) fun r24 _ _ _ ⟨L_6, hL, hO_7⟩ => ?_
  have h := (h.join hL).rot
  have h : At w _ ([(b5, x2, ty_arr32_uint8), (b4, x1, ty_arr32_uint8), (b3, x0, ty_laws_Book)] ++ (L_6 ++ (L_4 ++ (L_2 ++ ([]))))) := h
  refine r_call h (c_spec_IsAncestor (hO_3.rd h.pl3) (hO_5.rd h.pl2) (hO_7.rd h.pl1) (by omega)) fun r25 _ h2 _ ⟨hc_8, hc_9⟩ => ?_
  have h := h2
  have h : At w _ ([(b5, x2, ty_arr32_uint8), (b4, x1, ty_arr32_uint8), (b3, x0, ty_laws_Book)] ++ (L_6 ++ (L_4 ++ (L_2 ++ ([]))))) := h
  refine ⟨(r25.1, r25.2), rfl, ?_⟩
  refine r_any fun _ => ?_
  try dsimp only
  refine r_ldA h 2 rfl rfl (a0.sz) ?_
  refine r_call h (c_toBookV (a0.rd.at h) (by omega)) fun r29 _ _ _ ⟨L_10, hL, hO_11⟩ => ?_
  have h := (h.join hL).rot
  have h : At w _ ([(b5, x2, ty_arr32_uint8), (b4, x1, ty_arr32_uint8), (b3, x0, ty_laws_Book)] ++ (L_10 ++ (L_6 ++ (L_4 ++ (L_2 ++ ([])))))) := h
  refine r_new h fun b10 _ h => ?_
  have h : At w _ ([(b10, #[(.slice none 0 0), (.slice none 0 0)], ty_impl_Book), (b5, x2, ty_arr32_uint8), (b4, x1, ty_arr32_uint8), (b3, x0, ty_laws_Book)] ++ (L_10 ++ (L_6 ++ (L_4 ++ (L_2 ++ ([])))))) := h
  refine r_stA h 0 rfl rfl (hO_11.sz) (rfl) (hO_11.one) fun _ h => ?_
  have h : At w _ ([(b10, r29, ty_impl_Book), (b5, x2, ty_arr32_uint8), (b4, x1, ty_arr32_uint8), (b3, x0, ty_laws_Book)] ++ (L_10 ++ (L_6 ++ (L_4 ++ (L_2 ++ ([])))))) := h
  refine r_joinI ?_
  refine r_draw h fun _ h => ?_
  refine r_ldA h 0 rfl rfl (hO_11.sz) ?_
  refine r_ldA h 2 rfl rfl (a1.sz) ?_
  refine r_ldA h 1 rfl rfl (a2.sz) ?_
  refine r_call h (c_toKeyV (a1.at h)) fun r33 _ _ _ ⟨L_12, hL, hO_13⟩ => ?_
  have h := (h.join hL).rot
  have h : At w _ ([(b10, r29, ty_impl_Book), (b5, x2, ty_arr32_uint8), (b4, x1, ty_arr32_uint8), (b3, x0, ty_laws_Book)] ++ (L_12 ++ (L_10 ++ (L_6 ++ (L_4 ++ (L_2 ++ ([]))))))) := h
  refine r_chk2 ?_ ?_ ?_
  · exact ldOk_blk h 1 rfl (a2.sz)
  · exact ldOk_blk h 0 rfl (hO_11.sz)
  refine r_call h (c_toKeyV (a2.at h)) fun r35 _ _ _ ⟨L_14, hL, hO_15⟩ => ?_
  have h := (h.join hL).rot
  have h : At w _ ([(b10, r29, ty_impl_Book), (b5, x2, ty_arr32_uint8), (b4, x1, ty_arr32_uint8), (b3, x0, ty_laws_Book)] ++ (L_14 ++ (L_12 ++ (L_10 ++ (L_6 ++ (L_4 ++ (L_2 ++ ([])))))))) := h
  refine r_chk1 ?_ ?_
  · exact ldOk_blk h 0 rfl (hO_11.sz)
  refine r_call h (c_impl_IsAncestor (hO_11.rd h.pl3) (hO_13.rd h.pl2) (hO_15.rd h.pl1) (by omega)) fun r36 _ h2 _ ⟨hc_16, hc_17⟩ => ?_
  have h := h2
  have h : At w _ ([(b10, r29, ty_impl_Book), (b5, x2, ty_arr32_uint8), (b4, x1, ty_arr32_uint8), (b3, x0, ty_laws_Book)] ++ (L_14 ++ (L_12 ++ (L_10 ++ (L_6 ++ (L_4 ++ (L_2 ++ ([])))))))) := h
  refine ⟨(r36.1, r36.2), rfl, ?_⟩
  refine r_any fun _ => ?_
  try dsimp only
  refine r_joinI ?_
  refine r_pur _ (fun w' => run_neqB (by kernel_rfl) _ _ _ _ w') ?_
  refine r_false (by rw [hc_16, hc_8]; simp) ?_
  refine r_ne (fun hh => absurd (hc_17.trans hc_9.symm) hh) fun _ => ?_
  refine ⟨(), rfl, ?_⟩
  refine r_any fun _ => ?_
  try dsimp only
  refine r_draw h fun _ h => ?_
  refine r_ldA h 0 rfl rfl (hO_11.sz) ?_
  refine r_ldA h 3 rfl rfl (a0.sz) ?_
  refine r_call h (c_toBookV (a0.rd.at h) (by omega)) fun r49 _ _ _ ⟨L_18, hL, hO_19⟩ => ?_
  have h := (h.join hL).rot
  have h : At w _ ([(b10, r29, ty_impl_Book), (b5, x2, ty_arr32_uint8), (b4, x1, ty_arr32_uint8), (b3, x0, ty_laws_Book)] ++ (L_18 ++ (L_14 ++ (L_12 ++ (L_10 ++ (L_6 ++ (L_4 ++ (L_2 ++ ([]))))))))) := h
  refine r_chk1 ?_ ?_
  · exact ldOk_blk h 0 rfl (hO_11.sz)
  refine r_call h (c_eqBookV (hO_11.rd h.pl4) (hO_19.rd h.pl1) (by omega)) fun r50 _ h _ hr => ?_
  subst hr
  refine r_false rfl ?_
  exact r_ret h.nil true rfl rfl)

set_option maxRecDepth 100000 in
theorem lifted_FnExactIsAncestor (os : Os) (started : os.Started) (H : Type) (enc : TypeId × Value → H) :
    ReturnsInHanded {} Tryz.checked os 6 .any (Rows.fnExactIsAncestorSpec.pre6 enc Tryz.prog Tryz.f6 Rows.fnExactIsAncestorRow.domain false) (Rows.fnExactIsAncestorSpec.post enc Tryz.prog Tryz.f6 false true false false) := by
  refine law_lifted (C := Tryz.checked) (tb := ty_bool) (by kernel_rfl) started (by kernel_rfl) Tryz.func6 (by kernel_rfl) (by kernel_rfl) (by kernel_rfl) (by kernel_rfl) rfl
    (fun ds hd => by
      rw [Tryz.params6] at hd
      match ds, hd with
      | [_, _, _], _ => exact ⟨rfl, rfl, rfl⟩)
    (ChangeSpec.witness6 (enc := enc) (C := Tryz.checked) false ⟨#[], #[.agg #[.slice none 0 0, .slice none 0 0], .agg (Array.replicate 32 (.int .u8 0)), .agg (Array.replicate 32 (.int .u8 0))], []⟩ 8 (by kernel_rfl) (by kernel_rfl) (by kernel_rfl) (by kernel_rfl)) ?_
  intro W base args ds p hval0 hA0
  have hval : ∀ (j : Nat) t v, Tryz.f6.params[j]? = some t → args[j]? = some v → Value.okWide Tryz.prog W .any base t v := hval0
  have hA : DataW.TrodAll enc Tryz.prog W 0 (fun _ => true) true Tryz.f6.params.toList args.toList ds p := hA0
  rw [Tryz.params6] at hA hval
  obtain ⟨v0, vs0, d0, ds0, p0, q0, hargs, rfl, rfl, h0, r0⟩ := ChangeShapes.trodAll_cons hA
  obtain ⟨v1, vs1, d1, ds1, p1, q1, rfl, rfl, rfl, h1, r1⟩ := ChangeShapes.trodAll_cons r0
  obtain ⟨v2, vs2, d2, ds2, p2, q2, rfl, rfl, rfl, h2, r2⟩ := ChangeShapes.trodAll_cons r1
  obtain ⟨rfl, rfl, rfl⟩ := ChangeShapes.trodAll_nil r2
  obtain rfl : args = #[v0, v1, v2] := by cases args; simp_all
  obtain ⟨x0, D0, rfl, a0⟩ := open_Book (hval 0 _ _ rfl rfl) h0
  obtain ⟨x1, D1, rfl, a1⟩ := open_Key (hval 1 _ _ rfl rfl) h1
  obtain ⟨x2, D2, rfl, a2⟩ := open_Key (hval 2 _ _ rfl rfl) h2
  exact c_law_FnExactIsAncestor a0 a1 a2

set_option maxHeartbeats 400000000 in
theorem joined_FnExactIsAncestor : joinedFacts Tryz.pinned.checked.prog 6 Tryz.f6 Rows.fnExactIsAncestorSpec Rows.fnExactIsAncestorRow = true := by
  unfold joinedFacts
  simp only [Bool.and_eq_true]
  repeat' (apply And.intro)
  all_goals (as_aux_lemma => kernel_rfl)

theorem over_FnExactIsAncestor : Rows.fnExactIsAncestorRow.holds Tryz.pinned (OpenSpec.ofChange Rows.fnExactIsAncestorSpec) :=
  OpenClaim.holds_of_wide 6 Tryz.f6 rfl rfl rfl rfl rfl rfl rfl ⟨rfl, rfl, rfl, rfl, rfl⟩ rfl rfl rfl rfl rfl (by as_aux_lemma => kernel_rfl) Tryz.func6 joined_FnExactIsAncestor
    (of_decide_eq_true (by as_aux_lemma => kernel_rfl)) (by unfold Func.isWrapper; first | (rw [if_pos (by as_aux_lemma => decide +kernel)]; as_aux_lemma => kernel_rfl) | (rw [if_neg (by as_aux_lemma => decide +kernel)]; exact ⟨rfl, rfl⟩))
    (fun os started H enc _ => lifted_FnExactIsAncestor os started H enc)

/-- The given statement. -/
theorem fnExactIsAncestor_holds : Rows.FnExactIsAncestorSaid := over_FnExactIsAncestor
#print axioms fnExactIsAncestor_holds
end Go.Proofs.YtaadgdbegpmlmaaGreat
