/- For every input the law FnExactGetPartial returns true, and its arguments read behind the call as before it. Printed by lawgen.py. -/
import Derived.Test.YtffedfdhhglmkaaGreatE2
import Derived.Test.YtffedfdhhglmkaaGreatR1
import Derived.Test.YtffedfdhhglmkaaGreatVS
import Derived.Test.YtffedfdhhglmkaaGreatRows
namespace Go.Proofs.YtffedfdhhglmkaaGreat
open Go.Sx Go.RowKit

theorem c_law_FnExactGetPartial {w : World} {x0 : Array Value} {d0 : List PB} (a0 : RawStore w x0 d0) {x1 : Array Value} {d1 : List Int} (a1 : RdKey w x1 d1) (x2 : ByteArray) (a2 : x2.size ≤ maxLen) : Ret Tryz.prog n_laws_FnExactGetPartial [.agg x0, .agg x1, .string x2] w [.bool] (fun r _ => r = true) := laws_FnExactGetPartial_calls _ _ _ (by
  unfold laws_FnExactGetPartial
  have h := At.refl w
  refine r_new h fun b3 _ h => ?_
  have h : At w _ ([(b3, x0, ty_laws_Store)] ++ ([])) := h
  refine r_new h fun b4 _ h => ?_
  have h : At w _ ([(b4, x1, ty_arr32_uint8), (b3, x0, ty_laws_Store)] ++ ([])) := h
  refine r_if ((x2.size : Int) > 1048576) rfl (fun _ => r_ret h.nil true rfl rfl) (fun _ => ?_)
  refine r_ldA h 1 rfl rfl (a0.sz) ?_
  refine r_call h (c_szStoreV a0 h.below (1048576) (by omega)) fun r20 _ h _ hr => ?_
  subst hr
  by_cases hz_1 : (sizeBs d0 : Int) ≤ 1048576
  rotate_left
  · rw [if_neg hz_1]
    exact r_true rfl (r_ret h.nil true rfl rfl)
  rw [if_pos hz_1]
  refine r_if (1048576 - (sizeBs d0 : Int) < 0) rfl (fun hh => by omega) (fun _ => ?_)
  refine r_join (σ := ByteArray × Addr × Int) (fun s20 w' => ∃ (b_4 : Nat) (x_5 : Array Value), s20.1 = (getPAns d0 d1 x2).1 ∧ s20.2.1 = (⟨b_4, 0, none⟩ : Addr) ∧ RdKey w x_5 (getPAns d0 d1 x2).2.1 ∧ s20.2.2 = (getPAns d0 d1 x2).2.2 ∧ At w w' ([(b_4, x_5, ty_impl_Key), (b4, x1, ty_arr32_uint8), (b3, x0, ty_laws_Store)] ++ ([]))) (fun s20 _ hJ => ?_) ?_
  ·
    skip
    obtain ⟨b_4, x_5, hc_3, eb_4, hO_6, hc_7, h⟩ := hJ
    refine r_any fun _ => ?_
    rw [eb_4]
    refine r_ldA h 2 rfl rfl (a0.sz) ?_
    refine r_call h (c_toStoreV (a0.rd.at h) (by omega)) fun r34 _ _ _ ⟨L_8, hL, hO_9⟩ => ?_
    have h := (h.join hL).rot
    have h : At w _ ([(b_4, x_5, ty_impl_Key), (b4, x1, ty_arr32_uint8), (b3, x0, ty_laws_Store)] ++ (L_8 ++ ([]))) := h
    refine r_new h fun b11 _ h => ?_
    have h : At w _ ([(b11, #[(.slice none 0 0)], ty_impl_Store), (b_4, x_5, ty_impl_Key), (b4, x1, ty_arr32_uint8), (b3, x0, ty_laws_Store)] ++ (L_8 ++ ([]))) := h
    refine r_stA h 0 rfl rfl (hO_9.sz) (rfl) (hO_9.one) fun _ h => ?_
    have h : At w _ ([(b11, r34, ty_impl_Store), (b_4, x_5, ty_impl_Key), (b4, x1, ty_arr32_uint8), (b3, x0, ty_laws_Store)] ++ (L_8 ++ ([]))) := h
    refine r_join (σ := ByteArray × Addr × Int) (fun s34 w' => ∃ (b_12 : Nat) (x_13 : Array Value), s34.1 = (getPAns d0 d1 x2).1 ∧ s34.2.1 = (⟨b_12, 0, none⟩ : Addr) ∧ RdKey w x_13 (getPAns d0 d1 x2).2.1 ∧ s34.2.2 = (getPAns d0 d1 x2).2.2 ∧ At w w' ([(b_12, x_13, ty_impl_Key), (b11, r34, ty_impl_Store), (b_4, x_5, ty_impl_Key), (b4, x1, ty_arr32_uint8), (b3, x0, ty_laws_Store)] ++ (L_8 ++ ([])))) (fun s34 _ hJ => ?_) ?_
    ·
      skip
      obtain ⟨b_12, x_13, hc_11, eb_12, hO_14, hc_15, h⟩ := hJ
      refine r_any fun _ => ?_
      rw [eb_12]
      refine r_joinI ?_
      refine r_pur _ (fun w' => run_neq_str _ _ _ _ _ w') ?_
      refine r_false (by rw [hc_11, hc_3]; simp) ?_
      refine r_ldA h 0 rfl rfl (hO_14.sz) ?_
      refine r_ldA h 2 rfl rfl (hO_6.sz) ?_
      refine r_call h (c_eqKeyV (hO_14.at h) (hO_6.at h)) fun r50 _ h _ hr => ?_
      subst hr
      refine r_false rfl ?_
      refine r_ne (fun hh => absurd (hc_15.trans hc_7.symm) hh) fun _ => ?_
      refine ⟨(), rfl, ?_⟩
      refine r_any fun _ => ?_
      try dsimp only
      refine r_draw h fun _ h => ?_
      refine r_ldA h 1 rfl rfl (hO_9.sz) ?_
      refine r_ldA h 4 rfl rfl (a0.sz) ?_
      refine r_call h (c_toStoreV (a0.rd.at h) (by omega)) fun r60 _ _ _ ⟨L_16, hL, hO_17⟩ => ?_
      have h := (h.join hL).rot
      have h : At w _ ([(b_12, x_13, ty_impl_Key), (b11, r34, ty_impl_Store), (b_4, x_5, ty_impl_Key), (b4, x1, ty_arr32_uint8), (b3, x0, ty_laws_Store)] ++ (L_16 ++ (L_8 ++ ([])))) := h
      refine r_chk1 ?_ ?_
      · exact ldOk_blk h 1 rfl (hO_9.sz)
      refine r_call h (c_eqStoreV (hO_9.rd h.pl2) (hO_17.rd h.pl1) (by omega)) fun r61 _ h _ hr => ?_
      subst hr
      refine r_false rfl ?_
      exact r_ret h.nil true rfl rfl
    refine r_draw h fun _ h => ?_
    refine r_ldA h 0 rfl rfl (hO_9.sz) ?_
    refine r_ldA h 2 rfl rfl (a1.sz) ?_
    refine ⟨?_, ?_⟩
    ·
      skip
      refine r_call h (c_toKeyV (a1.at h)) fun r38 _ _ _ ⟨L_18, hL, hO_19⟩ => ?_
      have h := (h.join hL).rot
      have h : At w _ ([(b11, r34, ty_impl_Store), (b_4, x_5, ty_impl_Key), (b4, x1, ty_arr32_uint8), (b3, x0, ty_laws_Store)] ++ (L_18 ++ (L_8 ++ ([])))) := h
      refine r_chk1 ?_ ?_
      · exact ldOk_blk h 0 rfl (hO_9.sz)
      refine ⟨?_, ?_⟩
      ·
        skip
        refine r_call h (c_impl_GetPartial (hO_9.rd h.pl2) (hO_19.rd h.pl1) (by omega)) fun r40 _ h2 _ ⟨hc_20, hc_21, hc_22⟩ => ?_
        have hc_21 : RdKey w r40.2.1 (getPAns d0 d1 x2).2.1 := hc_21
        have h := h2
        have h : At w _ ([(b11, r34, ty_impl_Store), (b_4, x_5, ty_impl_Key), (b4, x1, ty_arr32_uint8), (b3, x0, ty_laws_Store)] ++ (L_18 ++ (L_8 ++ ([])))) := h
        refine r_new h fun b13 _ h => ?_
        have h : At w _ ([(b13, Array.replicate 32 (.int .u8 0), ty_impl_Key), (b11, r34, ty_impl_Store), (b_4, x_5, ty_impl_Key), (b4, x1, ty_arr32_uint8), (b3, x0, ty_laws_Store)] ++ (L_18 ++ (L_8 ++ ([])))) := h
        refine r_stA h 0 rfl rfl (hc_21.sz) (rfl) (hc_21.one) fun _ h => ?_
        have h : At w _ ([(b13, r40.2.1, ty_impl_Key), (b11, r34, ty_impl_Store), (b_4, x_5, ty_impl_Key), (b4, x1, ty_arr32_uint8), (b3, x0, ty_laws_Store)] ++ (L_18 ++ (L_8 ++ ([])))) := h
        have h := h.dr1
        have h : At w _ ([(b13, r40.2.1, ty_impl_Key), (b11, r34, ty_impl_Store), (b_4, x_5, ty_impl_Key), (b4, x1, ty_arr32_uint8), (b3, x0, ty_laws_Store)] ++ (L_8 ++ ([]))) := h
        exact ⟨(r40.1, ⟨b13, 0, none⟩, r40.2.2), rfl, b13, r40.2.1, hc_20, rfl, hc_21, hc_22, h⟩
      refine r_new h fun b13 _ h => ?_
      have h : At w _ ([(b13, Array.replicate 32 (.int .u8 0), ty_impl_Key), (b11, r34, ty_impl_Store), (b_4, x_5, ty_impl_Key), (b4, x1, ty_arr32_uint8), (b3, x0, ty_laws_Store)] ++ (L_18 ++ (L_8 ++ ([])))) := h
      refine r_chk1 ?_ ?_
      · exact ldOk_blk h 1 rfl (hO_9.sz)
      refine r_call h (c_impl_GetPartial (hO_9.rd h.pl2) (hO_19.rd h.pl1) (by omega)) fun r40 _ h2 _ ⟨hc_23, hc_24, hc_25⟩ => ?_
      have hc_24 : RdKey w r40.2.1 (getPAns d0 d1 x2).2.1 := hc_24
      have h := h2
      have h : At w _ ([(b13, Array.replicate 32 (.int .u8 0), ty_impl_Key), (b11, r34, ty_impl_Store), (b_4, x_5, ty_impl_Key), (b4, x1, ty_arr32_uint8), (b3, x0, ty_laws_Store)] ++ (L_18 ++ (L_8 ++ ([])))) := h
      refine r_stA h 0 rfl rfl (hc_24.sz) (rfl) (hc_24.one) fun _ h => ?_
      have h : At w _ ([(b13, r40.2.1, ty_impl_Key), (b11, r34, ty_impl_Store), (b_4, x_5, ty_impl_Key), (b4, x1, ty_arr32_uint8), (b3, x0, ty_laws_Store)] ++ (L_18 ++ (L_8 ++ ([])))) := h
      have h := h.dr1
      have h : At w _ ([(b13, r40.2.1, ty_impl_Key), (b11, r34, ty_impl_Store), (b_4, x_5, ty_impl_Key), (b4, x1, ty_arr32_uint8), (b3, x0, ty_laws_Store)] ++ (L_8 ++ ([]))) := h
      exact ⟨(r40.1, ⟨b13, 0, none⟩, r40.2.2), rfl, b13, r40.2.1, hc_23, rfl, hc_24, hc_25, h⟩
    refine r_new h fun b13 _ h => ?_
    have h : At w _ ([(b13, Array.replicate 32 (.int .u8 0), ty_impl_Key), (b11, r34, ty_impl_Store), (b_4, x_5, ty_impl_Key), (b4, x1, ty_arr32_uint8), (b3, x0, ty_laws_Store)] ++ (L_8 ++ ([]))) := h
    refine r_chk2 ?_ ?_ ?_
    · exact ldOk_blk h 3 rfl (a1.sz)
    · exact ldOk_blk h 1 rfl (hO_9.sz)
    refine r_call h (c_toKeyV (a1.at h)) fun r38 _ _ _ ⟨L_26, hL, hO_27⟩ => ?_
    have h := (h.join hL).rot
    have h : At w _ ([(b13, Array.replicate 32 (.int .u8 0), ty_impl_Key), (b11, r34, ty_impl_Store), (b_4, x_5, ty_impl_Key), (b4, x1, ty_arr32_uint8), (b3, x0, ty_laws_Store)] ++ (L_26 ++ (L_8 ++ ([])))) := h
    refine r_chk1 ?_ ?_
    · exact ldOk_blk h 1 rfl (hO_9.sz)
    refine r_call h (c_impl_GetPartial (hO_9.rd h.pl2) (hO_27.rd h.pl1) (by omega)) fun r40 _ h2 _ ⟨hc_28, hc_29, hc_30⟩ => ?_
    have hc_29 : RdKey w r40.2.1 (getPAns d0 d1 x2).2.1 := hc_29
    have h := h2
    have h : At w _ ([(b13, Array.replicate 32 (.int .u8 0), ty_impl_Key), (b11, r34, ty_impl_Store), (b_4, x_5, ty_impl_Key), (b4, x1, ty_arr32_uint8), (b3, x0, ty_laws_Store)] ++ (L_26 ++ (L_8 ++ ([])))) := h
    refine r_stA h 0 rfl rfl (hc_29.sz) (rfl) (hc_29.one) fun _ h => ?_
    have h : At w _ ([(b13, r40.2.1, ty_impl_Key), (b11, r34, ty_impl_Store), (b_4, x_5, ty_impl_Key), (b4, x1, ty_arr32_uint8), (b3, x0, ty_laws_Store)] ++ (L_26 ++ (L_8 ++ ([])))) := h
    have h := h.dr1
    have h : At w _ ([(b13, r40.2.1, ty_impl_Key), (b11, r34, ty_impl_Store), (b_4, x_5, ty_impl_Key), (b4, x1, ty_arr32_uint8), (b3, x0, ty_laws_Store)] ++ (L_8 ++ ([]))) := h
    exact ⟨(r40.1, ⟨b13, 0, none⟩, r40.2.2), rfl, b13, r40.2.1, hc_28, rfl, hc_29, hc_30, h⟩
  refine r_draw h fun _ h => ?_
  refine r_ldA h 1 rfl rfl (a0.sz) ?_
  refine r_ldA h 0 rfl rfl (a1.sz) ?_
  refine ⟨?_, ?_⟩
  ·
    skip
    refine r_call h (c_toStoreV (a0.rd.at h) (by omega)) fun r25 _ _ _ ⟨L_31, hL, hO_32⟩ => ?_
    have h := (h.join hL).rot
    have h : At w _ ([(b4, x1, ty_arr32_uint8), (b3, x0, ty_laws_Store)] ++ (L_31 ++ ([]))) := h
    refine r_chk1 ?_ ?_
    · exact ldOk_blk h 0 rfl (a1.sz)
    refine ⟨?_, ?_⟩
    ·
      skip
      refine r_call h (c_toKeyV (a1.at h)) fun r27 _ _ _ ⟨L_33, hL, hO_34⟩ => ?_
      have h := (h.join hL).rot
      have h : At w _ ([(b4, x1, ty_arr32_uint8), (b3, x0, ty_laws_Store)] ++ (L_33 ++ (L_31 ++ ([])))) := h
      refine ⟨?_, ?_⟩
      ·
        skip
        refine r_call h (c_spec_GetPartial (hO_32.rd h.pl2) (hO_34.rd h.pl1) (by omega)) fun r29 _ h2 _ ⟨hc_35, hc_36, hc_37⟩ => ?_
        have hc_36 : RdKey w r29.2.1 (getPAns d0 d1 x2).2.1 := hc_36
        have h := h2
        have h : At w _ ([(b4, x1, ty_arr32_uint8), (b3, x0, ty_laws_Store)] ++ (L_33 ++ (L_31 ++ ([])))) := h
        refine r_new h fun b9 _ h => ?_
        have h : At w _ ([(b9, Array.replicate 32 (.int .u8 0), ty_impl_Key), (b4, x1, ty_arr32_uint8), (b3, x0, ty_laws_Store)] ++ (L_33 ++ (L_31 ++ ([])))) := h
        refine r_stA h 0 rfl rfl (hc_36.sz) (rfl) (hc_36.one) fun _ h => ?_
        have h : At w _ ([(b9, r29.2.1, ty_impl_Key), (b4, x1, ty_arr32_uint8), (b3, x0, ty_laws_Store)] ++ (L_33 ++ (L_31 ++ ([])))) := h
        have h := h.dr1
        have h := h.dr1
        have h : At w _ ([(b9, r29.2.1, ty_impl_Key), (b4, x1, ty_arr32_uint8), (b3, x0, ty_laws_Store)] ++ ([])) := h
        exact ⟨(r29.1, ⟨b9, 0, none⟩, r29.2.2), rfl, b9, r29.2.1, hc_35, rfl, hc_36, hc_37, h⟩
      refine r_new h fun b9 _ h => ?_
      have h : At w _ ([(b9, Array.replicate 32 (.int .u8 0), ty_impl_Key), (b4, x1, ty_arr32_uint8), (b3, x0, ty_laws_Store)] ++ (L_33 ++ (L_31 ++ ([])))) := h
      refine r_call h (c_spec_GetPartial (hO_32.rd h.pl2) (hO_34.rd h.pl1) (by omega)) fun r29 _ h2 _ ⟨hc_38, hc_39, hc_40⟩ => ?_
      have hc_39 : RdKey w r29.2.1 (getPAns d0 d1 x2).2.1 := hc_39
      have h := h2
      have h : At w _ ([(b9, Array.replicate 32 (.int .u8 0), ty_impl_Key), (b4, x1, ty_arr32_uint8), (b3, x0, ty_laws_Store)] ++ (L_33 ++ (L_31 ++ ([])))) := h
      refine r_stA h 0 rfl rfl (hc_39.sz) (rfl) (hc_39.one) fun _ h => ?_
      have h : At w _ ([(b9, r29.2.1, ty_impl_Key), (b4, x1, ty_arr32_uint8), (b3, x0, ty_laws_Store)] ++ (L_33 ++ (L_31 ++ ([])))) := h
      have h := h.dr1
      have h := h.dr1
      have h : At w _ ([(b9, r29.2.1, ty_impl_Key), (b4, x1, ty_arr32_uint8), (b3, x0, ty_laws_Store)] ++ ([])) := h
      exact ⟨(r29.1, ⟨b9, 0, none⟩, r29.2.2), rfl, b9, r29.2.1, hc_38, rfl, hc_39, hc_40, h⟩
    refine r_new h fun b9 _ h => ?_
    have h : At w _ ([(b9, Array.replicate 32 (.int .u8 0), ty_impl_Key), (b4, x1, ty_arr32_uint8), (b3, x0, ty_laws_Store)] ++ (L_31 ++ ([]))) := h
    refine r_chk1 ?_ ?_
    · exact ldOk_blk h 1 rfl (a1.sz)
    refine r_call h (c_toKeyV (a1.at h)) fun r27 _ _ _ ⟨L_41, hL, hO_42⟩ => ?_
    have h := (h.join hL).rot
    have h : At w _ ([(b9, Array.replicate 32 (.int .u8 0), ty_impl_Key), (b4, x1, ty_arr32_uint8), (b3, x0, ty_laws_Store)] ++ (L_41 ++ (L_31 ++ ([])))) := h
    refine r_call h (c_spec_GetPartial (hO_32.rd h.pl2) (hO_42.rd h.pl1) (by omega)) fun r29 _ h2 _ ⟨hc_43, hc_44, hc_45⟩ => ?_
    have hc_44 : RdKey w r29.2.1 (getPAns d0 d1 x2).2.1 := hc_44
    have h := h2
    have h : At w _ ([(b9, Array.replicate 32 (.int .u8 0), ty_impl_Key), (b4, x1, ty_arr32_uint8), (b3, x0, ty_laws_Store)] ++ (L_41 ++ (L_31 ++ ([])))) := h
    refine r_stA h 0 rfl rfl (hc_44.sz) (rfl) (hc_44.one) fun _ h => ?_
    have h : At w _ ([(b9, r29.2.1, ty_impl_Key), (b4, x1, ty_arr32_uint8), (b3, x0, ty_laws_Store)] ++ (L_41 ++ (L_31 ++ ([])))) := h
    have h := h.dr1
    have h := h.dr1
    have h : At w _ ([(b9, r29.2.1, ty_impl_Key), (b4, x1, ty_arr32_uint8), (b3, x0, ty_laws_Store)] ++ ([])) := h
    exact ⟨(r29.1, ⟨b9, 0, none⟩, r29.2.2), rfl, b9, r29.2.1, hc_43, rfl, hc_44, hc_45, h⟩
  refine r_new h fun b9 _ h => ?_
  have h : At w _ ([(b9, Array.replicate 32 (.int .u8 0), ty_impl_Key), (b4, x1, ty_arr32_uint8), (b3, x0, ty_laws_Store)] ++ ([])) := h
  refine r_chk2 ?_ ?_ ?_
  · exact ldOk_blk h 1 rfl (a1.sz)
  · exact ldOk_blk h 2 rfl (a0.sz)
  refine r_call h (c_toStoreV (a0.rd.at h) (by omega)) fun r25 _ _ _ ⟨L_46, hL, hO_47⟩ => ?_
  have h := (h.join hL).rot
  have h : At w _ ([(b9, Array.replicate 32 (.int .u8 0), ty_impl_Key), (b4, x1, ty_arr32_uint8), (b3, x0, ty_laws_Store)] ++ (L_46 ++ ([]))) := h
  refine r_chk1 ?_ ?_
  · exact ldOk_blk h 1 rfl (a1.sz)
  refine r_call h (c_toKeyV (a1.at h)) fun r27 _ _ _ ⟨L_48, hL, hO_49⟩ => ?_
  have h := (h.join hL).rot
  have h : At w _ ([(b9, Array.replicate 32 (.int .u8 0), ty_impl_Key), (b4, x1, ty_arr32_uint8), (b3, x0, ty_laws_Store)] ++ (L_48 ++ (L_46 ++ ([])))) := h
  refine r_call h (c_spec_GetPartial (hO_47.rd h.pl2) (hO_49.rd h.pl1) (by omega)) fun r29 _ h2 _ ⟨hc_50, hc_51, hc_52⟩ => ?_
  have hc_51 : RdKey w r29.2.1 (getPAns d0 d1 x2).2.1 := hc_51
  have h := h2
  have h : At w _ ([(b9, Array.replicate 32 (.int .u8 0), ty_impl_Key), (b4, x1, ty_arr32_uint8), (b3, x0, ty_laws_Store)] ++ (L_48 ++ (L_46 ++ ([])))) := h
  refine r_stA h 0 rfl rfl (hc_51.sz) (rfl) (hc_51.one) fun _ h => ?_
  have h : At w _ ([(b9, r29.2.1, ty_impl_Key), (b4, x1, ty_arr32_uint8), (b3, x0, ty_laws_Store)] ++ (L_48 ++ (L_46 ++ ([])))) := h
  have h := h.dr1
  have h := h.dr1
  have h : At w _ ([(b9, r29.2.1, ty_impl_Key), (b4, x1, ty_arr32_uint8), (b3, x0, ty_laws_Store)] ++ ([])) := h
  exact ⟨(r29.1, ⟨b9, 0, none⟩, r29.2.2), rfl, b9, r29.2.1, hc_50, rfl, hc_51, hc_52, h⟩)

set_option maxRecDepth 100000 in
theorem lifted_FnExactGetPartial (os : Os) (started : os.Started) (H : Type) (enc : TypeId × Value → H) :
    ReturnsInHanded {} Tryz.checked os 9 .any (Rows.fnExactGetPartialSpec.pre6 enc Tryz.prog Tryz.f9 Rows.fnExactGetPartialRow.domain false) (Rows.fnExactGetPartialSpec.post enc Tryz.prog Tryz.f9 false true false false) := by
  refine law_lifted (C := Tryz.checked) (tb := ty_bool) (by kernel_rfl) started (by kernel_rfl) Tryz.func9 (by kernel_rfl) (by kernel_rfl) (by kernel_rfl) (by kernel_rfl) rfl
    (fun ds hd => by
      rw [Tryz.params9] at hd
      match ds, hd with
      | [_, _, _], _ => exact ⟨rfl, rfl, rfl⟩)
    (ChangeSpec.witness6 (enc := enc) (C := Tryz.checked) false ⟨#[], #[.agg #[.slice none 0 0], .agg (Array.replicate 32 (.int .u8 0)), .string ⟨#[]⟩], []⟩ 8 (by kernel_rfl) (by kernel_rfl) (by kernel_rfl) (by kernel_rfl)) ?_
  intro W base args ds p hval0 hA0
  have hval : ∀ (j : Nat) t v, Tryz.f9.params[j]? = some t → args[j]? = some v → Value.okWide Tryz.prog W .any base t v := hval0
  have hA : DataW.TrodAll enc Tryz.prog W 0 (fun _ => true) true Tryz.f9.params.toList args.toList ds p := hA0
  rw [Tryz.params9] at hA hval
  obtain ⟨v0, vs0, d0, ds0, p0, q0, hargs, rfl, rfl, h0, r0⟩ := ChangeShapes.trodAll_cons hA
  obtain ⟨v1, vs1, d1, ds1, p1, q1, rfl, rfl, rfl, h1, r1⟩ := ChangeShapes.trodAll_cons r0
  obtain ⟨v2, vs2, d2, ds2, p2, q2, rfl, rfl, rfl, h2, r2⟩ := ChangeShapes.trodAll_cons r1
  obtain ⟨rfl, rfl, rfl⟩ := ChangeShapes.trodAll_nil r2
  obtain rfl : args = #[v0, v1, v2] := by cases args; simp_all
  obtain ⟨x0, D0, rfl, a0⟩ := open_Store (hval 0 _ _ rfl rfl) h0
  obtain ⟨x1, D1, rfl, a1⟩ := open_Key (hval 1 _ _ rfl rfl) h1
  obtain ⟨x2, rfl, a2⟩ := open_Str (hval 2 _ _ rfl rfl) h2
  exact c_law_FnExactGetPartial a0 a1 _ a2

theorem over_FnExactGetPartial : Rows.fnExactGetPartialRow.holds Tryz.pinned (OpenSpec.ofChange Rows.fnExactGetPartialSpec) :=
  OpenClaim.holds_of_wide 9 Tryz.f9 rfl rfl rfl rfl rfl rfl rfl ⟨rfl, rfl, rfl, rfl, rfl⟩ rfl rfl rfl rfl rfl (by kernel_rfl) Tryz.func9 (by kernel_rfl)
    (of_decide_eq_true (by kernel_rfl)) (by unfold Func.isWrapper; first | (rw [if_pos (by decide +kernel)]; kernel_rfl) | (rw [if_neg (by decide +kernel)]; exact ⟨rfl, rfl⟩))
    (fun os started H enc _ => lifted_FnExactGetPartial os started H enc)

/-- The given statement. -/
theorem fnExactGetPartial_holds : Rows.FnExactGetPartialSaid := over_FnExactGetPartial
#print axioms fnExactGetPartial_holds
end Go.Proofs.YtffedfdhhglmkaaGreat
