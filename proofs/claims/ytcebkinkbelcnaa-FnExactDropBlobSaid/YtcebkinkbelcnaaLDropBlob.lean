/- For every input the law FnExactDropBlob returns true, and its arguments read behind the call as before it. Printed by lawgen.py. -/
import Derived.Test.YtcebkinkbelcnaaT1
import Derived.Test.YtcebkinkbelcnaaR1
import Derived.Test.YtcebkinkbelcnaaRows
namespace Go.Proofs.Ytcebkinkbelcnaa
open Go.Sx Go.RowKit

theorem c_law_FnExactDropBlob {w : World} {x0 : Array Value} {d0 : List PB} (a0 : RawStore w x0 d0) {x1 : Array Value} {d1 : List Int} (a1 : RdKey w x1 d1) : Ret Try.prog n_laws_FnExactDropBlob [.agg x0, .agg x1] w [.bool] (fun r _ => r = true) := laws_FnExactDropBlob_calls _ _ (by
  unfold laws_FnExactDropBlob
  have h := At.refl w
  have hsz0 := dropAns_small d0 d1
  refine r_new h fun b2 _ h => ?_
  have h : At w _ ([(b2, x0, ty_laws_Store)] ++ ([])) := h
  refine r_new h fun b3 _ h => ?_
  have h : At w _ ([(b3, x1, ty_arr32_uint8), (b2, x0, ty_laws_Store)] ++ ([])) := h
  refine r_ldA h 1 rfl rfl (a0.sz) ?_
  refine r_call h (c_szStoreV a0 h.below (1048576) (by omega)) fun r18 _ h _ hr => ?_
  subst hr
  by_cases hz_1 : (sizeBs d0 : Int) ≤ 1048576
  rotate_left
  · rw [if_neg hz_1]
    exact r_true rfl (r_ret h.nil true rfl rfl)
  rw [if_pos hz_1]
  refine r_if (1048576 - (sizeBs d0 : Int) < 0) rfl (fun hh => by omega) (fun _ => ?_)
  refine r_join (σ := Addr × Int) (fun s20 w' => ∃ (b_3 : Nat) (x_4 : Array Value) (L_5 : List Blk), s20.1 = (⟨b_3, 0, none⟩ : Addr) ∧ OwnStore x_4 (dropAns d0 d1).1 L_5 ∧ s20.2 = (dropAns d0 d1).2 ∧ At w w' ([(b_3, x_4, ty_impl_Store), (b3, x1, ty_arr32_uint8), (b2, x0, ty_laws_Store)] ++ (L_5 ++ ([])))) (fun s20 _ hJ => ?_) ?_
  ·
    skip
    obtain ⟨b_3, x_4, L_5, eb_3, hO_6, hc_7, h⟩ := hJ
    refine r_any fun _ => ?_
    rw [eb_3]
    refine r_ldA h 2 rfl rfl (a0.sz) ?_
    refine r_call h (c_toStoreV (a0.rd.at h) (by omega)) fun r30 _ _ _ ⟨L_8, hL, hO_9⟩ => ?_
    have h := (h.join hL).rot
    have h : At w _ ([(b_3, x_4, ty_impl_Store), (b3, x1, ty_arr32_uint8), (b2, x0, ty_laws_Store)] ++ (L_8 ++ (L_5 ++ ([])))) := h
    refine r_new h fun b8 _ h => ?_
    have h : At w _ ([(b8, #[(.slice none 0 0)], ty_impl_Store), (b_3, x_4, ty_impl_Store), (b3, x1, ty_arr32_uint8), (b2, x0, ty_laws_Store)] ++ (L_8 ++ (L_5 ++ ([])))) := h
    refine r_stA h 0 rfl rfl (hO_9.sz) (rfl) (hO_9.one) fun _ h => ?_
    have h : At w _ ([(b8, r30, ty_impl_Store), (b_3, x_4, ty_impl_Store), (b3, x1, ty_arr32_uint8), (b2, x0, ty_laws_Store)] ++ (L_8 ++ (L_5 ++ ([])))) := h
    refine r_join (σ := Addr × Int) (fun s34 w' => ∃ (b_11 : Nat) (x_12 : Array Value) (L_13 : List Blk), s34.1 = (⟨b_11, 0, none⟩ : Addr) ∧ OwnStore x_12 (dropAns d0 d1).1 L_13 ∧ s34.2 = (dropAns d0 d1).2 ∧ At w w' ([(b_11, x_12, ty_impl_Store), (b8, r30, ty_impl_Store), (b_3, x_4, ty_impl_Store), (b3, x1, ty_arr32_uint8), (b2, x0, ty_laws_Store)] ++ (L_13 ++ (L_8 ++ (L_5 ++ ([])))))) (fun s34 _ hJ => ?_) ?_
    ·
      skip
      obtain ⟨b_11, x_12, L_13, eb_11, hO_14, hc_15, h⟩ := hJ
      refine r_any fun _ => ?_
      rw [eb_11]
      refine r_joinI ?_
      refine r_ldA h 0 rfl rfl (hO_14.sz) ?_
      refine r_ldA h 2 rfl rfl (hO_6.sz) ?_
      refine r_call h (c_eqStoreV (hO_14.rd h.pl1) (hO_6.rd h.pl3) (by omega)) fun r40 _ h _ hr => ?_
      subst hr
      refine r_false rfl ?_
      refine r_ne (fun hh => absurd (hc_15.trans hc_7.symm) hh) fun _ => ?_
      refine ⟨(), rfl, ?_⟩
      refine r_any fun _ => ?_
      try dsimp only
      refine r_joinI ?_
      refine r_draw h fun _ h => ?_
      refine r_ldA h 1 rfl rfl (hO_9.sz) ?_
      refine r_ldA h 4 rfl rfl (a0.sz) ?_
      refine r_call h (c_toStoreV (a0.rd.at h) (by omega)) fun r49 _ _ _ ⟨L_16, hL, hO_17⟩ => ?_
      have h := (h.join hL).rot
      have h : At w _ ([(b_11, x_12, ty_impl_Store), (b8, r30, ty_impl_Store), (b_3, x_4, ty_impl_Store), (b3, x1, ty_arr32_uint8), (b2, x0, ty_laws_Store)] ++ (L_16 ++ (L_13 ++ (L_8 ++ (L_5 ++ ([])))))) := h
      refine r_chk1 ?_ ?_
      · exact ldOk_blk h 1 rfl (hO_9.sz)
      refine r_call h (c_eqStoreV (hO_9.rd h.pl3) (hO_17.rd h.pl1) (by omega)) fun r50 _ h _ hr => ?_
      subst hr
      refine r_false rfl ?_
      refine ⟨(), rfl, ?_⟩
      refine r_any fun _ => ?_
      try dsimp only
      refine r_ldA h 1 rfl rfl (hO_9.sz) ?_
      refine r_callR (c_markStoreV h.pl3 hO_9 (1) (by omega) (by omega)) ?_
      rintro _ _ ⟨rfl, L_18, h, hO_19⟩
      refine ⟨_, rfl, ?_⟩
      have h := h.ps3
      have h : At w _ ([(b_11, x_12, ty_impl_Store), (b8, r30, ty_impl_Store), (b_3, x_4, ty_impl_Store), (b3, x1, ty_arr32_uint8), (b2, x0, ty_laws_Store)] ++ (L_16 ++ (L_13 ++ (L_18 ++ (L_5 ++ ([])))))) := h
      refine r_joinI ?_
      refine r_if (1 + (sizeBs d0 : Int) < 0) rfl (fun hh => by omega) (fun _ => ?_)
      refine r_ldA h 0 rfl rfl (hO_14.sz) ?_
      refine r_ldA h 2 rfl rfl (hO_6.sz) ?_
      refine r_call h (c_eqStoreV (hO_14.rd h.pl2) (hO_6.rd h.pl4) (by omega)) fun r60 _ h _ hr => ?_
      subst hr
      refine r_false rfl ?_
      refine r_ne (fun hh => absurd (hc_15.trans hc_7.symm) hh) fun _ => ?_
      refine ⟨(), rfl, ?_⟩
      refine r_any fun _ => ?_
      try dsimp only
      refine r_ldA h 0 rfl rfl (hO_14.sz) ?_
      refine r_callR (c_markStoreV h.pl2 hO_14 (1) (by omega) (by omega)) ?_
      rintro _ _ ⟨rfl, L_20, h, hO_21⟩
      refine ⟨_, rfl, ?_⟩
      have h := h.ps2
      have h : At w _ ([(b_11, x_12, ty_impl_Store), (b8, r30, ty_impl_Store), (b_3, x_4, ty_impl_Store), (b3, x1, ty_arr32_uint8), (b2, x0, ty_laws_Store)] ++ (L_16 ++ (L_20 ++ (L_18 ++ (L_5 ++ ([])))))) := h
      refine r_ldA h 0 rfl rfl (hO_21.sz) ?_
      refine r_call h (c_heldStoreV (1) (hO_21.rd h.pl2) (by omega) (by omega)) fun r73 _ h _ hr => ?_
      subst hr
      refine r_if (1 + (sizeBs (dropAns d0 d1).1 : Int) < 0) rfl (fun hh => by omega) (fun _ => ?_)
      refine r_ne (fun hh => absurd rfl hh) fun _ => ?_
      refine r_join (σ := Addr × Int) (fun s69 w' => ∃ (b_23 : Nat) (x_24 : Array Value) (L_25 : List Blk), s69.1 = (⟨b_23, 0, none⟩ : Addr) ∧ OwnStore x_24 (dropAns d0 d1).1 L_25 ∧ s69.2 = (dropAns d0 d1).2 ∧ At w w' ([(b_23, x_24, ty_impl_Store), (b_11, x_12, ty_impl_Store), (b8, r30, ty_impl_Store), (b_3, x_4, ty_impl_Store), (b3, x1, ty_arr32_uint8), (b2, x0, ty_laws_Store)] ++ (L_25 ++ (L_16 ++ (L_20 ++ (L_18 ++ (L_5 ++ ([])))))))) (fun s69 _ hJ => ?_) ?_
      ·
        skip
        obtain ⟨b_23, x_24, L_25, eb_23, hO_26, hc_27, h⟩ := hJ
        refine r_any fun _ => ?_
        rw [eb_23]
        refine r_joinI ?_
        refine r_ldA h 0 rfl rfl (hO_26.sz) ?_
        refine r_ldA h 3 rfl rfl (hO_6.sz) ?_
        refine r_call h (c_eqStoreV (hO_26.rd h.pl1) (hO_6.rd h.pl5) (by omega)) fun r89 _ h _ hr => ?_
        subst hr
        refine r_false rfl ?_
        refine r_ne (fun hh => absurd (hc_27.trans hc_7.symm) hh) fun _ => ?_
        refine ⟨(), rfl, ?_⟩
        refine r_any fun _ => ?_
        try dsimp only
        refine r_ldA h 1 rfl rfl (hO_21.sz) ?_
        refine r_call h (c_heldStoreV (1) (hO_21.rd h.pl3) (by omega) (by omega)) fun r98 _ h _ hr => ?_
        subst hr
        refine r_if (1 + (sizeBs (dropAns d0 d1).1 : Int) < 0) rfl (fun hh => by omega) (fun _ => ?_)
        refine r_ne (fun hh => absurd rfl hh) fun _ => ?_
        exact r_ret h.nil true rfl rfl
      refine r_draw h fun _ h => ?_
      refine r_ldA h 4 rfl rfl (a0.sz) ?_
      refine r_ldA h 3 rfl rfl (a1.sz) ?_
      refine ⟨?_, ?_⟩
      ·
        skip
        refine r_call h (c_toStoreV (a0.rd.at h) (by omega)) fun r81 _ _ _ ⟨L_28, hL, hO_29⟩ => ?_
        have h := (h.join hL).rot
        have h : At w _ ([(b_11, x_12, ty_impl_Store), (b8, r30, ty_impl_Store), (b_3, x_4, ty_impl_Store), (b3, x1, ty_arr32_uint8), (b2, x0, ty_laws_Store)] ++ (L_28 ++ (L_16 ++ (L_20 ++ (L_18 ++ (L_5 ++ ([]))))))) := h
        refine r_chk1 ?_ ?_
        · exact ldOk_blk h 3 rfl (a1.sz)
        refine ⟨?_, ?_⟩
        ·
          skip
          refine r_call h (c_toKeyV (a1.at h)) fun r83 _ _ _ ⟨L_30, hL, hO_31⟩ => ?_
          have h := (h.join hL).rot
          have h : At w _ ([(b_11, x_12, ty_impl_Store), (b8, r30, ty_impl_Store), (b_3, x_4, ty_impl_Store), (b3, x1, ty_arr32_uint8), (b2, x0, ty_laws_Store)] ++ (L_30 ++ (L_28 ++ (L_16 ++ (L_20 ++ (L_18 ++ (L_5 ++ ([])))))))) := h
          refine ⟨?_, ?_⟩
          ·
            skip
            refine r_call h (c_impl_DropBlob (hO_29.rd h.pl2) (hO_31.rd h.pl1) (by omega)) fun r84 _ h2 _ ⟨L_32, hL, hO_33, hc_34⟩ => ?_
            have h := (h.join hL).rot
            have h : At w _ ([(b_11, x_12, ty_impl_Store), (b8, r30, ty_impl_Store), (b_3, x_4, ty_impl_Store), (b3, x1, ty_arr32_uint8), (b2, x0, ty_laws_Store)] ++ (L_32 ++ (L_30 ++ (L_28 ++ (L_16 ++ (L_20 ++ (L_18 ++ (L_5 ++ ([]))))))))) := h
            refine r_new h fun b14 _ h => ?_
            have h : At w _ ([(b14, #[(.slice none 0 0)], ty_impl_Store), (b_11, x_12, ty_impl_Store), (b8, r30, ty_impl_Store), (b_3, x_4, ty_impl_Store), (b3, x1, ty_arr32_uint8), (b2, x0, ty_laws_Store)] ++ (L_32 ++ (L_30 ++ (L_28 ++ (L_16 ++ (L_20 ++ (L_18 ++ (L_5 ++ ([]))))))))) := h
            refine r_stA h 0 rfl rfl (hO_33.sz) (rfl) (hO_33.one) fun _ h => ?_
            have h : At w _ ([(b14, r84.1, ty_impl_Store), (b_11, x_12, ty_impl_Store), (b8, r30, ty_impl_Store), (b_3, x_4, ty_impl_Store), (b3, x1, ty_arr32_uint8), (b2, x0, ty_laws_Store)] ++ (L_32 ++ (L_30 ++ (L_28 ++ (L_16 ++ (L_20 ++ (L_18 ++ (L_5 ++ ([]))))))))) := h
            have h := h.dr2
            have h := h.dr2
            have h : At w _ ([(b14, r84.1, ty_impl_Store), (b_11, x_12, ty_impl_Store), (b8, r30, ty_impl_Store), (b_3, x_4, ty_impl_Store), (b3, x1, ty_arr32_uint8), (b2, x0, ty_laws_Store)] ++ (L_32 ++ (L_16 ++ (L_20 ++ (L_18 ++ (L_5 ++ ([]))))))) := h
            exact ⟨(⟨b14, 0, none⟩, r84.2), rfl, b14, r84.1, L_32, rfl, hO_33, hc_34, h⟩
          refine r_new h fun b14 _ h => ?_
          have h : At w _ ([(b14, #[(.slice none 0 0)], ty_impl_Store), (b_11, x_12, ty_impl_Store), (b8, r30, ty_impl_Store), (b_3, x_4, ty_impl_Store), (b3, x1, ty_arr32_uint8), (b2, x0, ty_laws_Store)] ++ (L_30 ++ (L_28 ++ (L_16 ++ (L_20 ++ (L_18 ++ (L_5 ++ ([])))))))) := h
          refine r_call h (c_impl_DropBlob (hO_29.rd h.pl2) (hO_31.rd h.pl1) (by omega)) fun r84 _ h2 _ ⟨L_35, hL, hO_36, hc_37⟩ => ?_
          have h := (h.join hL).rot
          have h : At w _ ([(b14, #[(.slice none 0 0)], ty_impl_Store), (b_11, x_12, ty_impl_Store), (b8, r30, ty_impl_Store), (b_3, x_4, ty_impl_Store), (b3, x1, ty_arr32_uint8), (b2, x0, ty_laws_Store)] ++ (L_35 ++ (L_30 ++ (L_28 ++ (L_16 ++ (L_20 ++ (L_18 ++ (L_5 ++ ([]))))))))) := h
          refine r_stA h 0 rfl rfl (hO_36.sz) (rfl) (hO_36.one) fun _ h => ?_
          have h : At w _ ([(b14, r84.1, ty_impl_Store), (b_11, x_12, ty_impl_Store), (b8, r30, ty_impl_Store), (b_3, x_4, ty_impl_Store), (b3, x1, ty_arr32_uint8), (b2, x0, ty_laws_Store)] ++ (L_35 ++ (L_30 ++ (L_28 ++ (L_16 ++ (L_20 ++ (L_18 ++ (L_5 ++ ([]))))))))) := h
          have h := h.dr2
          have h := h.dr2
          have h : At w _ ([(b14, r84.1, ty_impl_Store), (b_11, x_12, ty_impl_Store), (b8, r30, ty_impl_Store), (b_3, x_4, ty_impl_Store), (b3, x1, ty_arr32_uint8), (b2, x0, ty_laws_Store)] ++ (L_35 ++ (L_16 ++ (L_20 ++ (L_18 ++ (L_5 ++ ([]))))))) := h
          exact ⟨(⟨b14, 0, none⟩, r84.2), rfl, b14, r84.1, L_35, rfl, hO_36, hc_37, h⟩
        refine r_new h fun b14 _ h => ?_
        have h : At w _ ([(b14, #[(.slice none 0 0)], ty_impl_Store), (b_11, x_12, ty_impl_Store), (b8, r30, ty_impl_Store), (b_3, x_4, ty_impl_Store), (b3, x1, ty_arr32_uint8), (b2, x0, ty_laws_Store)] ++ (L_28 ++ (L_16 ++ (L_20 ++ (L_18 ++ (L_5 ++ ([]))))))) := h
        refine r_chk1 ?_ ?_
        · exact ldOk_blk h 4 rfl (a1.sz)
        refine r_call h (c_toKeyV (a1.at h)) fun r83 _ _ _ ⟨L_38, hL, hO_39⟩ => ?_
        have h := (h.join hL).rot
        have h : At w _ ([(b14, #[(.slice none 0 0)], ty_impl_Store), (b_11, x_12, ty_impl_Store), (b8, r30, ty_impl_Store), (b_3, x_4, ty_impl_Store), (b3, x1, ty_arr32_uint8), (b2, x0, ty_laws_Store)] ++ (L_38 ++ (L_28 ++ (L_16 ++ (L_20 ++ (L_18 ++ (L_5 ++ ([])))))))) := h
        refine r_call h (c_impl_DropBlob (hO_29.rd h.pl2) (hO_39.rd h.pl1) (by omega)) fun r84 _ h2 _ ⟨L_40, hL, hO_41, hc_42⟩ => ?_
        have h := (h.join hL).rot
        have h : At w _ ([(b14, #[(.slice none 0 0)], ty_impl_Store), (b_11, x_12, ty_impl_Store), (b8, r30, ty_impl_Store), (b_3, x_4, ty_impl_Store), (b3, x1, ty_arr32_uint8), (b2, x0, ty_laws_Store)] ++ (L_40 ++ (L_38 ++ (L_28 ++ (L_16 ++ (L_20 ++ (L_18 ++ (L_5 ++ ([]))))))))) := h
        refine r_stA h 0 rfl rfl (hO_41.sz) (rfl) (hO_41.one) fun _ h => ?_
        have h : At w _ ([(b14, r84.1, ty_impl_Store), (b_11, x_12, ty_impl_Store), (b8, r30, ty_impl_Store), (b_3, x_4, ty_impl_Store), (b3, x1, ty_arr32_uint8), (b2, x0, ty_laws_Store)] ++ (L_40 ++ (L_38 ++ (L_28 ++ (L_16 ++ (L_20 ++ (L_18 ++ (L_5 ++ ([]))))))))) := h
        have h := h.dr2
        have h := h.dr2
        have h : At w _ ([(b14, r84.1, ty_impl_Store), (b_11, x_12, ty_impl_Store), (b8, r30, ty_impl_Store), (b_3, x_4, ty_impl_Store), (b3, x1, ty_arr32_uint8), (b2, x0, ty_laws_Store)] ++ (L_40 ++ (L_16 ++ (L_20 ++ (L_18 ++ (L_5 ++ ([]))))))) := h
        exact ⟨(⟨b14, 0, none⟩, r84.2), rfl, b14, r84.1, L_40, rfl, hO_41, hc_42, h⟩
      refine r_new h fun b14 _ h => ?_
      have h : At w _ ([(b14, #[(.slice none 0 0)], ty_impl_Store), (b_11, x_12, ty_impl_Store), (b8, r30, ty_impl_Store), (b_3, x_4, ty_impl_Store), (b3, x1, ty_arr32_uint8), (b2, x0, ty_laws_Store)] ++ (L_16 ++ (L_20 ++ (L_18 ++ (L_5 ++ ([])))))) := h
      refine r_chk2 ?_ ?_ ?_
      · exact ldOk_blk h 4 rfl (a1.sz)
      · exact ldOk_blk h 5 rfl (a0.sz)
      refine r_call h (c_toStoreV (a0.rd.at h) (by omega)) fun r81 _ _ _ ⟨L_43, hL, hO_44⟩ => ?_
      have h := (h.join hL).rot
      have h : At w _ ([(b14, #[(.slice none 0 0)], ty_impl_Store), (b_11, x_12, ty_impl_Store), (b8, r30, ty_impl_Store), (b_3, x_4, ty_impl_Store), (b3, x1, ty_arr32_uint8), (b2, x0, ty_laws_Store)] ++ (L_43 ++ (L_16 ++ (L_20 ++ (L_18 ++ (L_5 ++ ([]))))))) := h
      refine r_chk1 ?_ ?_
      · exact ldOk_blk h 4 rfl (a1.sz)
      refine r_call h (c_toKeyV (a1.at h)) fun r83 _ _ _ ⟨L_45, hL, hO_46⟩ => ?_
      have h := (h.join hL).rot
      have h : At w _ ([(b14, #[(.slice none 0 0)], ty_impl_Store), (b_11, x_12, ty_impl_Store), (b8, r30, ty_impl_Store), (b_3, x_4, ty_impl_Store), (b3, x1, ty_arr32_uint8), (b2, x0, ty_laws_Store)] ++ (L_45 ++ (L_43 ++ (L_16 ++ (L_20 ++ (L_18 ++ (L_5 ++ ([])))))))) := h
      refine r_call h (c_impl_DropBlob (hO_44.rd h.pl2) (hO_46.rd h.pl1) (by omega)) fun r84 _ h2 _ ⟨L_47, hL, hO_48, hc_49⟩ => ?_
      have h := (h.join hL).rot
      have h : At w _ ([(b14, #[(.slice none 0 0)], ty_impl_Store), (b_11, x_12, ty_impl_Store), (b8, r30, ty_impl_Store), (b_3, x_4, ty_impl_Store), (b3, x1, ty_arr32_uint8), (b2, x0, ty_laws_Store)] ++ (L_47 ++ (L_45 ++ (L_43 ++ (L_16 ++ (L_20 ++ (L_18 ++ (L_5 ++ ([]))))))))) := h
      refine r_stA h 0 rfl rfl (hO_48.sz) (rfl) (hO_48.one) fun _ h => ?_
      have h : At w _ ([(b14, r84.1, ty_impl_Store), (b_11, x_12, ty_impl_Store), (b8, r30, ty_impl_Store), (b_3, x_4, ty_impl_Store), (b3, x1, ty_arr32_uint8), (b2, x0, ty_laws_Store)] ++ (L_47 ++ (L_45 ++ (L_43 ++ (L_16 ++ (L_20 ++ (L_18 ++ (L_5 ++ ([]))))))))) := h
      have h := h.dr2
      have h := h.dr2
      have h : At w _ ([(b14, r84.1, ty_impl_Store), (b_11, x_12, ty_impl_Store), (b8, r30, ty_impl_Store), (b_3, x_4, ty_impl_Store), (b3, x1, ty_arr32_uint8), (b2, x0, ty_laws_Store)] ++ (L_47 ++ (L_16 ++ (L_20 ++ (L_18 ++ (L_5 ++ ([]))))))) := h
      exact ⟨(⟨b14, 0, none⟩, r84.2), rfl, b14, r84.1, L_47, rfl, hO_48, hc_49, h⟩
    refine r_draw h fun _ h => ?_
    refine r_ldA h 0 rfl rfl (hO_9.sz) ?_
    refine r_ldA h 2 rfl rfl (a1.sz) ?_
    refine ⟨?_, ?_⟩
    ·
      skip
      refine r_call h (c_toKeyV (a1.at h)) fun r34 _ _ _ ⟨L_50, hL, hO_51⟩ => ?_
      have h := (h.join hL).rot
      have h : At w _ ([(b8, r30, ty_impl_Store), (b_3, x_4, ty_impl_Store), (b3, x1, ty_arr32_uint8), (b2, x0, ty_laws_Store)] ++ (L_50 ++ (L_8 ++ (L_5 ++ ([]))))) := h
      refine r_chk1 ?_ ?_
      · exact ldOk_blk h 0 rfl (hO_9.sz)
      refine ⟨?_, ?_⟩
      ·
        skip
        refine r_call h (c_impl_DropBlob (hO_9.rd h.pl2) (hO_51.rd h.pl1) (by omega)) fun r35 _ h2 _ ⟨L_52, hL, hO_53, hc_54⟩ => ?_
        have h := (h.join hL).rot
        have h : At w _ ([(b8, r30, ty_impl_Store), (b_3, x_4, ty_impl_Store), (b3, x1, ty_arr32_uint8), (b2, x0, ty_laws_Store)] ++ (L_52 ++ (L_50 ++ (L_8 ++ (L_5 ++ ([])))))) := h
        refine r_new h fun b9 _ h => ?_
        have h : At w _ ([(b9, #[(.slice none 0 0)], ty_impl_Store), (b8, r30, ty_impl_Store), (b_3, x_4, ty_impl_Store), (b3, x1, ty_arr32_uint8), (b2, x0, ty_laws_Store)] ++ (L_52 ++ (L_50 ++ (L_8 ++ (L_5 ++ ([])))))) := h
        refine r_stA h 0 rfl rfl (hO_53.sz) (rfl) (hO_53.one) fun _ h => ?_
        have h : At w _ ([(b9, r35.1, ty_impl_Store), (b8, r30, ty_impl_Store), (b_3, x_4, ty_impl_Store), (b3, x1, ty_arr32_uint8), (b2, x0, ty_laws_Store)] ++ (L_52 ++ (L_50 ++ (L_8 ++ (L_5 ++ ([])))))) := h
        have h := h.dr2
        have h : At w _ ([(b9, r35.1, ty_impl_Store), (b8, r30, ty_impl_Store), (b_3, x_4, ty_impl_Store), (b3, x1, ty_arr32_uint8), (b2, x0, ty_laws_Store)] ++ (L_52 ++ (L_8 ++ (L_5 ++ ([]))))) := h
        exact ⟨(⟨b9, 0, none⟩, r35.2), rfl, b9, r35.1, L_52, rfl, hO_53, hc_54, h⟩
      refine r_new h fun b9 _ h => ?_
      have h : At w _ ([(b9, #[(.slice none 0 0)], ty_impl_Store), (b8, r30, ty_impl_Store), (b_3, x_4, ty_impl_Store), (b3, x1, ty_arr32_uint8), (b2, x0, ty_laws_Store)] ++ (L_50 ++ (L_8 ++ (L_5 ++ ([]))))) := h
      refine r_chk1 ?_ ?_
      · exact ldOk_blk h 1 rfl (hO_9.sz)
      refine r_call h (c_impl_DropBlob (hO_9.rd h.pl2) (hO_51.rd h.pl1) (by omega)) fun r35 _ h2 _ ⟨L_55, hL, hO_56, hc_57⟩ => ?_
      have h := (h.join hL).rot
      have h : At w _ ([(b9, #[(.slice none 0 0)], ty_impl_Store), (b8, r30, ty_impl_Store), (b_3, x_4, ty_impl_Store), (b3, x1, ty_arr32_uint8), (b2, x0, ty_laws_Store)] ++ (L_55 ++ (L_50 ++ (L_8 ++ (L_5 ++ ([])))))) := h
      refine r_stA h 0 rfl rfl (hO_56.sz) (rfl) (hO_56.one) fun _ h => ?_
      have h : At w _ ([(b9, r35.1, ty_impl_Store), (b8, r30, ty_impl_Store), (b_3, x_4, ty_impl_Store), (b3, x1, ty_arr32_uint8), (b2, x0, ty_laws_Store)] ++ (L_55 ++ (L_50 ++ (L_8 ++ (L_5 ++ ([])))))) := h
      have h := h.dr2
      have h : At w _ ([(b9, r35.1, ty_impl_Store), (b8, r30, ty_impl_Store), (b_3, x_4, ty_impl_Store), (b3, x1, ty_arr32_uint8), (b2, x0, ty_laws_Store)] ++ (L_55 ++ (L_8 ++ (L_5 ++ ([]))))) := h
      exact ⟨(⟨b9, 0, none⟩, r35.2), rfl, b9, r35.1, L_55, rfl, hO_56, hc_57, h⟩
    refine r_new h fun b9 _ h => ?_
    have h : At w _ ([(b9, #[(.slice none 0 0)], ty_impl_Store), (b8, r30, ty_impl_Store), (b_3, x_4, ty_impl_Store), (b3, x1, ty_arr32_uint8), (b2, x0, ty_laws_Store)] ++ (L_8 ++ (L_5 ++ ([])))) := h
    refine r_chk2 ?_ ?_ ?_
    · exact ldOk_blk h 3 rfl (a1.sz)
    · exact ldOk_blk h 1 rfl (hO_9.sz)
    refine r_call h (c_toKeyV (a1.at h)) fun r34 _ _ _ ⟨L_58, hL, hO_59⟩ => ?_
    have h := (h.join hL).rot
    have h : At w _ ([(b9, #[(.slice none 0 0)], ty_impl_Store), (b8, r30, ty_impl_Store), (b_3, x_4, ty_impl_Store), (b3, x1, ty_arr32_uint8), (b2, x0, ty_laws_Store)] ++ (L_58 ++ (L_8 ++ (L_5 ++ ([]))))) := h
    refine r_chk1 ?_ ?_
    · exact ldOk_blk h 1 rfl (hO_9.sz)
    refine r_call h (c_impl_DropBlob (hO_9.rd h.pl2) (hO_59.rd h.pl1) (by omega)) fun r35 _ h2 _ ⟨L_60, hL, hO_61, hc_62⟩ => ?_
    have h := (h.join hL).rot
    have h : At w _ ([(b9, #[(.slice none 0 0)], ty_impl_Store), (b8, r30, ty_impl_Store), (b_3, x_4, ty_impl_Store), (b3, x1, ty_arr32_uint8), (b2, x0, ty_laws_Store)] ++ (L_60 ++ (L_58 ++ (L_8 ++ (L_5 ++ ([])))))) := h
    refine r_stA h 0 rfl rfl (hO_61.sz) (rfl) (hO_61.one) fun _ h => ?_
    have h : At w _ ([(b9, r35.1, ty_impl_Store), (b8, r30, ty_impl_Store), (b_3, x_4, ty_impl_Store), (b3, x1, ty_arr32_uint8), (b2, x0, ty_laws_Store)] ++ (L_60 ++ (L_58 ++ (L_8 ++ (L_5 ++ ([])))))) := h
    have h := h.dr2
    have h : At w _ ([(b9, r35.1, ty_impl_Store), (b8, r30, ty_impl_Store), (b_3, x_4, ty_impl_Store), (b3, x1, ty_arr32_uint8), (b2, x0, ty_laws_Store)] ++ (L_60 ++ (L_8 ++ (L_5 ++ ([]))))) := h
    exact ⟨(⟨b9, 0, none⟩, r35.2), rfl, b9, r35.1, L_60, rfl, hO_61, hc_62, h⟩
  refine r_draw h fun _ h => ?_
  refine r_ldA h 1 rfl rfl (a0.sz) ?_
  refine r_ldA h 0 rfl rfl (a1.sz) ?_
  refine ⟨?_, ?_⟩
  ·
    skip
    refine r_call h (c_toStoreV (a0.rd.at h) (by omega)) fun r23 _ _ _ ⟨L_63, hL, hO_64⟩ => ?_
    have h := (h.join hL).rot
    have h : At w _ ([(b3, x1, ty_arr32_uint8), (b2, x0, ty_laws_Store)] ++ (L_63 ++ ([]))) := h
    refine r_chk1 ?_ ?_
    · exact ldOk_blk h 0 rfl (a1.sz)
    refine ⟨?_, ?_⟩
    ·
      skip
      refine r_call h (c_toKeyV (a1.at h)) fun r25 _ _ _ ⟨L_65, hL, hO_66⟩ => ?_
      have h := (h.join hL).rot
      have h : At w _ ([(b3, x1, ty_arr32_uint8), (b2, x0, ty_laws_Store)] ++ (L_65 ++ (L_63 ++ ([])))) := h
      refine ⟨?_, ?_⟩
      ·
        skip
        refine r_call h (c_spec_DropBlob (hO_64.rd h.pl2) (hO_66.rd h.pl1) (by omega)) fun r26 _ h2 _ ⟨L_67, hL, hO_68, hc_69⟩ => ?_
        have h := (h.join hL).rot
        have h : At w _ ([(b3, x1, ty_arr32_uint8), (b2, x0, ty_laws_Store)] ++ (L_67 ++ (L_65 ++ (L_63 ++ ([]))))) := h
        refine r_new h fun b6 _ h => ?_
        have h : At w _ ([(b6, #[(.slice none 0 0)], ty_impl_Store), (b3, x1, ty_arr32_uint8), (b2, x0, ty_laws_Store)] ++ (L_67 ++ (L_65 ++ (L_63 ++ ([]))))) := h
        refine r_stA h 0 rfl rfl (hO_68.sz) (rfl) (hO_68.one) fun _ h => ?_
        have h : At w _ ([(b6, r26.1, ty_impl_Store), (b3, x1, ty_arr32_uint8), (b2, x0, ty_laws_Store)] ++ (L_67 ++ (L_65 ++ (L_63 ++ ([]))))) := h
        have h := h.dr2
        have h := h.dr2
        have h : At w _ ([(b6, r26.1, ty_impl_Store), (b3, x1, ty_arr32_uint8), (b2, x0, ty_laws_Store)] ++ (L_67 ++ ([]))) := h
        exact ⟨(⟨b6, 0, none⟩, r26.2), rfl, b6, r26.1, L_67, rfl, hO_68, hc_69, h⟩
      refine r_new h fun b6 _ h => ?_
      have h : At w _ ([(b6, #[(.slice none 0 0)], ty_impl_Store), (b3, x1, ty_arr32_uint8), (b2, x0, ty_laws_Store)] ++ (L_65 ++ (L_63 ++ ([])))) := h
      refine r_call h (c_spec_DropBlob (hO_64.rd h.pl2) (hO_66.rd h.pl1) (by omega)) fun r26 _ h2 _ ⟨L_70, hL, hO_71, hc_72⟩ => ?_
      have h := (h.join hL).rot
      have h : At w _ ([(b6, #[(.slice none 0 0)], ty_impl_Store), (b3, x1, ty_arr32_uint8), (b2, x0, ty_laws_Store)] ++ (L_70 ++ (L_65 ++ (L_63 ++ ([]))))) := h
      refine r_stA h 0 rfl rfl (hO_71.sz) (rfl) (hO_71.one) fun _ h => ?_
      have h : At w _ ([(b6, r26.1, ty_impl_Store), (b3, x1, ty_arr32_uint8), (b2, x0, ty_laws_Store)] ++ (L_70 ++ (L_65 ++ (L_63 ++ ([]))))) := h
      have h := h.dr2
      have h := h.dr2
      have h : At w _ ([(b6, r26.1, ty_impl_Store), (b3, x1, ty_arr32_uint8), (b2, x0, ty_laws_Store)] ++ (L_70 ++ ([]))) := h
      exact ⟨(⟨b6, 0, none⟩, r26.2), rfl, b6, r26.1, L_70, rfl, hO_71, hc_72, h⟩
    refine r_new h fun b6 _ h => ?_
    have h : At w _ ([(b6, #[(.slice none 0 0)], ty_impl_Store), (b3, x1, ty_arr32_uint8), (b2, x0, ty_laws_Store)] ++ (L_63 ++ ([]))) := h
    refine r_chk1 ?_ ?_
    · exact ldOk_blk h 1 rfl (a1.sz)
    refine r_call h (c_toKeyV (a1.at h)) fun r25 _ _ _ ⟨L_73, hL, hO_74⟩ => ?_
    have h := (h.join hL).rot
    have h : At w _ ([(b6, #[(.slice none 0 0)], ty_impl_Store), (b3, x1, ty_arr32_uint8), (b2, x0, ty_laws_Store)] ++ (L_73 ++ (L_63 ++ ([])))) := h
    refine r_call h (c_spec_DropBlob (hO_64.rd h.pl2) (hO_74.rd h.pl1) (by omega)) fun r26 _ h2 _ ⟨L_75, hL, hO_76, hc_77⟩ => ?_
    have h := (h.join hL).rot
    have h : At w _ ([(b6, #[(.slice none 0 0)], ty_impl_Store), (b3, x1, ty_arr32_uint8), (b2, x0, ty_laws_Store)] ++ (L_75 ++ (L_73 ++ (L_63 ++ ([]))))) := h
    refine r_stA h 0 rfl rfl (hO_76.sz) (rfl) (hO_76.one) fun _ h => ?_
    have h : At w _ ([(b6, r26.1, ty_impl_Store), (b3, x1, ty_arr32_uint8), (b2, x0, ty_laws_Store)] ++ (L_75 ++ (L_73 ++ (L_63 ++ ([]))))) := h
    have h := h.dr2
    have h := h.dr2
    have h : At w _ ([(b6, r26.1, ty_impl_Store), (b3, x1, ty_arr32_uint8), (b2, x0, ty_laws_Store)] ++ (L_75 ++ ([]))) := h
    exact ⟨(⟨b6, 0, none⟩, r26.2), rfl, b6, r26.1, L_75, rfl, hO_76, hc_77, h⟩
  refine r_new h fun b6 _ h => ?_
  have h : At w _ ([(b6, #[(.slice none 0 0)], ty_impl_Store), (b3, x1, ty_arr32_uint8), (b2, x0, ty_laws_Store)] ++ ([])) := h
  refine r_chk2 ?_ ?_ ?_
  · exact ldOk_blk h 1 rfl (a1.sz)
  · exact ldOk_blk h 2 rfl (a0.sz)
  refine r_call h (c_toStoreV (a0.rd.at h) (by omega)) fun r23 _ _ _ ⟨L_78, hL, hO_79⟩ => ?_
  have h := (h.join hL).rot
  have h : At w _ ([(b6, #[(.slice none 0 0)], ty_impl_Store), (b3, x1, ty_arr32_uint8), (b2, x0, ty_laws_Store)] ++ (L_78 ++ ([]))) := h
  refine r_chk1 ?_ ?_
  · exact ldOk_blk h 1 rfl (a1.sz)
  refine r_call h (c_toKeyV (a1.at h)) fun r25 _ _ _ ⟨L_80, hL, hO_81⟩ => ?_
  have h := (h.join hL).rot
  have h : At w _ ([(b6, #[(.slice none 0 0)], ty_impl_Store), (b3, x1, ty_arr32_uint8), (b2, x0, ty_laws_Store)] ++ (L_80 ++ (L_78 ++ ([])))) := h
  refine r_call h (c_spec_DropBlob (hO_79.rd h.pl2) (hO_81.rd h.pl1) (by omega)) fun r26 _ h2 _ ⟨L_82, hL, hO_83, hc_84⟩ => ?_
  have h := (h.join hL).rot
  have h : At w _ ([(b6, #[(.slice none 0 0)], ty_impl_Store), (b3, x1, ty_arr32_uint8), (b2, x0, ty_laws_Store)] ++ (L_82 ++ (L_80 ++ (L_78 ++ ([]))))) := h
  refine r_stA h 0 rfl rfl (hO_83.sz) (rfl) (hO_83.one) fun _ h => ?_
  have h : At w _ ([(b6, r26.1, ty_impl_Store), (b3, x1, ty_arr32_uint8), (b2, x0, ty_laws_Store)] ++ (L_82 ++ (L_80 ++ (L_78 ++ ([]))))) := h
  have h := h.dr2
  have h := h.dr2
  have h : At w _ ([(b6, r26.1, ty_impl_Store), (b3, x1, ty_arr32_uint8), (b2, x0, ty_laws_Store)] ++ (L_82 ++ ([]))) := h
  exact ⟨(⟨b6, 0, none⟩, r26.2), rfl, b6, r26.1, L_82, rfl, hO_83, hc_84, h⟩)

set_option maxRecDepth 100000 in
theorem lifted_FnExactDropBlob (os : Os) (started : os.Started) (H : Type) (enc : TypeId × Value → H) :
    ReturnsInHanded {} Try.checked os 6 .any (Rows.fnExactDropBlobSpec.pre6 enc Try.prog Try.f6 Rows.fnExactDropBlobRow.domain false) (Rows.fnExactDropBlobSpec.post enc Try.prog Try.f6 false true false false) := by
  refine law_lifted (C := Try.checked) (tb := ty_bool) (by kernel_rfl) started (by kernel_rfl) Try.func6 (by kernel_rfl) (by kernel_rfl) (by kernel_rfl) (by kernel_rfl) rfl
    (fun ds hd => by
      rw [Try.params6] at hd
      match ds, hd with
      | [_, _], _ => exact ⟨rfl, rfl, rfl⟩)
    (ChangeSpec.witness6 (enc := enc) (C := Try.checked) false ⟨#[], #[.agg #[.slice none 0 0], .agg (Array.replicate 32 (.int .u8 0))], []⟩ 8 (by kernel_rfl) (by kernel_rfl) (by kernel_rfl) (by kernel_rfl)) ?_
  intro W base args ds p hval0 hA0
  have hval : ∀ (j : Nat) t v, Try.f6.params[j]? = some t → args[j]? = some v → Value.okWide Try.prog W .any base t v := hval0
  have hA : DataW.TrodAll enc Try.prog W 0 (fun _ => true) true Try.f6.params.toList args.toList ds p := hA0
  rw [Try.params6] at hA hval
  obtain ⟨v0, vs0, d0, ds0, p0, q0, hargs, rfl, rfl, h0, r0⟩ := ChangeShapes.trodAll_cons hA
  obtain ⟨v1, vs1, d1, ds1, p1, q1, rfl, rfl, rfl, h1, r1⟩ := ChangeShapes.trodAll_cons r0
  obtain ⟨rfl, rfl, rfl⟩ := ChangeShapes.trodAll_nil r1
  obtain rfl : args = #[v0, v1] := by cases args; simp_all
  obtain ⟨x0, D0, rfl, a0⟩ := open_Store (hval 0 _ _ rfl rfl) h0
  obtain ⟨x1, D1, rfl, a1⟩ := open_Key (hval 1 _ _ rfl rfl) h1
  exact c_law_FnExactDropBlob a0 a1

theorem over_FnExactDropBlob : Rows.fnExactDropBlobRow.holds Try.pinned (OpenSpec.ofChange Rows.fnExactDropBlobSpec) :=
  OpenClaim.holds_of_wide 6 Try.f6 rfl rfl rfl rfl rfl rfl rfl ⟨rfl, rfl, rfl, rfl, rfl⟩ rfl rfl rfl rfl rfl (by kernel_rfl) Try.func6 (by kernel_rfl)
    (of_decide_eq_true (by kernel_rfl)) (by unfold Func.isWrapper; first | (rw [if_pos (by decide +kernel)]; kernel_rfl) | (rw [if_neg (by decide +kernel)]; exact ⟨rfl, rfl⟩))
    (fun os started H enc _ => lifted_FnExactDropBlob os started H enc)

/-- The given statement. -/
theorem fnExactDropBlob_holds : Rows.FnExactDropBlobSaid := over_FnExactDropBlob
#print axioms fnExactDropBlob_holds
end Go.Proofs.Ytcebkinkbelcnaa
