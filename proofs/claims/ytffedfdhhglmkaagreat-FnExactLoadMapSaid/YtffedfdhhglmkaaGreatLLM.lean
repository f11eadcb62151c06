/- For every input the law FnExactLoadMap returns true, and its arguments read behind the call as before it. Printed by lawgen.py. -/
import Derived.Test.YtffedfdhhglmkaaGreatE6
import Derived.Test.YtffedfdhhglmkaaGreatR1
import Derived.Test.YtffedfdhhglmkaaGreatRows
namespace Go.Proofs.YtffedfdhhglmkaaGreat
open Go.Sx Go.RowKit

theorem c_law_FnExactLoadMap {w : World} {x0 : Array Value} {d0 : List PB} (a0 : RawStore w x0 d0) {x1 : Array Value} {d1 : List Int} (a1 : RdKey w x1 d1) : Ret Tryz.prog n_laws_FnExactLoadMap [.agg x0, .agg x1] w [.bool] (fun r _ => r = true) := laws_FnExactLoadMap_calls _ _ (by
  unfold laws_FnExactLoadMap
  have h := At.refl w
  have hsz0 := loadMAns_size (rdStore_bytes a0.rd) a1.2
  refine r_new h fun b2 _ h => ?_
  have h : At w _ ([(b2, x0, ty_laws_Store)] ++ ([])) := h
  refine r_new h fun b3 _ h => ?_
  have h : At w _ ([(b3, x1, ty_arr32_uint8), (b2, x0, ty_laws_Store)] ++ ([])) := h
  refine r_ldA h 1 rfl rfl (a0.sz) ?_
  refine r_call h (c_szStoreV a0 h.below (1048576) (by omega)) fun r21 _ h _ hr => ?_
  subst hr
  by_cases hz_1 : (sizeBs d0 : Int) ≤ 1048576
  rotate_left
  · rw [if_neg hz_1]
    exact r_true rfl (r_ret h.nil true rfl rfl)
  rw [if_pos hz_1]
  refine r_if (1048576 - (sizeBs d0 : Int) < 0) rfl (fun hh => by omega) (fun _ => ?_)
  refine r_join (σ := Sl × Addr × Int) (fun s20 w' => ∃ (L_3 : List Blk) (b_5 : Nat) (x_6 : Array Value), OwnEntryS s20.1 (loadMAns d0 d1).1 L_3 ∧ s20.2.1 = (⟨b_5, 0, none⟩ : Addr) ∧ RdKey w x_6 (loadMAns d0 d1).2.1 ∧ s20.2.2 = (loadMAns d0 d1).2.2 ∧ At w w' ([(b_5, x_6, ty_impl_Key), (b3, x1, ty_arr32_uint8), (b2, x0, ty_laws_Store)] ++ (L_3 ++ ([])))) (fun s20 _ hJ => ?_) ?_
  ·
    skip
    obtain ⟨L_3, b_5, x_6, hO_4, eb_5, hO_7, hc_8, h⟩ := hJ
    refine r_any fun _ => ?_
    rw [eb_5]
    refine r_ldA h 2 rfl rfl (a0.sz) ?_
    refine r_call h (c_toStoreV (a0.rd.at h) (by omega)) fun r34 _ _ _ ⟨L_9, hL, hO_10⟩ => ?_
    have h := (h.join hL).rot
    have h : At w _ ([(b_5, x_6, ty_impl_Key), (b3, x1, ty_arr32_uint8), (b2, x0, ty_laws_Store)] ++ (L_9 ++ (L_3 ++ ([])))) := h
    refine r_new h fun b9 _ h => ?_
    have h : At w _ ([(b9, #[(.slice none 0 0)], ty_impl_Store), (b_5, x_6, ty_impl_Key), (b3, x1, ty_arr32_uint8), (b2, x0, ty_laws_Store)] ++ (L_9 ++ (L_3 ++ ([])))) := h
    refine r_stA h 0 rfl rfl (hO_10.sz) (rfl) (hO_10.one) fun _ h => ?_
    have h : At w _ ([(b9, r34, ty_impl_Store), (b_5, x_6, ty_impl_Key), (b3, x1, ty_arr32_uint8), (b2, x0, ty_laws_Store)] ++ (L_9 ++ (L_3 ++ ([])))) := h
    refine r_join (σ := Sl × Addr × Int) (fun s34 w' => ∃ (L_12 : List Blk) (b_14 : Nat) (x_15 : Array Value), OwnEntryS s34.1 (loadMAns d0 d1).1 L_12 ∧ s34.2.1 = (⟨b_14, 0, none⟩ : Addr) ∧ RdKey w x_15 (loadMAns d0 d1).2.1 ∧ s34.2.2 = (loadMAns d0 d1).2.2 ∧ At w w' ([(b_14, x_15, ty_impl_Key), (b9, r34, ty_impl_Store), (b_5, x_6, ty_impl_Key), (b3, x1, ty_arr32_uint8), (b2, x0, ty_laws_Store)] ++ (L_12 ++ (L_9 ++ (L_3 ++ ([])))))) (fun s34 _ hJ => ?_) ?_
    ·
      skip
      obtain ⟨L_12, b_14, x_15, hO_13, eb_14, hO_16, hc_17, h⟩ := hJ
      refine r_any fun _ => ?_
      rw [eb_14]
      refine r_joinI ?_
      refine r_call h (c_eqEntrySV (hO_13.rd h.pl1) (hO_4.rd h.pl3) (by omega)) fun r45 _ h _ hr => ?_
      subst hr
      refine r_false rfl ?_
      refine r_ldA h 0 rfl rfl (hO_16.sz) ?_
      refine r_ldA h 2 rfl rfl (hO_7.sz) ?_
      refine r_call h (c_eqKeyV (hO_16.at h) (hO_7.at h)) fun r50 _ h _ hr => ?_
      subst hr
      refine r_false rfl ?_
      refine r_ne (fun hh => absurd (hc_17.trans hc_8.symm) hh) fun _ => ?_
      refine ⟨(), rfl, ?_⟩
      refine r_any fun _ => ?_
      try dsimp only
      refine r_joinI ?_
      refine r_draw h fun _ h => ?_
      refine r_ldA h 1 rfl rfl (hO_10.sz) ?_
      refine r_ldA h 4 rfl rfl (a0.sz) ?_
      refine r_call h (c_toStoreV (a0.rd.at h) (by omega)) fun r60 _ _ _ ⟨L_18, hL, hO_19⟩ => ?_
      have h := (h.join hL).rot
      have h : At w _ ([(b_14, x_15, ty_impl_Key), (b9, r34, ty_impl_Store), (b_5, x_6, ty_impl_Key), (b3, x1, ty_arr32_uint8), (b2, x0, ty_laws_Store)] ++ (L_18 ++ (L_12 ++ (L_9 ++ (L_3 ++ ([])))))) := h
      refine r_chk1 ?_ ?_
      · exact ldOk_blk h 1 rfl (hO_10.sz)
      refine r_call h (c_eqStoreV (hO_10.rd h.pl3) (hO_19.rd h.pl1) (by omega)) fun r61 _ h _ hr => ?_
      subst hr
      refine r_false rfl ?_
      refine ⟨(), rfl, ?_⟩
      refine r_any fun _ => ?_
      try dsimp only
      refine r_ldA h 1 rfl rfl (hO_10.sz) ?_
      refine r_callR (c_markStoreV h.pl3 hO_10 (1) (by omega) (by omega)) ?_
      rintro _ _ ⟨rfl, L_20, h, hO_21⟩
      refine ⟨_, rfl, ?_⟩
      have h := h.ps3
      have h : At w _ ([(b_14, x_15, ty_impl_Key), (b9, r34, ty_impl_Store), (b_5, x_6, ty_impl_Key), (b3, x1, ty_arr32_uint8), (b2, x0, ty_laws_Store)] ++ (L_18 ++ (L_12 ++ (L_20 ++ (L_3 ++ ([])))))) := h
      refine r_joinI ?_
      refine r_if (1 + (sizeBs d0 : Int) < 0) rfl (fun hh => by omega) (fun _ => ?_)
      refine r_call h (c_eqEntrySV (hO_13.rd h.pl2) (hO_4.rd h.pl4) (by omega)) fun r71 _ h _ hr => ?_
      subst hr
      refine r_false rfl ?_
      refine r_ldA h 0 rfl rfl (hO_16.sz) ?_
      refine r_ldA h 2 rfl rfl (hO_7.sz) ?_
      refine r_call h (c_eqKeyV (hO_16.at h) (hO_7.at h)) fun r77 _ h _ hr => ?_
      subst hr
      refine r_false rfl ?_
      refine r_ne (fun hh => absurd (hc_17.trans hc_8.symm) hh) fun _ => ?_
      refine ⟨(), rfl, ?_⟩
      refine r_any fun _ => ?_
      try dsimp only
      refine r_callR (c_markEntrySV h.pl2 hO_13 (1) (by omega) (by omega) (by omega)) ?_
      rintro _ _ ⟨rfl, L_22, h, hO_23⟩
      refine ⟨_, rfl, ?_⟩
      have h := h.ps2
      have h : At w _ ([(b_14, x_15, ty_impl_Key), (b9, r34, ty_impl_Store), (b_5, x_6, ty_impl_Key), (b3, x1, ty_arr32_uint8), (b2, x0, ty_laws_Store)] ++ (L_18 ++ (L_22 ++ (L_20 ++ (L_3 ++ ([])))))) := h
      refine r_call h (c_heldEntrySV (1) (hO_23.rd h.pl2) (by omega) (by omega) (by omega)) fun r90 _ h _ hr => ?_
      subst hr
      refine r_if (1 + (msizeEntryS (loadMAns d0 d1).1 : Int) < 0) rfl (fun hh => by omega) (fun _ => ?_)
      refine r_ne (fun hh => absurd rfl hh) fun _ => ?_
      refine r_join (σ := Sl × Addr × Int) (fun s69 w' => ∃ (L_25 : List Blk) (b_27 : Nat) (x_28 : Array Value), OwnEntryS s69.1 (loadMAns d0 d1).1 L_25 ∧ s69.2.1 = (⟨b_27, 0, none⟩ : Addr) ∧ RdKey w x_28 (loadMAns d0 d1).2.1 ∧ s69.2.2 = (loadMAns d0 d1).2.2 ∧ At w w' ([(b_27, x_28, ty_impl_Key), (b_14, x_15, ty_impl_Key), (b9, r34, ty_impl_Store), (b_5, x_6, ty_impl_Key), (b3, x1, ty_arr32_uint8), (b2, x0, ty_laws_Store)] ++ (L_25 ++ (L_18 ++ (L_22 ++ (L_20 ++ (L_3 ++ ([])))))))) (fun s69 _ hJ => ?_) ?_
      ·
        skip
        obtain ⟨L_25, b_27, x_28, hO_26, eb_27, hO_29, hc_30, h⟩ := hJ
        refine r_any fun _ => ?_
        rw [eb_27]
        refine r_joinI ?_
        refine r_call h (c_eqEntrySV (hO_26.rd h.pl1) (hO_4.rd h.pl5) (by omega)) fun r107 _ h _ hr => ?_
        subst hr
        refine r_false rfl ?_
        refine r_ldA h 0 rfl rfl (hO_29.sz) ?_
        refine r_ldA h 3 rfl rfl (hO_7.sz) ?_
        refine r_call h (c_eqKeyV (hO_29.at h) (hO_7.at h)) fun r112 _ h _ hr => ?_
        subst hr
        refine r_false rfl ?_
        refine r_ne (fun hh => absurd (hc_30.trans hc_8.symm) hh) fun _ => ?_
        refine ⟨(), rfl, ?_⟩
        refine r_any fun _ => ?_
        try dsimp only
        refine r_call h (c_heldEntrySV (1) (hO_23.rd h.pl3) (by omega) (by omega) (by omega)) fun r122 _ h _ hr => ?_
        subst hr
        refine r_if (1 + (msizeEntryS (loadMAns d0 d1).1 : Int) < 0) rfl (fun hh => by omega) (fun _ => ?_)
        refine r_ne (fun hh => absurd rfl hh) fun _ => ?_
        exact r_ret h.nil true rfl rfl
      refine r_draw h fun _ h => ?_
      refine r_ldA h 4 rfl rfl (a0.sz) ?_
      refine r_ldA h 3 rfl rfl (a1.sz) ?_
      refine ⟨?_, ?_⟩
      ·
        skip
        refine r_call h (c_toStoreV (a0.rd.at h) (by omega)) fun r98 _ _ _ ⟨L_31, hL, hO_32⟩ => ?_
        have h := (h.join hL).rot
        have h : At w _ ([(b_14, x_15, ty_impl_Key), (b9, r34, ty_impl_Store), (b_5, x_6, ty_impl_Key), (b3, x1, ty_arr32_uint8), (b2, x0, ty_laws_Store)] ++ (L_31 ++ (L_18 ++ (L_22 ++ (L_20 ++ (L_3 ++ ([]))))))) := h
        refine r_chk1 ?_ ?_
        · exact ldOk_blk h 3 rfl (a1.sz)
        refine ⟨?_, ?_⟩
        ·
          skip
          refine r_call h (c_toKeyV (a1.at h)) fun r100 _ _ _ ⟨L_33, hL, hO_34⟩ => ?_
          have h := (h.join hL).rot
          have h : At w _ ([(b_14, x_15, ty_impl_Key), (b9, r34, ty_impl_Store), (b_5, x_6, ty_impl_Key), (b3, x1, ty_arr32_uint8), (b2, x0, ty_laws_Store)] ++ (L_33 ++ (L_31 ++ (L_18 ++ (L_22 ++ (L_20 ++ (L_3 ++ ([])))))))) := h
          refine ⟨?_, ?_⟩
          ·
            skip
            refine r_call h (c_impl_LoadMap (hO_32.rd h.pl2) (hO_34.rd h.pl1) (by omega)) fun r101 _ h2 _ ⟨L_35, hL, hO_36, hc_37, hc_38⟩ => ?_
            have h := (h.join hL).rot
            have hc_37 : RdKey w r101.2.1 (loadMAns d0 d1).2.1 := hc_37
            have h : At w _ ([(b_14, x_15, ty_impl_Key), (b9, r34, ty_impl_Store), (b_5, x_6, ty_impl_Key), (b3, x1, ty_arr32_uint8), (b2, x0, ty_laws_Store)] ++ (L_35 ++ (L_33 ++ (L_31 ++ (L_18 ++ (L_22 ++ (L_20 ++ (L_3 ++ ([]))))))))) := h
            refine r_new h fun b17 _ h => ?_
            have h : At w _ ([(b17, Array.replicate 32 (.int .u8 0), ty_impl_Key), (b_14, x_15, ty_impl_Key), (b9, r34, ty_impl_Store), (b_5, x_6, ty_impl_Key), (b3, x1, ty_arr32_uint8), (b2, x0, ty_laws_Store)] ++ (L_35 ++ (L_33 ++ (L_31 ++ (L_18 ++ (L_22 ++ (L_20 ++ (L_3 ++ ([]))))))))) := h
            refine r_stA h 0 rfl rfl (hc_37.sz) (rfl) (hc_37.one) fun _ h => ?_
            have h : At w _ ([(b17, r101.2.1, ty_impl_Key), (b_14, x_15, ty_impl_Key), (b9, r34, ty_impl_Store), (b_5, x_6, ty_impl_Key), (b3, x1, ty_arr32_uint8), (b2, x0, ty_laws_Store)] ++ (L_35 ++ (L_33 ++ (L_31 ++ (L_18 ++ (L_22 ++ (L_20 ++ (L_3 ++ ([]))))))))) := h
            have h := h.dr2
            have h := h.dr2
            have h : At w _ ([(b17, r101.2.1, ty_impl_Key), (b_14, x_15, ty_impl_Key), (b9, r34, ty_impl_Store), (b_5, x_6, ty_impl_Key), (b3, x1, ty_arr32_uint8), (b2, x0, ty_laws_Store)] ++ (L_35 ++ (L_18 ++ (L_22 ++ (L_20 ++ (L_3 ++ ([]))))))) := h
            exact ⟨(r101.1, ⟨b17, 0, none⟩, r101.2.2), rfl, L_35, b17, r101.2.1, hO_36, rfl, hc_37, hc_38, h⟩
          refine r_new h fun b17 _ h => ?_
          have h : At w _ ([(b17, Array.replicate 32 (.int .u8 0), ty_impl_Key), (b_14, x_15, ty_impl_Key), (b9, r34, ty_impl_Store), (b_5, x_6, ty_impl_Key), (b3, x1, ty_arr32_uint8), (b2, x0, ty_laws_Store)] ++ (L_33 ++ (L_31 ++ (L_18 ++ (L_22 ++ (L_20 ++ (L_3 ++ ([])))))))) := h
          refine r_call h (c_impl_LoadMap (hO_32.rd h.pl2) (hO_34.rd h.pl1) (by omega)) fun r101 _ h2 _ ⟨L_39, hL, hO_40, hc_41, hc_42⟩ => ?_
          have h := (h.join hL).rot
          have hc_41 : RdKey w r101.2.1 (loadMAns d0 d1).2.1 := hc_41
          have h : At w _ ([(b17, Array.replicate 32 (.int .u8 0), ty_impl_Key), (b_14, x_15, ty_impl_Key), (b9, r34, ty_impl_Store), (b_5, x_6, ty_impl_Key), (b3, x1, ty_arr32_uint8), (b2, x0, ty_laws_Store)] ++ (L_39 ++ (L_33 ++ (L_31 ++ (L_18 ++ (L_22 ++ (L_20 ++ (L_3 ++ ([]))))))))) := h
          refine r_stA h 0 rfl rfl (hc_41.sz) (rfl) (hc_41.one) fun _ h => ?_
          have h : At w _ ([(b17, r101.2.1, ty_impl_Key), (b_14, x_15, ty_impl_Key), (b9, r34, ty_impl_Store), (b_5, x_6, ty_impl_Key), (b3, x1, ty_arr32_uint8), (b2, x0, ty_laws_Store)] ++ (L_39 ++ (L_33 ++ (L_31 ++ (L_18 ++ (L_22 ++ (L_20 ++ (L_3 ++ ([]))))))))) := h
          have h := h.dr2
          have h := h.dr2
          have h : At w _ ([(b17, r101.2.1, ty_impl_Key), (b_14, x_15, ty_impl_Key), (b9, r34, ty_impl_Store), (b_5, x_6, ty_impl_Key), (b3, x1, ty_arr32_uint8), (b2, x0, ty_laws_Store)] ++ (L_39 ++ (L_18 ++ (L_22 ++ (L_20 ++ (L_3 ++ ([]))))))) := h
          exact ⟨(r101.1, ⟨b17, 0, none⟩, r101.2.2), rfl, L_39, b17, r101.2.1, hO_40, rfl, hc_41, hc_42, h⟩
        refine r_new h fun b17 _ h => ?_
        have h : At w _ ([(b17, Array.replicate 32 (.int .u8 0), ty_impl_Key), (b_14, x_15, ty_impl_Key), (b9, r34, ty_impl_Store), (b_5, x_6, ty_impl_Key), (b3, x1, ty_arr32_uint8), (b2, x0, ty_laws_Store)] ++ (L_31 ++ (L_18 ++ (L_22 ++ (L_20 ++ (L_3 ++ ([]))))))) := h
        refine r_chk1 ?_ ?_
        · exact ldOk_blk h 4 rfl (a1.sz)
        refine r_call h (c_toKeyV (a1.at h)) fun r100 _ _ _ ⟨L_43, hL, hO_44⟩ => ?_
        have h := (h.join hL).rot
        have h : At w _ ([(b17, Array.replicate 32 (.int .u8 0), ty_impl_Key), (b_14, x_15, ty_impl_Key), (b9, r34, ty_impl_Store), (b_5, x_6, ty_impl_Key), (b3, x1, ty_arr32_uint8), (b2, x0, ty_laws_Store)] ++ (L_43 ++ (L_31 ++ (L_18 ++ (L_22 ++ (L_20 ++ (L_3 ++ ([])))))))) := h
        refine r_call h (c_impl_LoadMap (hO_32.rd h.pl2) (hO_44.rd h.pl1) (by omega)) fun r101 _ h2 _ ⟨L_45, hL, hO_46, hc_47, hc_48⟩ => ?_
        have h := (h.join hL).rot
        have hc_47 : RdKey w r101.2.1 (loadMAns d0 d1).2.1 := hc_47
        have h : At w _ ([(b17, Array.replicate 32 (.int .u8 0), ty_impl_Key), (b_14, x_15, ty_impl_Key), (b9, r34, ty_impl_Store), (b_5, x_6, ty_impl_Key), (b3, x1, ty_arr32_uint8), (b2, x0, ty_laws_Store)] ++ (L_45 ++ (L_43 ++ (L_31 ++ (L_18 ++ (L_22 ++ (L_20 ++ (L_3 ++ ([]))))))))) := h
        refine r_stA h 0 rfl rfl (hc_47.sz) (rfl) (hc_47.one) fun _ h => ?_
        have h : At w _ ([(b17, r101.2.1, ty_impl_Key), (b_14, x_15, ty_impl_Key), (b9, r34, ty_impl_Store), (b_5, x_6, ty_impl_Key), (b3, x1, ty_arr32_uint8), (b2, x0, ty_laws_Store)] ++ (L_45 ++ (L_43 ++ (L_31 ++ (L_18 ++ (L_22 ++ (L_20 ++ (L_3 ++ ([]))))))))) := h
        have h := h.dr2
        have h := h.dr2
        have h : At w _ ([(b17, r101.2.1, ty_impl_Key), (b_14, x_15, ty_impl_Key), (b9, r34, ty_impl_Store), (b_5, x_6, ty_impl_Key), (b3, x1, ty_arr32_uint8), (b2, x0, ty_laws_Store)] ++ (L_45 ++ (L_18 ++ (L_22 ++ (L_20 ++ (L_3 ++ ([]))))))) := h
        exact ⟨(r101.1, ⟨b17, 0, none⟩, r101.2.2), rfl, L_45, b17, r101.2.1, hO_46, rfl, hc_47, hc_48, h⟩
      refine r_new h fun b17 _ h => ?_
      have h : At w _ ([(b17, Array.replicate 32 (.int .u8 0), ty_impl_Key), (b_14, x_15, ty_impl_Key), (b9, r34, ty_impl_Store), (b_5, x_6, ty_impl_Key), (b3, x1, ty_arr32_uint8), (b2, x0, ty_laws_Store)] ++ (L_18 ++ (L_22 ++ (L_20 ++ (L_3 ++ ([])))))) := h
      refine r_chk2 ?_ ?_ ?_
      · exact ldOk_blk h 4 rfl (a1.sz)
      · exact ldOk_blk h 5 rfl (a0.sz)
      refine r_call h (c_toStoreV (a0.rd.at h) (by omega)) fun r98 _ _ _ ⟨L_49, hL, hO_50⟩ => ?_
      have h := (h.join hL).rot
      have h : At w _ ([(b17, Array.replicate 32 (.int .u8 0), ty_impl_Key), (b_14, x_15, ty_impl_Key), (b9, r34, ty_impl_Store), (b_5, x_6, ty_impl_Key), (b3, x1, ty_arr32_uint8), (b2, x0, ty_laws_Store)] ++ (L_49 ++ (L_18 ++ (L_22 ++ (L_20 ++ (L_3 ++ ([]))))))) := h
      refine r_chk1 ?_ ?_
      · exact ldOk_blk h 4 rfl (a1.sz)
      refine r_call h (c_toKeyV (a1.at h)) fun r100 _ _ _ ⟨L_51, hL, hO_52⟩ => ?_
      have h := (h.join hL).rot
      have h : At w _ ([(b17, Array.replicate 32 (.int .u8 0), ty_impl_Key), (b_14, x_15, ty_impl_Key), (b9, r34, ty_impl_Store), (b_5, x_6, ty_impl_Key), (b3, x1, ty_arr32_uint8), (b2, x0, ty_laws_Store)] ++ (L_51 ++ (L_49 ++ (L_18 ++ (L_22 ++ (L_20 ++ (L_3 ++ ([])))))))) := h
      refine r_call h (c_impl_LoadMap (hO_50.rd h.pl2) (hO_52.rd h.pl1) (by omega)) fun r101 _ h2 _ ⟨L_53, hL, hO_54, hc_55, hc_56⟩ => ?_
      have h := (h.join hL).rot
      have hc_55 : RdKey w r101.2.1 (loadMAns d0 d1).2.1 := hc_55
      have h : At w _ ([(b17, Array.replicate 32 (.int .u8 0), ty_impl_Key), (b_14, x_15, ty_impl_Key), (b9, r34, ty_impl_Store), (b_5, x_6, ty_impl_Key), (b3, x1, ty_arr32_uint8), (b2, x0, ty_laws_Store)] ++ (L_53 ++ (L_51 ++ (L_49 ++ (L_18 ++ (L_22 ++ (L_20 ++ (L_3 ++ ([]))))))))) := h
      refine r_stA h 0 rfl rfl (hc_55.sz) (rfl) (hc_55.one) fun _ h => ?_
      have h : At w _ ([(b17, r101.2.1, ty_impl_Key), (b_14, x_15, ty_impl_Key), (b9, r34, ty_impl_Store), (b_5, x_6, ty_impl_Key), (b3, x1, ty_arr32_uint8), (b2, x0, ty_laws_Store)] ++ (L_53 ++ (L_51 ++ (L_49 ++ (L_18 ++ (L_22 ++ (L_20 ++ (L_3 ++ ([]))))))))) := h
      have h := h.dr2
      have h := h.dr2
      have h : At w _ ([(b17, r101.2.1, ty_impl_Key), (b_14, x_15, ty_impl_Key), (b9, r34, ty_impl_Store), (b_5, x_6, ty_impl_Key), (b3, x1, ty_arr32_uint8), (b2, x0, ty_laws_Store)] ++ (L_53 ++ (L_18 ++ (L_22 ++ (L_20 ++ (L_3 ++ ([]))))))) := h
      exact ⟨(r101.1, ⟨b17, 0, none⟩, r101.2.2), rfl, L_53, b17, r101.2.1, hO_54, rfl, hc_55, hc_56, h⟩
    refine r_draw h fun _ h => ?_
    refine r_ldA h 0 rfl rfl (hO_10.sz) ?_
    refine r_ldA h 2 rfl rfl (a1.sz) ?_
    refine ⟨?_, ?_⟩
    ·
      skip
      refine r_call h (c_toKeyV (a1.at h)) fun r38 _ _ _ ⟨L_57, hL, hO_58⟩ => ?_
      have h := (h.join hL).rot
      have h : At w _ ([(b9, r34, ty_impl_Store), (b_5, x_6, ty_impl_Key), (b3, x1, ty_arr32_uint8), (b2, x0, ty_laws_Store)] ++ (L_57 ++ (L_9 ++ (L_3 ++ ([]))))) := h
      refine r_chk1 ?_ ?_
      · exact ldOk_blk h 0 rfl (hO_10.sz)
      refine ⟨?_, ?_⟩
      ·
        skip
        refine r_call h (c_impl_LoadMap (hO_10.rd h.pl2) (hO_58.rd h.pl1) (by omega)) fun r39 _ h2 _ ⟨L_59, hL, hO_60, hc_61, hc_62⟩ => ?_
        have h := (h.join hL).rot
        have hc_61 : RdKey w r39.2.1 (loadMAns d0 d1).2.1 := hc_61
        have h : At w _ ([(b9, r34, ty_impl_Store), (b_5, x_6, ty_impl_Key), (b3, x1, ty_arr32_uint8), (b2, x0, ty_laws_Store)] ++ (L_59 ++ (L_57 ++ (L_9 ++ (L_3 ++ ([])))))) := h
        refine r_new h fun b11 _ h => ?_
        have h : At w _ ([(b11, Array.replicate 32 (.int .u8 0), ty_impl_Key), (b9, r34, ty_impl_Store), (b_5, x_6, ty_impl_Key), (b3, x1, ty_arr32_uint8), (b2, x0, ty_laws_Store)] ++ (L_59 ++ (L_57 ++ (L_9 ++ (L_3 ++ ([])))))) := h
        refine r_stA h 0 rfl rfl (hc_61.sz) (rfl) (hc_61.one) fun _ h => ?_
        have h : At w _ ([(b11, r39.2.1, ty_impl_Key), (b9, r34, ty_impl_Store), (b_5, x_6, ty_impl_Key), (b3, x1, ty_arr32_uint8), (b2, x0, ty_laws_Store)] ++ (L_59 ++ (L_57 ++ (L_9 ++ (L_3 ++ ([])))))) := h
        have h := h.dr2
        have h : At w _ ([(b11, r39.2.1, ty_impl_Key), (b9, r34, ty_impl_Store), (b_5, x_6, ty_impl_Key), (b3, x1, ty_arr32_uint8), (b2, x0, ty_laws_Store)] ++ (L_59 ++ (L_9 ++ (L_3 ++ ([]))))) := h
        exact ⟨(r39.1, ⟨b11, 0, none⟩, r39.2.2), rfl, L_59, b11, r39.2.1, hO_60, rfl, hc_61, hc_62, h⟩
      refine r_new h fun b11 _ h => ?_
      have h : At w _ ([(b11, Array.replicate 32 (.int .u8 0), ty_impl_Key), (b9, r34, ty_impl_Store), (b_5, x_6, ty_impl_Key), (b3, x1, ty_arr32_uint8), (b2, x0, ty_laws_Store)] ++ (L_57 ++ (L_9 ++ (L_3 ++ ([]))))) := h
      refine r_chk1 ?_ ?_
      · exact ldOk_blk h 1 rfl (hO_10.sz)
      refine r_call h (c_impl_LoadMap (hO_10.rd h.pl2) (hO_58.rd h.pl1) (by omega)) fun r39 _ h2 _ ⟨L_63, hL, hO_64, hc_65, hc_66⟩ => ?_
      have h := (h.join hL).rot
      have hc_65 : RdKey w r39.2.1 (loadMAns d0 d1).2.1 := hc_65
      have h : At w _ ([(b11, Array.replicate 32 (.int .u8 0), ty_impl_Key), (b9, r34, ty_impl_Store), (b_5, x_6, ty_impl_Key), (b3, x1, ty_arr32_uint8), (b2, x0, ty_laws_Store)] ++ (L_63 ++ (L_57 ++ (L_9 ++ (L_3 ++ ([])))))) := h
      refine r_stA h 0 rfl rfl (hc_65.sz) (rfl) (hc_65.one) fun _ h => ?_
      have h : At w _ ([(b11, r39.2.1, ty_impl_Key), (b9, r34, ty_impl_Store), (b_5, x_6, ty_impl_Key), (b3, x1, ty_arr32_uint8), (b2, x0, ty_laws_Store)] ++ (L_63 ++ (L_57 ++ (L_9 ++ (L_3 ++ ([])))))) := h
      have h := h.dr2
      have h : At w _ ([(b11, r39.2.1, ty_impl_Key), (b9, r34, ty_impl_Store), (b_5, x_6, ty_impl_Key), (b3, x1, ty_arr32_uint8), (b2, x0, ty_laws_Store)] ++ (L_63 ++ (L_9 ++ (L_3 ++ ([]))))) := h
      exact ⟨(r39.1, ⟨b11, 0, none⟩, r39.2.2), rfl, L_63, b11, r39.2.1, hO_64, rfl, hc_65, hc_66, h⟩
    refine r_new h fun b11 _ h => ?_
    have h : At w _ ([(b11, Array.replicate 32 (.int .u8 0), ty_impl_Key), (b9, r34, ty_impl_Store), (b_5, x_6, ty_impl_Key), (b3, x1, ty_arr32_uint8), (b2, x0, ty_laws_Store)] ++ (L_9 ++ (L_3 ++ ([])))) := h
    refine r_chk2 ?_ ?_ ?_
    · exact ldOk_blk h 3 rfl (a1.sz)
    · exact ldOk_blk h 1 rfl (hO_10.sz)
    refine r_call h (c_toKeyV (a1.at h)) fun r38 _ _ _ ⟨L_67, hL, hO_68⟩ => ?_
    have h := (h.join hL).rot
    have h : At w _ ([(b11, Array.replicate 32 (.int .u8 0), ty_impl_Key), (b9, r34, ty_impl_Store), (b_5, x_6, ty_impl_Key), (b3, x1, ty_arr32_uint8), (b2, x0, ty_laws_Store)] ++ (L_67 ++ (L_9 ++ (L_3 ++ ([]))))) := h
    refine r_chk1 ?_ ?_
    · exact ldOk_blk h 1 rfl (hO_10.sz)
    refine r_call h (c_impl_LoadMap (hO_10.rd h.pl2) (hO_68.rd h.pl1) (by omega)) fun r39 _ h2 _ ⟨L_69, hL, hO_70, hc_71, hc_72⟩ => ?_
    have h := (h.join hL).rot
    have hc_71 : RdKey w r39.2.1 (loadMAns d0 d1).2.1 := hc_71
    have h : At w _ ([(b11, Array.replicate 32 (.int .u8 0), ty_impl_Key), (b9, r34, ty_impl_Store), (b_5, x_6, ty_impl_Key), (b3, x1, ty_arr32_uint8), (b2, x0, ty_laws_Store)] ++ (L_69 ++ (L_67 ++ (L_9 ++ (L_3 ++ ([])))))) := h
    refine r_stA h 0 rfl rfl (hc_71.sz) (rfl) (hc_71.one) fun _ h => ?_
    have h : At w _ ([(b11, r39.2.1, ty_impl_Key), (b9, r34, ty_impl_Store), (b_5, x_6, ty_impl_Key), (b3, x1, ty_arr32_uint8), (b2, x0, ty_laws_Store)] ++ (L_69 ++ (L_67 ++ (L_9 ++ (L_3 ++ ([])))))) := h
    have h := h.dr2
    have h : At w _ ([(b11, r39.2.1, ty_impl_Key), (b9, r34, ty_impl_Store), (b_5, x_6, ty_impl_Key), (b3, x1, ty_arr32_uint8), (b2, x0, ty_laws_Store)] ++ (L_69 ++ (L_9 ++ (L_3 ++ ([]))))) := h
    exact ⟨(r39.1, ⟨b11, 0, none⟩, r39.2.2), rfl, L_69, b11, r39.2.1, hO_70, rfl, hc_71, hc_72, h⟩
  refine r_draw h fun _ h => ?_
  refine r_ldA h 1 rfl rfl (a0.sz) ?_
  refine r_ldA h 0 rfl rfl (a1.sz) ?_
  refine ⟨?_, ?_⟩
  ·
    skip
    refine r_call h (c_toStoreV (a0.rd.at h) (by omega)) fun r26 _ _ _ ⟨L_73, hL, hO_74⟩ => ?_
    have h := (h.join hL).rot
    have h : At w _ ([(b3, x1, ty_arr32_uint8), (b2, x0, ty_laws_Store)] ++ (L_73 ++ ([]))) := h
    refine r_chk1 ?_ ?_
    · exact ldOk_blk h 0 rfl (a1.sz)
    refine ⟨?_, ?_⟩
    ·
      skip
      refine r_call h (c_toKeyV (a1.at h)) fun r28 _ _ _ ⟨L_75, hL, hO_76⟩ => ?_
      have h := (h.join hL).rot
      have h : At w _ ([(b3, x1, ty_arr32_uint8), (b2, x0, ty_laws_Store)] ++ (L_75 ++ (L_73 ++ ([])))) := h
      refine ⟨?_, ?_⟩
      ·
        skip
        refine r_call h (c_spec_LoadMap (hO_74.rd h.pl2) (hO_76.rd h.pl1) (by omega)) fun r29 _ h2 _ ⟨L_77, hL, hO_78, hc_79, hc_80⟩ => ?_
        have h := (h.join hL).rot
        have hc_79 : RdKey w r29.2.1 (loadMAns d0 d1).2.1 := hc_79
        have h : At w _ ([(b3, x1, ty_arr32_uint8), (b2, x0, ty_laws_Store)] ++ (L_77 ++ (L_75 ++ (L_73 ++ ([]))))) := h
        refine r_new h fun b7 _ h => ?_
        have h : At w _ ([(b7, Array.replicate 32 (.int .u8 0), ty_impl_Key), (b3, x1, ty_arr32_uint8), (b2, x0, ty_laws_Store)] ++ (L_77 ++ (L_75 ++ (L_73 ++ ([]))))) := h
        refine r_stA h 0 rfl rfl (hc_79.sz) (rfl) (hc_79.one) fun _ h => ?_
        have h : At w _ ([(b7, r29.2.1, ty_impl_Key), (b3, x1, ty_arr32_uint8), (b2, x0, ty_laws_Store)] ++ (L_77 ++ (L_75 ++ (L_73 ++ ([]))))) := h
        have h := h.dr2
        have h := h.dr2
        have h : At w _ ([(b7, r29.2.1, ty_impl_Key), (b3, x1, ty_arr32_uint8), (b2, x0, ty_laws_Store)] ++ (L_77 ++ ([]))) := h
        exact ⟨(r29.1, ⟨b7, 0, none⟩, r29.2.2), rfl, L_77, b7, r29.2.1, hO_78, rfl, hc_79, hc_80, h⟩
      refine r_new h fun b7 _ h => ?_
      have h : At w _ ([(b7, Array.replicate 32 (.int .u8 0), ty_impl_Key), (b3, x1, ty_arr32_uint8), (b2, x0, ty_laws_Store)] ++ (L_75 ++ (L_73 ++ ([])))) := h
      refine r_call h (c_spec_LoadMap (hO_74.rd h.pl2) (hO_76.rd h.pl1) (by omega)) fun r29 _ h2 _ ⟨L_81, hL, hO_82, hc_83, hc_84⟩ => ?_
      have h := (h.join hL).rot
      have hc_83 : RdKey w r29.2.1 (loadMAns d0 d1).2.1 := hc_83
      have h : At w _ ([(b7, Array.replicate 32 (.int .u8 0), ty_impl_Key), (b3, x1, ty_arr32_uint8), (b2, x0, ty_laws_Store)] ++ (L_81 ++ (L_75 ++ (L_73 ++ ([]))))) := h
      refine r_stA h 0 rfl rfl (hc_83.sz) (rfl) (hc_83.one) fun _ h => ?_
      have h : At w _ ([(b7, r29.2.1, ty_impl_Key), (b3, x1, ty_arr32_uint8), (b2, x0, ty_laws_Store)] ++ (L_81 ++ (L_75 ++ (L_73 ++ ([]))))) := h
      have h := h.dr2
      have h := h.dr2
      have h : At w _ ([(b7, r29.2.1, ty_impl_Key), (b3, x1, ty_arr32_uint8), (b2, x0, ty_laws_Store)] ++ (L_81 ++ ([]))) := h
      exact ⟨(r29.1, ⟨b7, 0, none⟩, r29.2.2), rfl, L_81, b7, r29.2.1, hO_82, rfl, hc_83, hc_84, h⟩
    refine r_new h fun b7 _ h => ?_
    have h : At w _ ([(b7, Array.replicate 32 (.int .u8 0), ty_impl_Key), (b3, x1, ty_arr32_uint8), (b2, x0, ty_laws_Store)] ++ (L_73 ++ ([]))) := h
    refine r_chk1 ?_ ?_
    · exact ldOk_blk h 1 rfl (a1.sz)
    refine r_call h (c_toKeyV (a1.at h)) fun r28 _ _ _ ⟨L_85, hL, hO_86⟩ => ?_
    have h := (h.join hL).rot
    have h : At w _ ([(b7, Array.replicate 32 (.int .u8 0), ty_impl_Key), (b3, x1, ty_arr32_uint8), (b2, x0, ty_laws_Store)] ++ (L_85 ++ (L_73 ++ ([])))) := h
    refine r_call h (c_spec_LoadMap (hO_74.rd h.pl2) (hO_86.rd h.pl1) (by omega)) fun r29 _ h2 _ ⟨L_87, hL, hO_88, hc_89, hc_90⟩ => ?_
    have h := (h.join hL).rot
    have hc_89 : RdKey w r29.2.1 (loadMAns d0 d1).2.1 := hc_89
    have h : At w _ ([(b7, Array.replicate 32 (.int .u8 0), ty_impl_Key), (b3, x1, ty_arr32_uint8), (b2, x0, ty_laws_Store)] ++ (L_87 ++ (L_85 ++ (L_73 ++ ([]))))) := h
    refine r_stA h 0 rfl rfl (hc_89.sz) (rfl) (hc_89.one) fun _ h => ?_
    have h : At w _ ([(b7, r29.2.1, ty_impl_Key), (b3, x1, ty_arr32_uint8), (b2, x0, ty_laws_Store)] ++ (L_87 ++ (L_85 ++ (L_73 ++ ([]))))) := h
    have h := h.dr2
    have h := h.dr2
    have h : At w _ ([(b7, r29.2.1, ty_impl_Key), (b3, x1, ty_arr32_uint8), (b2, x0, ty_laws_Store)] ++ (L_87 ++ ([]))) := h
    exact ⟨(r29.1, ⟨b7, 0, none⟩, r29.2.2), rfl, L_87, b7, r29.2.1, hO_88, rfl, hc_89, hc_90, h⟩
  refine r_new h fun b7 _ h => ?_
  have h : At w _ ([(b7, Array.replicate 32 (.int .u8 0), ty_impl_Key), (b3, x1, ty_arr32_uint8), (b2, x0, ty_laws_Store)] ++ ([])) := h
  refine r_chk2 ?_ ?_ ?_
  · exact ldOk_blk h 1 rfl (a1.sz)
  · exact ldOk_blk h 2 rfl (a0.sz)
  refine r_call h (c_toStoreV (a0.rd.at h) (by omega)) fun r26 _ _ _ ⟨L_91, hL, hO_92⟩ => ?_
  have h := (h.join hL).rot
  have h : At w _ ([(b7, Array.replicate 32 (.int .u8 0), ty_impl_Key), (b3, x1, ty_arr32_uint8), (b2, x0, ty_laws_Store)] ++ (L_91 ++ ([]))) := h
  refine r_chk1 ?_ ?_
  · exact ldOk_blk h 1 rfl (a1.sz)
  refine r_call h (c_toKeyV (a1.at h)) fun r28 _ _ _ ⟨L_93, hL, hO_94⟩ => ?_
  have h := (h.join hL).rot
  have h : At w _ ([(b7, Array.replicate 32 (.int .u8 0), ty_impl_Key), (b3, x1, ty_arr32_uint8), (b2, x0, ty_laws_Store)] ++ (L_93 ++ (L_91 ++ ([])))) := h
  refine r_call h (c_spec_LoadMap (hO_92.rd h.pl2) (hO_94.rd h.pl1) (by omega)) fun r29 _ h2 _ ⟨L_95, hL, hO_96, hc_97, hc_98⟩ => ?_
  have h := (h.join hL).rot
  have hc_97 : RdKey w r29.2.1 (loadMAns d0 d1).2.1 := hc_97
  have h : At w _ ([(b7, Array.replicate 32 (.int .u8 0), ty_impl_Key), (b3, x1, ty_arr32_uint8), (b2, x0, ty_laws_Store)] ++ (L_95 ++ (L_93 ++ (L_91 ++ ([]))))) := h
  refine r_stA h 0 rfl rfl (hc_97.sz) (rfl) (hc_97.one) fun _ h => ?_
  have h : At w _ ([(b7, r29.2.1, ty_impl_Key), (b3, x1, ty_arr32_uint8), (b2, x0, ty_laws_Store)] ++ (L_95 ++ (L_93 ++ (L_91 ++ ([]))))) := h
  have h := h.dr2
  have h := h.dr2
  have h : At w _ ([(b7, r29.2.1, ty_impl_Key), (b3, x1, ty_arr32_uint8), (b2, x0, ty_laws_Store)] ++ (L_95 ++ ([]))) := h
  exact ⟨(r29.1, ⟨b7, 0, none⟩, r29.2.2), rfl, L_95, b7, r29.2.1, hO_96, rfl, hc_97, hc_98, h⟩)

set_option maxRecDepth 100000 in
theorem lifted_FnExactLoadMap (os : Os) (started : os.Started) (H : Type) (enc : TypeId × Value → H) :
    ReturnsInHanded {} Tryz.checked os 8 .any (Rows.fnExactLoadMapSpec.pre6 enc Tryz.prog Tryz.f8 Rows.fnExactLoadMapRow.domain false) (Rows.fnExactLoadMapSpec.post enc Tryz.prog Tryz.f8 false true false false) := by
  refine law_lifted (C := Tryz.checked) (tb := ty_bool) (by kernel_rfl) started (by kernel_rfl) Tryz.func8 (by kernel_rfl) (by kernel_rfl) (by kernel_rfl) (by kernel_rfl) rfl
    (fun ds hd => by
      rw [Tryz.params8] at hd
      match ds, hd with
      | [_, _], _ => exact ⟨rfl, rfl, rfl⟩)
    (ChangeSpec.witness6 (enc := enc) (C := Tryz.checked) false ⟨#[], #[.agg #[.slice none 0 0], .agg (Array.replicate 32 (.int .u8 0))], []⟩ 8 (by kernel_rfl) (by kernel_rfl) (by kernel_rfl) (by kernel_rfl)) ?_
  intro W base args ds p hval0 hA0
  have hval : ∀ (j : Nat) t v, Tryz.f8.params[j]? = some t → args[j]? = some v → Value.okWide Tryz.prog W .any base t v := hval0
  have hA : DataW.TrodAll enc Tryz.prog W 0 (fun _ => true) true Tryz.f8.params.toList args.toList ds p := hA0
  rw [Tryz.params8] at hA hval
  obtain ⟨v0, vs0, d0, ds0, p0, q0, hargs, rfl, rfl, h0, r0⟩ := ChangeShapes.trodAll_cons hA
  obtain ⟨v1, vs1, d1, ds1, p1, q1, rfl, rfl, rfl, h1, r1⟩ := ChangeShapes.trodAll_cons r0
  obtain ⟨rfl, rfl, rfl⟩ := ChangeShapes.trodAll_nil r1
  obtain rfl : args = #[v0, v1] := by cases args; simp_all
  obtain ⟨x0, D0, rfl, a0⟩ := open_Store (hval 0 _ _ rfl rfl) h0
  obtain ⟨x1, D1, rfl, a1⟩ := open_Key (hval 1 _ _ rfl rfl) h1
  exact c_law_FnExactLoadMap a0 a1

theorem over_FnExactLoadMap : Rows.fnExactLoadMapRow.holds Tryz.pinned (OpenSpec.ofChange Rows.fnExactLoadMapSpec) :=
  OpenClaim.holds_of_wide 8 Tryz.f8 rfl rfl rfl rfl rfl rfl rfl ⟨rfl, rfl, rfl, rfl, rfl⟩ rfl rfl rfl rfl rfl (by kernel_rfl) Tryz.func8 (by kernel_rfl)
    (of_decide_eq_true (by kernel_rfl)) (by unfold Func.isWrapper; first | (rw [if_pos (by decide +kernel)]; kernel_rfl) | (rw [if_neg (by decide +kernel)]; exact ⟨rfl, rfl⟩))
    (fun os started H enc _ => lifted_FnExactLoadMap os started H enc)

/-- The given statement. -/
theorem fnExactLoadMap_holds : Rows.FnExactLoadMapSaid := over_FnExactLoadMap
#print axioms fnExactLoadMap_holds
end Go.Proofs.YtffedfdhhglmkaaGreat
