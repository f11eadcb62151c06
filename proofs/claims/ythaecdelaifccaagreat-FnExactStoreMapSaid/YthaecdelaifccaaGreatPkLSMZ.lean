/- For every input the law FnExactStoreMap returns true, and its arguments read behind the call as before it. Printed by lawgen.py. -/
import Derived.Test.YthaecdelaifccaaGreatRows
import Derived.Test.YthaecdelaifccaaGreatPkLSM34
import Derived.Test.YthaecdelaifccaaGreatPkLSM22
namespace Go.Proofs.YthaecdelaifccaaGreat
open Go.Sx Go.RowKit

theorem c_law_FnExactStoreMap {w : World} {x0 : Array Value} {d0 : List PB} (a0 : RawStore w x0 d0) {x1 : Sl} {d1 : List PE} (a1 : RawEntryS w x1 d1) : Ret Tryz.prog n_laws_FnExactStoreMap [.agg x0, .slice x1.a x1.n x1.c] w [.bool] (fun r _ => r = true) := laws_FnExactStoreMap_calls _ _ (by
  unfold laws_FnExactStoreMap
  have h := At.refl w
  have hsz0 := stMapAns_size d0 d1
  have hsz1 := msizeE_le d1
  refine r_new h fun b2 _ h => ?_
  have h : At w _ ([(b2, x0, ty_laws_Store)] ++ ([])) := h
  refine r_ldA h 0 rfl rfl (a0.sz) ?_
  refine r_call h (c_szStoreV a0 h.below (1048576) (by omega)) fun r22 _ h _ hr => ?_
  subst hr
  by_cases hz_1 : (sizeBs d0 : Int) ≤ 1048576
  rotate_left
  · rw [if_neg hz_1]
    exact r_true rfl (r_ret h.nil true rfl rfl)
  rw [if_pos hz_1]
  refine r_if (1048576 - (sizeBs d0 : Int) < 0) rfl (fun hh => by omega) (fun _ => ?_)
  refine r_call h (c_szEntrySV a1 h.below (1048576 - (sizeBs d0 : Int)) (by omega)) fun r27 _ h _ hr => ?_
  subst hr
  by_cases hz_2 : (sizeEntryS d1 : Int) ≤ 1048576 - (sizeBs d0 : Int)
  rotate_left
  · rw [if_neg hz_2]
    exact r_true rfl (r_ret h.nil true rfl rfl)
  rw [if_pos hz_2]
  refine r_if (1048576 - (sizeBs d0 : Int) - (sizeEntryS d1 : Int) < 0) rfl (fun hh => by omega) (fun _ => ?_)
  refine r_ldA h 0 rfl rfl (a0.sz) ?_
  refine r_call h (c_toStoreV (a0.rd.at h) (by omega)) fun r32 _ _ _ ⟨L_3, hL, hO_4⟩ => ?_
  have h := (h.join hL).rot
  have h : At w _ ([(b2, x0, ty_laws_Store)] ++ (L_3 ++ ([]))) := h
  refine r_call h (c_toEntrySV (a1.rd.at h) (by omega)) fun r34 _ _ _ ⟨L_5, hL, hO_6⟩ => ?_
  have h := (h.join hL).rot
  have h : At w _ ([(b2, x0, ty_laws_Store)] ++ (L_5 ++ (L_3 ++ ([])))) := h
  refine r_call h (c_spec_StoreMap (hO_4.rd h.pl2) (hO_6.rd h.pl1) (by omega) (by omega)) fun r35 _ h2 _ ⟨L_7, hL, hO_8, hc_9, hc_10⟩ => ?_
  have h := (h.join hL).rot
  have hc_9 : RdKey w r35.2.1 (stMapAns d0 d1).2.1 := hc_9
  have h : At w _ ([(b2, x0, ty_laws_Store)] ++ (L_7 ++ (L_5 ++ (L_3 ++ ([]))))) := h
  refine r_new h fun b6 _ h => ?_
  have h : At w _ ([(b6, #[(.slice none 0 0)], ty_impl_Store), (b2, x0, ty_laws_Store)] ++ (L_7 ++ (L_5 ++ (L_3 ++ ([]))))) := h
  refine r_new h fun b7 _ h => ?_
  have h : At w _ ([(b7, Array.replicate 32 (.int .u8 0), ty_impl_Key), (b6, #[(.slice none 0 0)], ty_impl_Store), (b2, x0, ty_laws_Store)] ++ (L_7 ++ (L_5 ++ (L_3 ++ ([]))))) := h
  refine r_stA h 1 rfl rfl (hO_8.sz) (rfl) (hO_8.one) fun _ h => ?_
  have h : At w _ ([(b7, Array.replicate 32 (.int .u8 0), ty_impl_Key), (b6, r35.1, ty_impl_Store), (b2, x0, ty_laws_Store)] ++ (L_7 ++ (L_5 ++ (L_3 ++ ([]))))) := h
  refine r_stA h 0 rfl rfl (hc_9.sz) (rfl) (hc_9.one) fun _ h => ?_
  have h : At w _ ([(b7, r35.2.1, ty_impl_Key), (b6, r35.1, ty_impl_Store), (b2, x0, ty_laws_Store)] ++ (L_7 ++ (L_5 ++ (L_3 ++ ([]))))) := h
  refine r_ldA h 2 rfl rfl (a0.sz) ?_
  refine r_call h (c_toStoreV (a0.rd.at h) (by omega)) fun r40 _ _ _ ⟨L_11, hL, hO_12⟩ => ?_
  have h := (h.join hL).rot
  have h : At w _ ([(b7, r35.2.1, ty_impl_Key), (b6, r35.1, ty_impl_Store), (b2, x0, ty_laws_Store)] ++ (L_11 ++ (L_7 ++ (L_5 ++ (L_3 ++ ([])))))) := h
  refine r_new h fun b9 _ h => ?_
  have h : At w _ ([(b9, #[(.slice none 0 0)], ty_impl_Store), (b7, r35.2.1, ty_impl_Key), (b6, r35.1, ty_impl_Store), (b2, x0, ty_laws_Store)] ++ (L_11 ++ (L_7 ++ (L_5 ++ (L_3 ++ ([])))))) := h
  refine r_stA h 0 rfl rfl (hO_12.sz) (rfl) (hO_12.one) fun _ h => ?_
  have h : At w _ ([(b9, r40, ty_impl_Store), (b7, r35.2.1, ty_impl_Key), (b6, r35.1, ty_impl_Store), (b2, x0, ty_laws_Store)] ++ (L_11 ++ (L_7 ++ (L_5 ++ (L_3 ++ ([])))))) := h
  refine r_call h (c_toEntrySV (a1.rd.at h) (by omega)) fun r42 _ _ _ ⟨L_13, hL, hO_14⟩ => ?_
  have h := (h.join hL).rot
  have h : At w _ ([(b9, r40, ty_impl_Store), (b7, r35.2.1, ty_impl_Key), (b6, r35.1, ty_impl_Store), (b2, x0, ty_laws_Store)] ++ (L_13 ++ (L_11 ++ (L_7 ++ (L_5 ++ (L_3 ++ ([]))))))) := h
  refine r_ldA h 0 rfl rfl (hO_12.sz) ?_
  refine r_call h (c_impl_StoreMap (hO_12.rd h.pl2) (hO_14.rd h.pl1) (by omega) (by omega)) fun r46 _ h2 _ ⟨L_15, hL, hO_16, hc_17, hc_18⟩ => ?_
  have h := (h.join hL).rot
  have hc_17 : RdKey w r46.2.1 (stMapAns d0 d1).2.1 := hc_17
  have h : At w _ ([(b9, r40, ty_impl_Store), (b7, r35.2.1, ty_impl_Key), (b6, r35.1, ty_impl_Store), (b2, x0, ty_laws_Store)] ++ (L_15 ++ (L_13 ++ (L_11 ++ (L_7 ++ (L_5 ++ (L_3 ++ ([])))))))) := h
  refine r_new h fun b11 _ h => ?_
  have h : At w _ ([(b11, #[(.slice none 0 0)], ty_impl_Store), (b9, r40, ty_impl_Store), (b7, r35.2.1, ty_impl_Key), (b6, r35.1, ty_impl_Store), (b2, x0, ty_laws_Store)] ++ (L_15 ++ (L_13 ++ (L_11 ++ (L_7 ++ (L_5 ++ (L_3 ++ ([])))))))) := h
  refine r_new h fun b12 _ h => ?_
  have h : At w _ ([(b12, Array.replicate 32 (.int .u8 0), ty_impl_Key), (b11, #[(.slice none 0 0)], ty_impl_Store), (b9, r40, ty_impl_Store), (b7, r35.2.1, ty_impl_Key), (b6, r35.1, ty_impl_Store), (b2, x0, ty_laws_Store)] ++ (L_15 ++ (L_13 ++ (L_11 ++ (L_7 ++ (L_5 ++ (L_3 ++ ([])))))))) := h
  refine r_stA h 1 rfl rfl (hO_16.sz) (rfl) (hO_16.one) fun _ h => ?_
  have h : At w _ ([(b12, Array.replicate 32 (.int .u8 0), ty_impl_Key), (b11, r46.1, ty_impl_Store), (b9, r40, ty_impl_Store), (b7, r35.2.1, ty_impl_Key), (b6, r35.1, ty_impl_Store), (b2, x0, ty_laws_Store)] ++ (L_15 ++ (L_13 ++ (L_11 ++ (L_7 ++ (L_5 ++ (L_3 ++ ([])))))))) := h
  refine r_stA h 0 rfl rfl (hc_17.sz) (rfl) (hc_17.one) fun _ h => ?_
  have h : At w _ ([(b12, r46.2.1, ty_impl_Key), (b11, r46.1, ty_impl_Store), (b9, r40, ty_impl_Store), (b7, r35.2.1, ty_impl_Key), (b6, r35.1, ty_impl_Store), (b2, x0, ty_laws_Store)] ++ (L_15 ++ (L_13 ++ (L_11 ++ (L_7 ++ (L_5 ++ (L_3 ++ ([])))))))) := h
  refine r_joinI ?_
  refine r_ldA h 1 rfl rfl (hO_16.sz) ?_
  refine r_ldA h 4 rfl rfl (hO_8.sz) ?_
  refine r_call h (c_eqStoreV (hO_16.rd h.pl1) (hO_8.rd h.pl4) (by omega)) fun r52 _ h _ hr => ?_
  subst hr
  refine r_false rfl ?_
  refine r_ldA h 0 rfl rfl (hc_17.sz) ?_
  refine r_ldA h 3 rfl rfl (hc_9.sz) ?_
  refine r_call h (c_eqKeyV (hc_17.at h) (hc_9.at h)) fun r57 _ h _ hr => ?_
  subst hr
  refine r_false rfl ?_
  refine r_ne (fun hh => absurd (hc_18.trans hc_10.symm) hh) fun _ => ?_
  refine ⟨(), rfl, ?_⟩
  refine r_any fun _ => ?_
  try dsimp only
  refine r_joinI ?_
  refine r_draw h fun _ h => ?_
  refine r_ldA h 2 rfl rfl (hO_12.sz) ?_
  refine r_ldA h 5 rfl rfl (a0.sz) ?_
  refine r_call h (c_toStoreV (a0.rd.at h) (by omega)) fun r67 _ _ _ ⟨L_19, hL, hO_20⟩ => ?_
  have h := (h.join hL).rot
  have h : At w _ ([(b12, r46.2.1, ty_impl_Key), (b11, r46.1, ty_impl_Store), (b9, r40, ty_impl_Store), (b7, r35.2.1, ty_impl_Key), (b6, r35.1, ty_impl_Store), (b2, x0, ty_laws_Store)] ++ (L_19 ++ (L_15 ++ (L_13 ++ (L_11 ++ (L_7 ++ (L_5 ++ (L_3 ++ ([]))))))))) := h
  refine r_chk1 ?_ ?_
  · exact ldOk_blk h 2 rfl (hO_12.sz)
  refine r_call h (c_eqStoreV (hO_12.rd h.pl4) (hO_20.rd h.pl1) (by omega)) fun r68 _ h _ hr => ?_
  subst hr
  refine r_false rfl ?_
  refine ⟨(), rfl, ?_⟩
  refine r_any fun _ => ?_
  try dsimp only
  refine r_call h (c_toEntrySV (a1.rd.at h) (by omega)) fun r72 _ _ _ ⟨L_21, hL, hO_22⟩ => ?_
  have h := (h.join hL).rot
  have h : At w _ ([(b12, r46.2.1, ty_impl_Key), (b11, r46.1, ty_impl_Store), (b9, r40, ty_impl_Store), (b7, r35.2.1, ty_impl_Key), (b6, r35.1, ty_impl_Store), (b2, x0, ty_laws_Store)] ++ (L_21 ++ (L_19 ++ (L_15 ++ (L_13 ++ (L_11 ++ (L_7 ++ (L_5 ++ (L_3 ++ ([])))))))))) := h
  refine r_call h (c_eqEntrySV (hO_14.rd h.pl4) (hO_22.rd h.pl1) (by omega)) fun r73 _ h _ hr => ?_
  subst hr
  refine r_false rfl ?_
  refine r_ldA h 2 rfl rfl (hO_12.sz) ?_
  refine r_callR (c_markStoreV h.pl5 hO_12 (1) (by omega) (by omega)) ?_
  rintro _ _ ⟨rfl, L_23, h, hO_24⟩
  refine ⟨_, rfl, ?_⟩
  have h := h.ps5
  have h : At w _ ([(b12, r46.2.1, ty_impl_Key), (b11, r46.1, ty_impl_Store), (b9, r40, ty_impl_Store), (b7, r35.2.1, ty_impl_Key), (b6, r35.1, ty_impl_Store), (b2, x0, ty_laws_Store)] ++ (L_21 ++ (L_19 ++ (L_15 ++ (L_13 ++ (L_23 ++ (L_7 ++ (L_5 ++ (L_3 ++ ([])))))))))) := h
  refine r_callR (c_markEntrySV h.pl4 hO_14 (1 + (sizeBs d0 : Int)) (by omega) (by omega) (by omega)) ?_
  rintro _ _ ⟨rfl, L_25, h, hO_26⟩
  refine ⟨_, rfl, ?_⟩
  have h := h.ps4
  have h : At w _ ([(b12, r46.2.1, ty_impl_Key), (b11, r46.1, ty_impl_Store), (b9, r40, ty_impl_Store), (b7, r35.2.1, ty_impl_Key), (b6, r35.1, ty_impl_Store), (b2, x0, ty_laws_Store)] ++ (L_21 ++ (L_19 ++ (L_15 ++ (L_25 ++ (L_23 ++ (L_7 ++ (L_5 ++ (L_3 ++ ([])))))))))) := h
  refine r_joinI ?_
  refine r_if (1 + (sizeBs d0 : Int) + (msizeEntryS d1 : Int) < 0) rfl (fun hh => by omega) (fun _ => ?_)
  refine r_ldA h 1 rfl rfl (hO_16.sz) ?_
  refine r_ldA h 4 rfl rfl (hO_8.sz) ?_
  refine r_call h (c_eqStoreV (hO_16.rd h.pl3) (hO_8.rd h.pl6) (by omega)) fun r86 _ h _ hr => ?_
  subst hr
  refine r_false rfl ?_
  refine r_ldA h 0 rfl rfl (hc_17.sz) ?_
  refine r_ldA h 3 rfl rfl (hc_9.sz) ?_
  refine r_call h (c_eqKeyV (hc_17.at h) (hc_9.at h)) fun r92 _ h _ hr => ?_
  subst hr
  refine r_false rfl ?_
  refine r_ne (fun hh => absurd (hc_18.trans hc_10.symm) hh) fun _ => ?_
  refine ⟨(), rfl, ?_⟩
  refine r_any fun _ => ?_
  try dsimp only
  refine r_ldA h 1 rfl rfl (hO_16.sz) ?_
  refine r_callR (c_markStoreV h.pl3 hO_16 (1) (by omega) (by omega)) ?_
  rintro _ _ ⟨rfl, L_27, h, hO_28⟩
  refine ⟨_, rfl, ?_⟩
  have h := h.ps3
  have h : At w _ ([(b12, r46.2.1, ty_impl_Key), (b11, r46.1, ty_impl_Store), (b9, r40, ty_impl_Store), (b7, r35.2.1, ty_impl_Key), (b6, r35.1, ty_impl_Store), (b2, x0, ty_laws_Store)] ++ (L_21 ++ (L_19 ++ (L_27 ++ (L_25 ++ (L_23 ++ (L_7 ++ (L_5 ++ (L_3 ++ ([])))))))))) := h
  refine r_ldA h 1 rfl rfl (hO_28.sz) ?_
  refine r_call h (c_heldStoreV (1) (hO_28.rd h.pl3) (by omega) (by omega)) fun r105 _ h _ hr => ?_
  subst hr
  refine r_if (1 + (sizeBs (stMapAns d0 d1).1 : Int) < 0) rfl (fun hh => by omega) (fun _ => ?_)
  refine r_ne (fun hh => absurd rfl hh) fun _ => ?_
  refine r_ldA h 5 rfl rfl (a0.sz) ?_
  refine r_call h (c_toStoreV (a0.rd.at h) (by omega)) fun r113 _ _ _ ⟨L_29, hL, hO_30⟩ => ?_
  have h := (h.join hL).rot
  have h : At w _ ([(b12, r46.2.1, ty_impl_Key), (b11, r46.1, ty_impl_Store), (b9, r40, ty_impl_Store), (b7, r35.2.1, ty_impl_Key), (b6, r35.1, ty_impl_Store), (b2, x0, ty_laws_Store)] ++ (L_29 ++ (L_21 ++ (L_19 ++ (L_27 ++ (L_25 ++ (L_23 ++ (L_7 ++ (L_5 ++ (L_3 ++ ([]))))))))))) := h
  refine r_call h (c_toEntrySV (a1.rd.at h) (by omega)) fun r115 _ _ _ ⟨L_31, hL, hO_32⟩ => ?_
  have h := (h.join hL).rot
  have h : At w _ ([(b12, r46.2.1, ty_impl_Key), (b11, r46.1, ty_impl_Store), (b9, r40, ty_impl_Store), (b7, r35.2.1, ty_impl_Key), (b6, r35.1, ty_impl_Store), (b2, x0, ty_laws_Store)] ++ (L_31 ++ (L_29 ++ (L_21 ++ (L_19 ++ (L_27 ++ (L_25 ++ (L_23 ++ (L_7 ++ (L_5 ++ (L_3 ++ ([])))))))))))) := h
  refine r_call h (c_impl_StoreMap (hO_30.rd h.pl2) (hO_32.rd h.pl1) (by omega) (by omega)) fun r116 _ h2 _ ⟨L_33, hL, hO_34, hc_35, hc_36⟩ => ?_
  have h := (h.join hL).rot
  have hc_35 : RdKey w r116.2.1 (stMapAns d0 d1).2.1 := hc_35
  have h : At w _ ([(b12, r46.2.1, ty_impl_Key), (b11, r46.1, ty_impl_Store), (b9, r40, ty_impl_Store), (b7, r35.2.1, ty_impl_Key), (b6, r35.1, ty_impl_Store), (b2, x0, ty_laws_Store)] ++ (L_33 ++ (L_31 ++ (L_29 ++ (L_21 ++ (L_19 ++ (L_27 ++ (L_25 ++ (L_23 ++ (L_7 ++ (L_5 ++ (L_3 ++ ([]))))))))))))) := h
  refine r_new h fun b17 _ h => ?_
  have h : At w _ ([(b17, #[(.slice none 0 0)], ty_impl_Store), (b12, r46.2.1, ty_impl_Key), (b11, r46.1, ty_impl_Store), (b9, r40, ty_impl_Store), (b7, r35.2.1, ty_impl_Key), (b6, r35.1, ty_impl_Store), (b2, x0, ty_laws_Store)] ++ (L_33 ++ (L_31 ++ (L_29 ++ (L_21 ++ (L_19 ++ (L_27 ++ (L_25 ++ (L_23 ++ (L_7 ++ (L_5 ++ (L_3 ++ ([]))))))))))))) := h
  refine r_new h fun b18 _ h => ?_
  have h : At w _ ([(b18, Array.replicate 32 (.int .u8 0), ty_impl_Key), (b17, #[(.slice none 0 0)], ty_impl_Store), (b12, r46.2.1, ty_impl_Key), (b11, r46.1, ty_impl_Store), (b9, r40, ty_impl_Store), (b7, r35.2.1, ty_impl_Key), (b6, r35.1, ty_impl_Store), (b2, x0, ty_laws_Store)] ++ (L_33 ++ (L_31 ++ (L_29 ++ (L_21 ++ (L_19 ++ (L_27 ++ (L_25 ++ (L_23 ++ (L_7 ++ (L_5 ++ (L_3 ++ ([]))))))))))))) := h
  refine r_stA h 1 rfl rfl (hO_34.sz) (rfl) (hO_34.one) fun _ h => ?_
  have h : At w _ ([(b18, Array.replicate 32 (.int .u8 0), ty_impl_Key), (b17, r116.1, ty_impl_Store), (b12, r46.2.1, ty_impl_Key), (b11, r46.1, ty_impl_Store), (b9, r40, ty_impl_Store), (b7, r35.2.1, ty_impl_Key), (b6, r35.1, ty_impl_Store), (b2, x0, ty_laws_Store)] ++ (L_33 ++ (L_31 ++ (L_29 ++ (L_21 ++ (L_19 ++ (L_27 ++ (L_25 ++ (L_23 ++ (L_7 ++ (L_5 ++ (L_3 ++ ([]))))))))))))) := h
  refine r_stA h 0 rfl rfl (hc_35.sz) (rfl) (hc_35.one) fun _ h => ?_
  have h : At w _ ([(b18, r116.2.1, ty_impl_Key), (b17, r116.1, ty_impl_Store), (b12, r46.2.1, ty_impl_Key), (b11, r46.1, ty_impl_Store), (b9, r40, ty_impl_Store), (b7, r35.2.1, ty_impl_Key), (b6, r35.1, ty_impl_Store), (b2, x0, ty_laws_Store)] ++ (L_33 ++ (L_31 ++ (L_29 ++ (L_21 ++ (L_19 ++ (L_27 ++ (L_25 ++ (L_23 ++ (L_7 ++ (L_5 ++ (L_3 ++ ([]))))))))))))) := h
  refine r_joinI ?_
  refine r_ldA h 1 rfl rfl (hO_34.sz) ?_
  refine r_ldA h 6 rfl rfl (hO_8.sz) ?_
  refine r_call h (c_eqStoreV (hO_34.rd h.pl1) (hO_8.rd h.pl9) (by omega)) fun r122 _ h _ hr => ?_
  subst hr
  refine r_false rfl ?_
  refine r_ldA h 0 rfl rfl (hc_35.sz) ?_
  refine r_ldA h 5 rfl rfl (hc_9.sz) ?_
  refine r_call h (c_eqKeyV (hc_35.at h) (hc_9.at h)) fun r127 _ h _ hr => ?_
  subst hr
  refine r_false rfl ?_
  refine r_ne (fun hh => absurd (hc_36.trans hc_10.symm) hh) fun _ => ?_
  refine ⟨(), rfl, ?_⟩
  refine r_any fun _ => ?_
  try dsimp only
  refine r_ldA h 3 rfl rfl (hO_28.sz) ?_
  refine r_call h (c_heldStoreV (1) (hO_28.rd h.pl6) (by omega) (by omega)) fun r137 _ h _ hr => ?_
  subst hr
  refine r_if (1 + (sizeBs (stMapAns d0 d1).1 : Int) < 0) rfl (fun hh => by omega) (fun _ => ?_)
  refine r_ne (fun hh => absurd rfl hh) fun _ => ?_
  exact r_ret h.nil true rfl rfl)

set_option maxRecDepth 100000 in
theorem lifted_FnExactStoreMap (os : Os) (started : os.Started) (H : Type) (enc : TypeId × Value → H) :
    ReturnsInHanded {} Tryz.checked os 3 .any (Rows.fnExactStoreMapSpec.pre6 enc Tryz.prog Tryz.f3 Rows.fnExactStoreMapRow.domain false) (Rows.fnExactStoreMapSpec.post enc Tryz.prog Tryz.f3 false true false false) := by
  refine law_lifted (C := Tryz.checked) (tb := ty_bool) (by kernel_rfl) started (by kernel_rfl) Tryz.func3 (by kernel_rfl) (by kernel_rfl) (by kernel_rfl) (by kernel_rfl) rfl
    (fun ds hd => by
      rw [Tryz.params3] at hd
      match ds, hd with
      | [_, _], _ => exact ⟨rfl, rfl, rfl⟩)
    (ChangeSpec.witness6 (enc := enc) (C := Tryz.checked) false ⟨#[], #[.agg #[.slice none 0 0], .slice none 0 0], []⟩ 8 (by kernel_rfl) (by kernel_rfl) (by kernel_rfl) (by kernel_rfl)) ?_
  intro W base args ds p hval0 hA0
  have hval : ∀ (j : Nat) t v, Tryz.f3.params[j]? = some t → args[j]? = some v → Value.okWide Tryz.prog W .any base t v := hval0
  have hA : DataW.TrodAll enc Tryz.prog W 0 (fun _ => true) true Tryz.f3.params.toList args.toList ds p := hA0
  rw [Tryz.params3] at hA hval
  obtain ⟨v0, vs0, d0, ds0, p0, q0, hargs, rfl, rfl, h0, r0⟩ := ChangeShapes.trodAll_cons hA
  obtain ⟨v1, vs1, d1, ds1, p1, q1, rfl, rfl, rfl, h1, r1⟩ := ChangeShapes.trodAll_cons r0
  obtain ⟨rfl, rfl, rfl⟩ := ChangeShapes.trodAll_nil r1
  obtain rfl : args = #[v0, v1] := by cases args; simp_all
  obtain ⟨x0, D0, rfl, a0⟩ := open_Store (hval 0 _ _ rfl rfl) h0
  obtain ⟨x1, D1, rfl, a1⟩ := open_EntryS (hval 1 _ _ rfl rfl) h1
  exact c_law_FnExactStoreMap a0 a1

theorem over_FnExactStoreMap : Rows.fnExactStoreMapRow.holds Tryz.pinned (OpenSpec.ofChange Rows.fnExactStoreMapSpec) :=
  OpenClaim.holds_of_wide 3 Tryz.f3 rfl rfl rfl rfl rfl rfl rfl ⟨rfl, rfl, rfl, rfl, rfl⟩ rfl rfl rfl rfl rfl (by kernel_rfl) Tryz.func3 (by kernel_rfl)
    (of_decide_eq_true (by kernel_rfl)) (by unfold Func.isWrapper; first | (rw [if_pos (by decide +kernel)]; kernel_rfl) | (rw [if_neg (by decide +kernel)]; exact ⟨rfl, rfl⟩))
    (fun os started H enc _ => lifted_FnExactStoreMap os started H enc)

/-- The given statement. -/
theorem fnExactStoreMap_holds : Rows.FnExactStoreMapSaid := over_FnExactStoreMap
#print axioms fnExactStoreMap_holds
end Go.Proofs.YthaecdelaifccaaGreat
