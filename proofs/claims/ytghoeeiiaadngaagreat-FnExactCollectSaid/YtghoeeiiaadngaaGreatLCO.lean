/- For every input the law FnExactCollect returns true, and its arguments read behind the call as before it. Printed by lawgen.py. -/
import Derived.Test.YtghoeeiiaadngaaGreatZ6
import Derived.Test.YtghoeeiiaadngaaGreatR1
import Derived.Test.YtghoeeiiaadngaaGreatRows
namespace Go.Proofs.YtghoeeiiaadngaaGreat
open Go.Sx Go.RowKit

theorem c_law_FnExactCollect {w : World} {x0 : Array Value} {d0 : List PB} (a0 : RawStore w x0 d0) {x1 : Sl} {d1 : List (List Int)} (a1 : RawKeyS w x1 d1) {x2 : Sl} {d2 : List PL} (a2 : RawLeaseS w x2 d2) (x3 : Int) (a3 : -9223372036854775808 ≤ x3 ∧ x3 ≤ 9223372036854775807) : Ret Tryz.prog n_laws_FnExactCollect [.agg x0, .slice x1.a x1.n x1.c, .slice x2.a x2.n x2.c, .int .i64 x3] w [.bool] (fun r _ => r = true) := laws_FnExactCollect_calls _ _ _ _ (by
  unfold laws_FnExactCollect
  have h := At.refl w
  have hsz0 := collAns_small d0 d1 d2 x3
  have hsz1 := msizeK_eq d1
  have hsz2 := msizeL_eq d2
  refine r_new h fun b4 _ h => ?_
  have h : At w _ ([(b4, x0, ty_laws_Store)] ++ ([])) := h
  refine r_ldA h 0 rfl rfl (a0.sz) ?_
  refine r_call h (c_szStoreV a0 h.below (1048576) (by omega)) fun r24 _ h _ hr => ?_
  subst hr
  by_cases hz_1 : (sizeBs d0 : Int) ≤ 1048576
  rotate_left
  · rw [if_neg hz_1]
    exact r_true rfl (r_ret h.nil true rfl rfl)
  rw [if_pos hz_1]
  refine r_if (1048576 - (sizeBs d0 : Int) < 0) rfl (fun hh => by omega) (fun _ => ?_)
  refine r_call h (c_szKeySV a1 h.below (1048576 - (sizeBs d0 : Int)) (by omega)) fun r29 _ h _ hr => ?_
  subst hr
  by_cases hz_2 : (sizeKeyS d1 : Int) ≤ 1048576 - (sizeBs d0 : Int)
  rotate_left
  · rw [if_neg hz_2]
    exact r_true rfl (r_ret h.nil true rfl rfl)
  rw [if_pos hz_2]
  refine r_if (1048576 - (sizeBs d0 : Int) - (sizeKeyS d1 : Int) < 0) rfl (fun hh => by omega) (fun _ => ?_)
  refine r_call h (c_szLeaseSV a2 h.below (1048576 - (sizeBs d0 : Int) - (sizeKeyS d1 : Int)) (by omega)) fun r34 _ h _ hr => ?_
  subst hr
  by_cases hz_3 : (sizeLeaseS d2 : Int) ≤ 1048576 - (sizeBs d0 : Int) - (sizeKeyS d1 : Int)
  rotate_left
  · rw [if_neg hz_3]
    exact r_true rfl (r_ret h.nil true rfl rfl)
  rw [if_pos hz_3]
  refine r_if (1048576 - (sizeBs d0 : Int) - (sizeKeyS d1 : Int) - (sizeLeaseS d2 : Int) < 0) rfl (fun hh => by omega) (fun _ => ?_)
  refine r_ldA h 0 rfl rfl (a0.sz) ?_
  refine r_call h (c_toStoreV (a0.rd.at h) (by omega)) fun r39 _ _ _ ⟨L_4, hL, hO_5⟩ => ?_
  have h := (h.join hL).rot
  have h : At w _ ([(b4, x0, ty_laws_Store)] ++ (L_4 ++ ([]))) := h
  refine r_call h (c_toKeySV (a1.rd.at h) (by omega)) fun r41 _ _ _ ⟨L_6, hL, hO_7⟩ => ?_
  have h := (h.join hL).rot
  have h : At w _ ([(b4, x0, ty_laws_Store)] ++ (L_6 ++ (L_4 ++ ([])))) := h
  refine r_call h (c_toLeaseSV (a2.rd.at h) (by omega)) fun r43 _ _ _ ⟨L_8, hL, hO_9⟩ => ?_
  have h := (h.join hL).rot
  have h : At w _ ([(b4, x0, ty_laws_Store)] ++ (L_8 ++ (L_6 ++ (L_4 ++ ([]))))) := h
  refine r_call h (c_spec_Collect (hO_5.rd h.pl3) (hO_7.rd h.pl2) (hO_9.rd h.pl1) (by omega) (by omega) (by omega)) fun r45 _ h2 _ ⟨L_10, hL, hO_11, hc_12⟩ => ?_
  have h := (h.join hL).rot
  have h : At w _ ([(b4, x0, ty_laws_Store)] ++ (L_10 ++ (L_8 ++ (L_6 ++ (L_4 ++ ([])))))) := h
  refine r_new h fun b10 _ h => ?_
  have h : At w _ ([(b10, #[(.slice none 0 0)], ty_impl_Store), (b4, x0, ty_laws_Store)] ++ (L_10 ++ (L_8 ++ (L_6 ++ (L_4 ++ ([])))))) := h
  refine r_stA h 0 rfl rfl (hO_11.sz) (rfl) (hO_11.one) fun _ h => ?_
  have h : At w _ ([(b10, r45.1, ty_impl_Store), (b4, x0, ty_laws_Store)] ++ (L_10 ++ (L_8 ++ (L_6 ++ (L_4 ++ ([])))))) := h
  refine r_ldA h 1 rfl rfl (a0.sz) ?_
  refine r_call h (c_toStoreV (a0.rd.at h) (by omega)) fun r49 _ _ _ ⟨L_13, hL, hO_14⟩ => ?_
  have h := (h.join hL).rot
  have h : At w _ ([(b10, r45.1, ty_impl_Store), (b4, x0, ty_laws_Store)] ++ (L_13 ++ (L_10 ++ (L_8 ++ (L_6 ++ (L_4 ++ ([]))))))) := h
  refine r_new h fun b12 _ h => ?_
  have h : At w _ ([(b12, #[(.slice none 0 0)], ty_impl_Store), (b10, r45.1, ty_impl_Store), (b4, x0, ty_laws_Store)] ++ (L_13 ++ (L_10 ++ (L_8 ++ (L_6 ++ (L_4 ++ ([]))))))) := h
  refine r_stA h 0 rfl rfl (hO_14.sz) (rfl) (hO_14.one) fun _ h => ?_
  have h : At w _ ([(b12, r49, ty_impl_Store), (b10, r45.1, ty_impl_Store), (b4, x0, ty_laws_Store)] ++ (L_13 ++ (L_10 ++ (L_8 ++ (L_6 ++ (L_4 ++ ([]))))))) := h
  refine r_call h (c_toKeySV (a1.rd.at h) (by omega)) fun r51 _ _ _ ⟨L_15, hL, hO_16⟩ => ?_
  have h := (h.join hL).rot
  have h : At w _ ([(b12, r49, ty_impl_Store), (b10, r45.1, ty_impl_Store), (b4, x0, ty_laws_Store)] ++ (L_15 ++ (L_13 ++ (L_10 ++ (L_8 ++ (L_6 ++ (L_4 ++ ([])))))))) := h
  refine r_call h (c_toLeaseSV (a2.rd.at h) (by omega)) fun r53 _ _ _ ⟨L_17, hL, hO_18⟩ => ?_
  have h := (h.join hL).rot
  have h : At w _ ([(b12, r49, ty_impl_Store), (b10, r45.1, ty_impl_Store), (b4, x0, ty_laws_Store)] ++ (L_17 ++ (L_15 ++ (L_13 ++ (L_10 ++ (L_8 ++ (L_6 ++ (L_4 ++ ([]))))))))) := h
  refine r_ldA h 0 rfl rfl (hO_14.sz) ?_
  refine r_call h (c_impl_Collect (hO_14.rd h.pl3) (hO_16.rd h.pl2) (hO_18.rd h.pl1) (by omega) (by omega) (by omega)) fun r59 _ h2 _ ⟨L_19, hL, hO_20, hc_21⟩ => ?_
  have h := (h.join hL).rot
  have h : At w _ ([(b12, r49, ty_impl_Store), (b10, r45.1, ty_impl_Store), (b4, x0, ty_laws_Store)] ++ (L_19 ++ (L_17 ++ (L_15 ++ (L_13 ++ (L_10 ++ (L_8 ++ (L_6 ++ (L_4 ++ ([])))))))))) := h
  refine r_new h fun b15 _ h => ?_
  have h : At w _ ([(b15, #[(.slice none 0 0)], ty_impl_Store), (b12, r49, ty_impl_Store), (b10, r45.1, ty_impl_Store), (b4, x0, ty_laws_Store)] ++ (L_19 ++ (L_17 ++ (L_15 ++ (L_13 ++ (L_10 ++ (L_8 ++ (L_6 ++ (L_4 ++ ([])))))))))) := h
  refine r_stA h 0 rfl rfl (hO_20.sz) (rfl) (hO_20.one) fun _ h => ?_
  have h : At w _ ([(b15, r59.1, ty_impl_Store), (b12, r49, ty_impl_Store), (b10, r45.1, ty_impl_Store), (b4, x0, ty_laws_Store)] ++ (L_19 ++ (L_17 ++ (L_15 ++ (L_13 ++ (L_10 ++ (L_8 ++ (L_6 ++ (L_4 ++ ([])))))))))) := h
  refine r_joinI ?_
  refine r_ldA h 0 rfl rfl (hO_20.sz) ?_
  refine r_ldA h 2 rfl rfl (hO_11.sz) ?_
  refine r_call h (c_eqStoreV (hO_20.rd h.pl1) (hO_11.rd h.pl5) (by omega)) fun r64 _ h _ hr => ?_
  subst hr
  refine r_false rfl ?_
  refine r_ne (fun hh => absurd (hc_21.trans hc_12.symm) hh) fun _ => ?_
  refine ⟨(), rfl, ?_⟩
  refine r_any fun _ => ?_
  try dsimp only
  refine r_joinI ?_
  refine r_draw h fun _ h => ?_
  refine r_ldA h 1 rfl rfl (hO_14.sz) ?_
  refine r_ldA h 3 rfl rfl (a0.sz) ?_
  refine r_call h (c_toStoreV (a0.rd.at h) (by omega)) fun r73 _ _ _ ⟨L_22, hL, hO_23⟩ => ?_
  have h := (h.join hL).rot
  have h : At w _ ([(b15, r59.1, ty_impl_Store), (b12, r49, ty_impl_Store), (b10, r45.1, ty_impl_Store), (b4, x0, ty_laws_Store)] ++ (L_22 ++ (L_19 ++ (L_17 ++ (L_15 ++ (L_13 ++ (L_10 ++ (L_8 ++ (L_6 ++ (L_4 ++ ([]))))))))))) := h
  refine r_chk1 ?_ ?_
  · exact ldOk_blk h 1 rfl (hO_14.sz)
  refine r_call h (c_eqStoreV (hO_14.rd h.pl5) (hO_23.rd h.pl1) (by omega)) fun r74 _ h _ hr => ?_
  subst hr
  refine r_false rfl ?_
  refine ⟨(), rfl, ?_⟩
  refine r_any fun _ => ?_
  try dsimp only
  refine r_call h (c_toKeySV (a1.rd.at h) (by omega)) fun r78 _ _ _ ⟨L_24, hL, hO_25⟩ => ?_
  have h := (h.join hL).rot
  have h : At w _ ([(b15, r59.1, ty_impl_Store), (b12, r49, ty_impl_Store), (b10, r45.1, ty_impl_Store), (b4, x0, ty_laws_Store)] ++ (L_24 ++ (L_22 ++ (L_19 ++ (L_17 ++ (L_15 ++ (L_13 ++ (L_10 ++ (L_8 ++ (L_6 ++ (L_4 ++ ([])))))))))))) := h
  refine r_call h (c_eqKeySV (hO_16.rd h.pl5) (hO_25.rd h.pl1) (by omega)) fun r79 _ h _ hr => ?_
  subst hr
  refine r_false rfl ?_
  refine r_call h (c_toLeaseSV (a2.rd.at h) (by omega)) fun r83 _ _ _ ⟨L_26, hL, hO_27⟩ => ?_
  have h := (h.join hL).rot
  have h : At w _ ([(b15, r59.1, ty_impl_Store), (b12, r49, ty_impl_Store), (b10, r45.1, ty_impl_Store), (b4, x0, ty_laws_Store)] ++ (L_26 ++ (L_24 ++ (L_22 ++ (L_19 ++ (L_17 ++ (L_15 ++ (L_13 ++ (L_10 ++ (L_8 ++ (L_6 ++ (L_4 ++ ([]))))))))))))) := h
  refine r_call h (c_eqLeaseSV (hO_18.rd h.pl5) (hO_27.rd h.pl1) (by omega)) fun r84 _ h _ hr => ?_
  subst hr
  refine r_false rfl ?_
  refine r_ldA h 1 rfl rfl (hO_14.sz) ?_
  refine r_callR (c_markStoreV h.pl7 hO_14 (1) (by omega) (by omega)) ?_
  rintro _ _ ⟨rfl, L_28, h, hO_29⟩
  refine ⟨_, rfl, ?_⟩
  have h := h.ps7
  have h : At w _ ([(b15, r59.1, ty_impl_Store), (b12, r49, ty_impl_Store), (b10, r45.1, ty_impl_Store), (b4, x0, ty_laws_Store)] ++ (L_26 ++ (L_24 ++ (L_22 ++ (L_19 ++ (L_17 ++ (L_15 ++ (L_28 ++ (L_10 ++ (L_8 ++ (L_6 ++ (L_4 ++ ([]))))))))))))) := h
  refine r_callR (c_markKeySV h.pl6 hO_16 (1 + (sizeBs d0 : Int)) (by omega) (by omega)) ?_
  rintro _ _ ⟨rfl, L_30, h, hO_31⟩
  refine ⟨_, rfl, ?_⟩
  have h := h.ps6
  have h : At w _ ([(b15, r59.1, ty_impl_Store), (b12, r49, ty_impl_Store), (b10, r45.1, ty_impl_Store), (b4, x0, ty_laws_Store)] ++ (L_26 ++ (L_24 ++ (L_22 ++ (L_19 ++ (L_17 ++ (L_30 ++ (L_28 ++ (L_10 ++ (L_8 ++ (L_6 ++ (L_4 ++ ([]))))))))))))) := h
  refine r_callR (c_markLeaseSV h.pl5 hO_18 (1 + (sizeBs d0 : Int) + (msizeKeyS d1 : Int)) (by omega) (by omega)) ?_
  rintro _ _ ⟨rfl, L_32, h, hO_33⟩
  refine ⟨_, rfl, ?_⟩
  have h := h.ps5
  have h : At w _ ([(b15, r59.1, ty_impl_Store), (b12, r49, ty_impl_Store), (b10, r45.1, ty_impl_Store), (b4, x0, ty_laws_Store)] ++ (L_26 ++ (L_24 ++ (L_22 ++ (L_19 ++ (L_32 ++ (L_30 ++ (L_28 ++ (L_10 ++ (L_8 ++ (L_6 ++ (L_4 ++ ([]))))))))))))) := h
  refine r_joinI ?_
  refine r_if (1 + (sizeBs d0 : Int) + (msizeKeyS d1 : Int) + (sizeLeaseS d2 : Int) < 0) rfl (fun hh => by omega) (fun _ => ?_)
  refine r_ldA h 0 rfl rfl (hO_20.sz) ?_
  refine r_ldA h 2 rfl rfl (hO_11.sz) ?_
  refine r_call h (c_eqStoreV (hO_20.rd h.pl4) (hO_11.rd h.pl8) (by omega)) fun r100 _ h _ hr => ?_
  subst hr
  refine r_false rfl ?_
  refine r_ne (fun hh => absurd (hc_21.trans hc_12.symm) hh) fun _ => ?_
  refine ⟨(), rfl, ?_⟩
  refine r_any fun _ => ?_
  try dsimp only
  refine r_ldA h 0 rfl rfl (hO_20.sz) ?_
  refine r_callR (c_markStoreV h.pl4 hO_20 (1) (by omega) (by omega)) ?_
  rintro _ _ ⟨rfl, L_34, h, hO_35⟩
  refine ⟨_, rfl, ?_⟩
  have h := h.ps4
  have h : At w _ ([(b15, r59.1, ty_impl_Store), (b12, r49, ty_impl_Store), (b10, r45.1, ty_impl_Store), (b4, x0, ty_laws_Store)] ++ (L_26 ++ (L_24 ++ (L_22 ++ (L_34 ++ (L_32 ++ (L_30 ++ (L_28 ++ (L_10 ++ (L_8 ++ (L_6 ++ (L_4 ++ ([]))))))))))))) := h
  refine r_ldA h 0 rfl rfl (hO_35.sz) ?_
  refine r_call h (c_heldStoreV (1) (hO_35.rd h.pl4) (by omega) (by omega)) fun r113 _ h _ hr => ?_
  subst hr
  refine r_if (1 + (sizeBs (collAns d0 d1 d2 x3).1 : Int) < 0) rfl (fun hh => by omega) (fun _ => ?_)
  refine r_ne (fun hh => absurd rfl hh) fun _ => ?_
  refine r_ldA h 3 rfl rfl (a0.sz) ?_
  refine r_call h (c_toStoreV (a0.rd.at h) (by omega)) fun r121 _ _ _ ⟨L_36, hL, hO_37⟩ => ?_
  have h := (h.join hL).rot
  have h : At w _ ([(b15, r59.1, ty_impl_Store), (b12, r49, ty_impl_Store), (b10, r45.1, ty_impl_Store), (b4, x0, ty_laws_Store)] ++ (L_36 ++ (L_26 ++ (L_24 ++ (L_22 ++ (L_34 ++ (L_32 ++ (L_30 ++ (L_28 ++ (L_10 ++ (L_8 ++ (L_6 ++ (L_4 ++ ([])))))))))))))) := h
  refine r_call h (c_toKeySV (a1.rd.at h) (by omega)) fun r123 _ _ _ ⟨L_38, hL, hO_39⟩ => ?_
  have h := (h.join hL).rot
  have h : At w _ ([(b15, r59.1, ty_impl_Store), (b12, r49, ty_impl_Store), (b10, r45.1, ty_impl_Store), (b4, x0, ty_laws_Store)] ++ (L_38 ++ (L_36 ++ (L_26 ++ (L_24 ++ (L_22 ++ (L_34 ++ (L_32 ++ (L_30 ++ (L_28 ++ (L_10 ++ (L_8 ++ (L_6 ++ (L_4 ++ ([]))))))))))))))) := h
  refine r_call h (c_toLeaseSV (a2.rd.at h) (by omega)) fun r125 _ _ _ ⟨L_40, hL, hO_41⟩ => ?_
  have h := (h.join hL).rot
  have h : At w _ ([(b15, r59.1, ty_impl_Store), (b12, r49, ty_impl_Store), (b10, r45.1, ty_impl_Store), (b4, x0, ty_laws_Store)] ++ (L_40 ++ (L_38 ++ (L_36 ++ (L_26 ++ (L_24 ++ (L_22 ++ (L_34 ++ (L_32 ++ (L_30 ++ (L_28 ++ (L_10 ++ (L_8 ++ (L_6 ++ (L_4 ++ ([])))))))))))))))) := h
  refine r_call h (c_impl_Collect (hO_37.rd h.pl3) (hO_39.rd h.pl2) (hO_41.rd h.pl1) (by omega) (by omega) (by omega)) fun r127 _ h2 _ ⟨L_42, hL, hO_43, hc_44⟩ => ?_
  have h := (h.join hL).rot
  have h : At w _ ([(b15, r59.1, ty_impl_Store), (b12, r49, ty_impl_Store), (b10, r45.1, ty_impl_Store), (b4, x0, ty_laws_Store)] ++ (L_42 ++ (L_40 ++ (L_38 ++ (L_36 ++ (L_26 ++ (L_24 ++ (L_22 ++ (L_34 ++ (L_32 ++ (L_30 ++ (L_28 ++ (L_10 ++ (L_8 ++ (L_6 ++ (L_4 ++ ([]))))))))))))))))) := h
  refine r_new h fun b20 _ h => ?_
  have h : At w _ ([(b20, #[(.slice none 0 0)], ty_impl_Store), (b15, r59.1, ty_impl_Store), (b12, r49, ty_impl_Store), (b10, r45.1, ty_impl_Store), (b4, x0, ty_laws_Store)] ++ (L_42 ++ (L_40 ++ (L_38 ++ (L_36 ++ (L_26 ++ (L_24 ++ (L_22 ++ (L_34 ++ (L_32 ++ (L_30 ++ (L_28 ++ (L_10 ++ (L_8 ++ (L_6 ++ (L_4 ++ ([]))))))))))))))))) := h
  refine r_stA h 0 rfl rfl (hO_43.sz) (rfl) (hO_43.one) fun _ h => ?_
  have h : At w _ ([(b20, r127.1, ty_impl_Store), (b15, r59.1, ty_impl_Store), (b12, r49, ty_impl_Store), (b10, r45.1, ty_impl_Store), (b4, x0, ty_laws_Store)] ++ (L_42 ++ (L_40 ++ (L_38 ++ (L_36 ++ (L_26 ++ (L_24 ++ (L_22 ++ (L_34 ++ (L_32 ++ (L_30 ++ (L_28 ++ (L_10 ++ (L_8 ++ (L_6 ++ (L_4 ++ ([]))))))))))))))))) := h
  refine r_joinI ?_
  refine r_ldA h 0 rfl rfl (hO_43.sz) ?_
  refine r_ldA h 3 rfl rfl (hO_11.sz) ?_
  refine r_call h (c_eqStoreV (hO_43.rd h.pl1) (hO_11.rd h.pl12) (by omega)) fun r132 _ h _ hr => ?_
  subst hr
  refine r_false rfl ?_
  refine r_ne (fun hh => absurd (hc_44.trans hc_12.symm) hh) fun _ => ?_
  refine ⟨(), rfl, ?_⟩
  refine r_any fun _ => ?_
  try dsimp only
  refine r_ldA h 1 rfl rfl (hO_35.sz) ?_
  refine r_call h (c_heldStoreV (1) (hO_35.rd h.pl8) (by omega) (by omega)) fun r141 _ h _ hr => ?_
  subst hr
  refine r_if (1 + (sizeBs (collAns d0 d1 d2 x3).1 : Int) < 0) rfl (fun hh => by omega) (fun _ => ?_)
  refine r_ne (fun hh => absurd rfl hh) fun _ => ?_
  exact r_ret h.nil true rfl rfl)

set_option maxRecDepth 100000 in
theorem lifted_FnExactCollect (os : Os) (started : os.Started) (H : Type) (enc : TypeId × Value → H) :
    ReturnsInHanded {} Tryz.checked os 8 .any (Rows.fnExactCollectSpec.pre6 enc Tryz.prog Tryz.f8 Rows.fnExactCollectRow.domain false) (Rows.fnExactCollectSpec.post enc Tryz.prog Tryz.f8 false true false false) := by
  refine law_lifted (C := Tryz.checked) (tb := ty_bool) (by kernel_rfl) started (by kernel_rfl) Tryz.func8 (by kernel_rfl) (by kernel_rfl) (by kernel_rfl) (by kernel_rfl) rfl
    (fun ds hd => by
      rw [Tryz.params8] at hd
      match ds, hd with
      | [_, _, _, _], _ => exact ⟨rfl, rfl, rfl⟩)
    (ChangeSpec.witness6 (enc := enc) (C := Tryz.checked) false ⟨#[], #[.agg #[.slice none 0 0], .slice none 0 0, .slice none 0 0, .int .i64 0], []⟩ 8 (by kernel_rfl) (by kernel_rfl) (by kernel_rfl) (by kernel_rfl)) ?_
  intro W base args ds p hval0 hA0
  have hval : ∀ (j : Nat) t v, Tryz.f8.params[j]? = some t → args[j]? = some v → Value.okWide Tryz.prog W .any base t v := hval0
  have hA : DataW.TrodAll enc Tryz.prog W 0 (fun _ => true) true Tryz.f8.params.toList args.toList ds p := hA0
  rw [Tryz.params8] at hA hval
  obtain ⟨v0, vs0, d0, ds0, p0, q0, hargs, rfl, rfl, h0, r0⟩ := ChangeShapes.trodAll_cons hA
  obtain ⟨v1, vs1, d1, ds1, p1, q1, rfl, rfl, rfl, h1, r1⟩ := ChangeShapes.trodAll_cons r0
  obtain ⟨v2, vs2, d2, ds2, p2, q2, rfl, rfl, rfl, h2, r2⟩ := ChangeShapes.trodAll_cons r1
  obtain ⟨v3, vs3, d3, ds3, p3, q3, rfl, rfl, rfl, h3, r3⟩ := ChangeShapes.trodAll_cons r2
  obtain ⟨rfl, rfl, rfl⟩ := ChangeShapes.trodAll_nil r3
  obtain rfl : args = #[v0, v1, v2, v3] := by cases args; simp_all
  obtain ⟨x0, D0, rfl, a0⟩ := open_Store (hval 0 _ _ rfl rfl) h0
  obtain ⟨x1, D1, rfl, a1⟩ := open_KeyS (hval 1 _ _ rfl rfl) h1
  obtain ⟨x2, D2, rfl, a2⟩ := open_LeaseS (hval 2 _ _ rfl rfl) h2
  obtain ⟨x3, rfl, _, _, a3⟩ := ChangeShapes.open_int (k := .i64) (by kernel_rfl) (hval 3 _ _ rfl rfl) h3
  exact c_law_FnExactCollect a0 a1 a2 _ (bounds_i64 a3)

theorem over_FnExactCollect : Rows.fnExactCollectRow.holds Tryz.pinned (OpenSpec.ofChange Rows.fnExactCollectSpec) :=
  OpenClaim.holds_of_wide 8 Tryz.f8 rfl rfl rfl rfl rfl rfl rfl ⟨rfl, rfl, rfl, rfl, rfl⟩ rfl rfl rfl rfl rfl (by kernel_rfl) Tryz.func8 (by kernel_rfl)
    (of_decide_eq_true (by kernel_rfl)) (by unfold Func.isWrapper; first | (rw [if_pos (by decide +kernel)]; kernel_rfl) | (rw [if_neg (by decide +kernel)]; exact ⟨rfl, rfl⟩))
    (fun os started H enc _ => lifted_FnExactCollect os started H enc)

/-- The given statement. -/
theorem fnExactCollect_holds : Rows.FnExactCollectSaid := over_FnExactCollect
#print axioms fnExactCollect_holds
end Go.Proofs.YtghoeeiiaadngaaGreat
