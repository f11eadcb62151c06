/- For every input the law FnExactPutBlob returns true, and its arguments read behind the call as before it. Printed by lawgen.py. -/
import Derived.Test.YtcebkinkbelcnaaGreatS4
import Derived.Test.YtcebkinkbelcnaaGreatR1
import Derived.Test.YtcebkinkbelcnaaGreatV4
import Derived.Test.YtcebkinkbelcnaaGreatRows
namespace Go.Proofs.YtcebkinkbelcnaaGreat
open Go.Sx Go.RowKit

theorem c_law_FnExactPutBlob {w : World} {x0 : Array Value} {d0 : List PB} (a0 : RawStore w x0 d0) {x1 : Array Value} {d1 : PB} (a1 : RawBlob w x1 d1) : Ret Tryz.prog n_laws_FnExactPutBlob [.agg x0, .agg x1] w [.bool] (fun r _ => r = true) := laws_FnExactPutBlob_calls _ _ (by
  unfold laws_FnExactPutBlob
  have h := At.refl w
  have hsz0 := putBAns_small d0 d1
  refine r_new h fun b2 _ h => ?_
  have h : At w _ ([(b2, x0, ty_laws_Store)] ++ ([])) := h
  refine r_new h fun b3 _ h => ?_
  have h : At w _ ([(b3, x1, ty_laws_Blob), (b2, x0, ty_laws_Store)] ++ ([])) := h
  refine r_ldA h 1 rfl rfl (a0.sz) ?_
  refine r_call h (c_szStoreV a0 h.below (1048576) (by omega)) fun r22 _ h _ hr => ?_
  subst hr
  by_cases hz_1 : (sizeBs d0 : Int) ≤ 1048576
  rotate_left
  · rw [if_neg hz_1]
    exact r_true rfl (r_ret h.nil true rfl rfl)
  rw [if_pos hz_1]
  refine r_if (1048576 - (sizeBs d0 : Int) < 0) rfl (fun hh => by omega) (fun _ => ?_)
  refine r_ldA h 0 rfl rfl (a1.sz) ?_
  refine r_call h (c_szBlobV a1 h.below (1048576 - (sizeBs d0 : Int)) (by omega)) fun r27 _ h _ hr => ?_
  subst hr
  by_cases hz_2 : (sizeBlob d1 : Int) ≤ 1048576 - (sizeBs d0 : Int)
  rotate_left
  · rw [if_neg hz_2]
    exact r_true rfl (r_ret h.nil true rfl rfl)
  rw [if_pos hz_2]
  refine r_if (1048576 - (sizeBs d0 : Int) - (sizeBlob d1 : Int) < 0) rfl (fun hh => by omega) (fun _ => ?_)
  refine r_join (σ := Addr × Addr × Int) (fun s72 w' => ∃ (b_4 : Nat) (x_5 : Array Value) (L_6 : List Blk) (b_8 : Nat) (x_9 : Array Value), s72.1 = (⟨b_4, 0, none⟩ : Addr) ∧ OwnStore x_5 (putBAns d0 d1).1 L_6 ∧ s72.2.1 = (⟨b_8, 0, none⟩ : Addr) ∧ RdKey w x_9 (putBAns d0 d1).2.1 ∧ s72.2.2 = (putBAns d0 d1).2.2 ∧ At w w' ([(b_4, x_5, ty_impl_Store), (b_8, x_9, ty_impl_Key), (b3, x1, ty_laws_Blob), (b2, x0, ty_laws_Store)] ++ (L_6 ++ ([])))) (fun s72 _ hJ => ?_) ?_
  ·
    skip
    obtain ⟨b_4, x_5, L_6, b_8, x_9, eb_4, hO_7, eb_8, hO_10, hc_11, h⟩ := hJ
    refine r_any fun _ => ?_
    rw [eb_4]
    rw [eb_8]
    refine r_ldA h 3 rfl rfl (a0.sz) ?_
    refine r_call h (c_toStoreV (a0.rd.at h) (by omega)) fun r40 _ _ _ ⟨L_12, hL, hO_13⟩ => ?_
    have h := (h.join hL).rot
    have h : At w _ ([(b_4, x_5, ty_impl_Store), (b_8, x_9, ty_impl_Key), (b3, x1, ty_laws_Blob), (b2, x0, ty_laws_Store)] ++ (L_12 ++ (L_6 ++ ([])))) := h
    refine r_new h fun b9 _ h => ?_
    have h : At w _ ([(b9, #[(.slice none 0 0)], ty_impl_Store), (b_4, x_5, ty_impl_Store), (b_8, x_9, ty_impl_Key), (b3, x1, ty_laws_Blob), (b2, x0, ty_laws_Store)] ++ (L_12 ++ (L_6 ++ ([])))) := h
    refine r_stA h 0 rfl rfl (hO_13.sz) (rfl) (hO_13.one) fun _ h => ?_
    have h : At w _ ([(b9, r40, ty_impl_Store), (b_4, x_5, ty_impl_Store), (b_8, x_9, ty_impl_Key), (b3, x1, ty_laws_Blob), (b2, x0, ty_laws_Store)] ++ (L_12 ++ (L_6 ++ ([])))) := h
    refine r_ldA h 3 rfl rfl (a1.sz) ?_
    refine r_call h (c_toBlobV (a1.rd.at h) (by omega)) fun r42 _ _ _ ⟨L_14, hL, hO_15⟩ => ?_
    have h := (h.join hL).rot
    have h : At w _ ([(b9, r40, ty_impl_Store), (b_4, x_5, ty_impl_Store), (b_8, x_9, ty_impl_Key), (b3, x1, ty_laws_Blob), (b2, x0, ty_laws_Store)] ++ (L_14 ++ (L_12 ++ (L_6 ++ ([]))))) := h
    refine r_new h fun b10 _ h => ?_
    have h : At w _ ([(b10, #[(.int .u8 0), (.slice none 0 0)], ty_impl_Blob), (b9, r40, ty_impl_Store), (b_4, x_5, ty_impl_Store), (b_8, x_9, ty_impl_Key), (b3, x1, ty_laws_Blob), (b2, x0, ty_laws_Store)] ++ (L_14 ++ (L_12 ++ (L_6 ++ ([]))))) := h
    refine r_stA h 0 rfl rfl (hO_15.sz) (rfl) (hO_15.one) fun _ h => ?_
    have h : At w _ ([(b10, r42, ty_impl_Blob), (b9, r40, ty_impl_Store), (b_4, x_5, ty_impl_Store), (b_8, x_9, ty_impl_Key), (b3, x1, ty_laws_Blob), (b2, x0, ty_laws_Store)] ++ (L_14 ++ (L_12 ++ (L_6 ++ ([]))))) := h
    refine r_ldA h 1 rfl rfl (hO_13.sz) ?_
    refine r_ldA h 0 rfl rfl (hO_15.sz) ?_
    refine r_call h (c_impl_PutBlob (hO_13.rd h.pl2) (hO_15.rd h.pl1) (by omega) (by omega)) fun r46 _ h2 _ ⟨L_16, hL, hO_17, hc_18, hc_19⟩ => ?_
    have h := (h.join hL).rot
    have hc_18 : RdKey w r46.2.1 (putBAns d0 d1).2.1 := hc_18
    have h : At w _ ([(b10, r42, ty_impl_Blob), (b9, r40, ty_impl_Store), (b_4, x_5, ty_impl_Store), (b_8, x_9, ty_impl_Key), (b3, x1, ty_laws_Blob), (b2, x0, ty_laws_Store)] ++ (L_16 ++ (L_14 ++ (L_12 ++ (L_6 ++ ([])))))) := h
    refine r_new h fun b11 _ h => ?_
    have h : At w _ ([(b11, #[(.slice none 0 0)], ty_impl_Store), (b10, r42, ty_impl_Blob), (b9, r40, ty_impl_Store), (b_4, x_5, ty_impl_Store), (b_8, x_9, ty_impl_Key), (b3, x1, ty_laws_Blob), (b2, x0, ty_laws_Store)] ++ (L_16 ++ (L_14 ++ (L_12 ++ (L_6 ++ ([])))))) := h
    refine r_new h fun b12 _ h => ?_
    have h : At w _ ([(b12, Array.replicate 32 (.int .u8 0), ty_impl_Key), (b11, #[(.slice none 0 0)], ty_impl_Store), (b10, r42, ty_impl_Blob), (b9, r40, ty_impl_Store), (b_4, x_5, ty_impl_Store), (b_8, x_9, ty_impl_Key), (b3, x1, ty_laws_Blob), (b2, x0, ty_laws_Store)] ++ (L_16 ++ (L_14 ++ (L_12 ++ (L_6 ++ ([])))))) := h
    refine r_stA h 1 rfl rfl (hO_17.sz) (rfl) (hO_17.one) fun _ h => ?_
    have h : At w _ ([(b12, Array.replicate 32 (.int .u8 0), ty_impl_Key), (b11, r46.1, ty_impl_Store), (b10, r42, ty_impl_Blob), (b9, r40, ty_impl_Store), (b_4, x_5, ty_impl_Store), (b_8, x_9, ty_impl_Key), (b3, x1, ty_laws_Blob), (b2, x0, ty_laws_Store)] ++ (L_16 ++ (L_14 ++ (L_12 ++ (L_6 ++ ([])))))) := h
    refine r_stA h 0 rfl rfl (hc_18.sz) (rfl) (hc_18.one) fun _ h => ?_
    have h : At w _ ([(b12, r46.2.1, ty_impl_Key), (b11, r46.1, ty_impl_Store), (b10, r42, ty_impl_Blob), (b9, r40, ty_impl_Store), (b_4, x_5, ty_impl_Store), (b_8, x_9, ty_impl_Key), (b3, x1, ty_laws_Blob), (b2, x0, ty_laws_Store)] ++ (L_16 ++ (L_14 ++ (L_12 ++ (L_6 ++ ([])))))) := h
    refine r_joinI ?_
    refine r_ldA h 1 rfl rfl (hO_17.sz) ?_
    refine r_ldA h 4 rfl rfl (hO_7.sz) ?_
    refine r_call h (c_eqStoreV (hO_17.rd h.pl1) (hO_7.rd h.pl4) (by omega)) fun r52 _ h _ hr => ?_
    subst hr
    refine r_false rfl ?_
    refine r_ldA h 0 rfl rfl (hc_18.sz) ?_
    refine r_ldA h 5 rfl rfl (hO_10.sz) ?_
    refine r_call h (c_eqKeyV (hc_18.at h) (hO_10.at h)) fun r57 _ h _ hr => ?_
    subst hr
    refine r_false rfl ?_
    refine r_ne (fun hh => absurd (hc_19.trans hc_11.symm) hh) fun _ => ?_
    refine ⟨(), rfl, ?_⟩
    refine r_any fun _ => ?_
    try dsimp only
    refine r_joinI ?_
    refine r_draw h fun _ h => ?_
    refine r_ldA h 3 rfl rfl (hO_13.sz) ?_
    refine r_ldA h 7 rfl rfl (a0.sz) ?_
    refine r_call h (c_toStoreV (a0.rd.at h) (by omega)) fun r67 _ _ _ ⟨L_20, hL, hO_21⟩ => ?_
    have h := (h.join hL).rot
    have h : At w _ ([(b12, r46.2.1, ty_impl_Key), (b11, r46.1, ty_impl_Store), (b10, r42, ty_impl_Blob), (b9, r40, ty_impl_Store), (b_4, x_5, ty_impl_Store), (b_8, x_9, ty_impl_Key), (b3, x1, ty_laws_Blob), (b2, x0, ty_laws_Store)] ++ (L_20 ++ (L_16 ++ (L_14 ++ (L_12 ++ (L_6 ++ ([]))))))) := h
    refine r_chk1 ?_ ?_
    · exact ldOk_blk h 3 rfl (hO_13.sz)
    refine r_call h (c_eqStoreV (hO_13.rd h.pl4) (hO_21.rd h.pl1) (by omega)) fun r68 _ h _ hr => ?_
    subst hr
    refine r_false rfl ?_
    refine ⟨(), rfl, ?_⟩
    refine r_any fun _ => ?_
    try dsimp only
    refine r_joinI ?_
    refine r_draw h fun _ h => ?_
    refine r_ldA h 2 rfl rfl (hO_15.sz) ?_
    refine r_ldA h 6 rfl rfl (a1.sz) ?_
    refine r_call h (c_toBlobV (a1.rd.at h) (by omega)) fun r72 _ _ _ ⟨L_22, hL, hO_23⟩ => ?_
    have h := (h.join hL).rot
    have h : At w _ ([(b12, r46.2.1, ty_impl_Key), (b11, r46.1, ty_impl_Store), (b10, r42, ty_impl_Blob), (b9, r40, ty_impl_Store), (b_4, x_5, ty_impl_Store), (b_8, x_9, ty_impl_Key), (b3, x1, ty_laws_Blob), (b2, x0, ty_laws_Store)] ++ (L_22 ++ (L_20 ++ (L_16 ++ (L_14 ++ (L_12 ++ (L_6 ++ ([])))))))) := h
    refine r_chk1 ?_ ?_
    · exact ldOk_blk h 2 rfl (hO_15.sz)
    refine r_call h (c_eqBlobV (hO_15.rd h.pl4) (hO_23.rd h.pl1) (by omega)) fun r73 _ h _ hr => ?_
    subst hr
    refine r_false rfl ?_
    refine ⟨(), rfl, ?_⟩
    refine r_any fun _ => ?_
    try dsimp only
    refine r_ldA h 3 rfl rfl (hO_13.sz) ?_
    refine r_callR (c_markStoreV h.pl5 hO_13 (1) (by omega) (by omega)) ?_
    rintro _ _ ⟨rfl, L_24, h, hO_25⟩
    refine ⟨_, rfl, ?_⟩
    have h := h.ps5
    have h : At w _ ([(b12, r46.2.1, ty_impl_Key), (b11, r46.1, ty_impl_Store), (b10, r42, ty_impl_Blob), (b9, r40, ty_impl_Store), (b_4, x_5, ty_impl_Store), (b_8, x_9, ty_impl_Key), (b3, x1, ty_laws_Blob), (b2, x0, ty_laws_Store)] ++ (L_22 ++ (L_20 ++ (L_16 ++ (L_14 ++ (L_24 ++ (L_6 ++ ([])))))))) := h
    refine r_ldA h 2 rfl rfl (hO_15.sz) ?_
    refine r_callR (c_markBlobV h.pl4 hO_15 (1 + (sizeBs d0 : Int)) (by omega) (by omega)) ?_
    rintro _ _ ⟨rfl, L_26, h, hO_27⟩
    refine ⟨_, rfl, ?_⟩
    have h := h.ps4
    have h : At w _ ([(b12, r46.2.1, ty_impl_Key), (b11, r46.1, ty_impl_Store), (b10, r42, ty_impl_Blob), (b9, r40, ty_impl_Store), (b_4, x_5, ty_impl_Store), (b_8, x_9, ty_impl_Key), (b3, x1, ty_laws_Blob), (b2, x0, ty_laws_Store)] ++ (L_22 ++ (L_20 ++ (L_16 ++ (L_26 ++ (L_24 ++ (L_6 ++ ([])))))))) := h
    refine r_joinI ?_
    refine r_if (1 + (sizeBs d0 : Int) + (sizeBlob d1 : Int) < 0) rfl (fun hh => by omega) (fun _ => ?_)
    refine r_ldA h 1 rfl rfl (hO_17.sz) ?_
    refine r_ldA h 4 rfl rfl (hO_7.sz) ?_
    refine r_call h (c_eqStoreV (hO_17.rd h.pl3) (hO_7.rd h.pl6) (by omega)) fun r86 _ h _ hr => ?_
    subst hr
    refine r_false rfl ?_
    refine r_ldA h 0 rfl rfl (hc_18.sz) ?_
    refine r_ldA h 5 rfl rfl (hO_10.sz) ?_
    refine r_call h (c_eqKeyV (hc_18.at h) (hO_10.at h)) fun r92 _ h _ hr => ?_
    subst hr
    refine r_false rfl ?_
    refine r_ne (fun hh => absurd (hc_19.trans hc_11.symm) hh) fun _ => ?_
    refine ⟨(), rfl, ?_⟩
    refine r_any fun _ => ?_
    try dsimp only
    refine r_ldA h 1 rfl rfl (hO_17.sz) ?_
    refine r_callR (c_markStoreV h.pl3 hO_17 (1) (by omega) (by omega)) ?_
    rintro _ _ ⟨rfl, L_28, h, hO_29⟩
    refine ⟨_, rfl, ?_⟩
    have h := h.ps3
    have h : At w _ ([(b12, r46.2.1, ty_impl_Key), (b11, r46.1, ty_impl_Store), (b10, r42, ty_impl_Blob), (b9, r40, ty_impl_Store), (b_4, x_5, ty_impl_Store), (b_8, x_9, ty_impl_Key), (b3, x1, ty_laws_Blob), (b2, x0, ty_laws_Store)] ++ (L_22 ++ (L_20 ++ (L_28 ++ (L_26 ++ (L_24 ++ (L_6 ++ ([])))))))) := h
    refine r_ldA h 1 rfl rfl (hO_29.sz) ?_
    refine r_call h (c_heldStoreV (1) (hO_29.rd h.pl3) (by omega) (by omega)) fun r105 _ h _ hr => ?_
    subst hr
    refine r_if (1 + (sizeBs (putBAns d0 d1).1 : Int) < 0) rfl (fun hh => by omega) (fun _ => ?_)
    refine r_ne (fun hh => absurd rfl hh) fun _ => ?_
    refine r_join (σ := Addr × Addr × Int) (fun s181 w' => ∃ (b_31 : Nat) (x_32 : Array Value) (L_33 : List Blk) (b_35 : Nat) (x_36 : Array Value), s181.1 = (⟨b_31, 0, none⟩ : Addr) ∧ OwnStore x_32 (putBAns d0 d1).1 L_33 ∧ s181.2.1 = (⟨b_35, 0, none⟩ : Addr) ∧ RdKey w x_36 (putBAns d0 d1).2.1 ∧ s181.2.2 = (putBAns d0 d1).2.2 ∧ At w w' ([(b_31, x_32, ty_impl_Store), (b_35, x_36, ty_impl_Key), (b12, r46.2.1, ty_impl_Key), (b11, r46.1, ty_impl_Store), (b10, r42, ty_impl_Blob), (b9, r40, ty_impl_Store), (b_4, x_5, ty_impl_Store), (b_8, x_9, ty_impl_Key), (b3, x1, ty_laws_Blob), (b2, x0, ty_laws_Store)] ++ (L_33 ++ (L_22 ++ (L_20 ++ (L_28 ++ (L_26 ++ (L_24 ++ (L_6 ++ ([])))))))))) (fun s181 _ hJ => ?_) ?_
    ·
      skip
      obtain ⟨b_31, x_32, L_33, b_35, x_36, eb_31, hO_34, eb_35, hO_37, hc_38, h⟩ := hJ
      refine r_any fun _ => ?_
      rw [eb_31]
      rw [eb_35]
      refine r_joinI ?_
      refine r_ldA h 0 rfl rfl (hO_34.sz) ?_
      refine r_ldA h 6 rfl rfl (hO_7.sz) ?_
      refine r_call h (c_eqStoreV (hO_34.rd h.pl1) (hO_7.rd h.pl7) (by omega)) fun r122 _ h _ hr => ?_
      subst hr
      refine r_false rfl ?_
      refine r_ldA h 1 rfl rfl (hO_37.sz) ?_
      refine r_ldA h 7 rfl rfl (hO_10.sz) ?_
      refine r_call h (c_eqKeyV (hO_37.at h) (hO_10.at h)) fun r127 _ h _ hr => ?_
      subst hr
      refine r_false rfl ?_
      refine r_ne (fun hh => absurd (hc_38.trans hc_11.symm) hh) fun _ => ?_
      refine ⟨(), rfl, ?_⟩
      refine r_any fun _ => ?_
      try dsimp only
      refine r_ldA h 3 rfl rfl (hO_29.sz) ?_
      refine r_call h (c_heldStoreV (1) (hO_29.rd h.pl4) (by omega) (by omega)) fun r137 _ h _ hr => ?_
      subst hr
      refine r_if (1 + (sizeBs (putBAns d0 d1).1 : Int) < 0) rfl (fun hh => by omega) (fun _ => ?_)
      refine r_ne (fun hh => absurd rfl hh) fun _ => ?_
      exact r_ret h.nil true rfl rfl
    refine r_draw h fun _ h => ?_
    refine r_ldA h 7 rfl rfl (a0.sz) ?_
    refine r_ldA h 6 rfl rfl (a1.sz) ?_
    refine ⟨?_, ?_⟩
    ·
      skip
      refine r_call h (c_toStoreV (a0.rd.at h) (by omega)) fun r113 _ _ _ ⟨L_39, hL, hO_40⟩ => ?_
      have h := (h.join hL).rot
      have h : At w _ ([(b12, r46.2.1, ty_impl_Key), (b11, r46.1, ty_impl_Store), (b10, r42, ty_impl_Blob), (b9, r40, ty_impl_Store), (b_4, x_5, ty_impl_Store), (b_8, x_9, ty_impl_Key), (b3, x1, ty_laws_Blob), (b2, x0, ty_laws_Store)] ++ (L_39 ++ (L_22 ++ (L_20 ++ (L_28 ++ (L_26 ++ (L_24 ++ (L_6 ++ ([]))))))))) := h
      refine r_chk1 ?_ ?_
      · exact ldOk_blk h 6 rfl (a1.sz)
      refine ⟨?_, ?_⟩
      ·
        skip
        refine r_call h (c_toBlobV (a1.rd.at h) (by omega)) fun r115 _ _ _ ⟨L_41, hL, hO_42⟩ => ?_
        have h := (h.join hL).rot
        have h : At w _ ([(b12, r46.2.1, ty_impl_Key), (b11, r46.1, ty_impl_Store), (b10, r42, ty_impl_Blob), (b9, r40, ty_impl_Store), (b_4, x_5, ty_impl_Store), (b_8, x_9, ty_impl_Key), (b3, x1, ty_laws_Blob), (b2, x0, ty_laws_Store)] ++ (L_41 ++ (L_39 ++ (L_22 ++ (L_20 ++ (L_28 ++ (L_26 ++ (L_24 ++ (L_6 ++ ([])))))))))) := h
        refine ⟨?_, ?_⟩
        ·
          skip
          refine r_call h (c_impl_PutBlob (hO_40.rd h.pl2) (hO_42.rd h.pl1) (by omega) (by omega)) fun r116 _ h2 _ ⟨L_43, hL, hO_44, hc_45, hc_46⟩ => ?_
          have h := (h.join hL).rot
          have hc_45 : RdKey w r116.2.1 (putBAns d0 d1).2.1 := hc_45
          have h : At w _ ([(b12, r46.2.1, ty_impl_Key), (b11, r46.1, ty_impl_Store), (b10, r42, ty_impl_Blob), (b9, r40, ty_impl_Store), (b_4, x_5, ty_impl_Store), (b_8, x_9, ty_impl_Key), (b3, x1, ty_laws_Blob), (b2, x0, ty_laws_Store)] ++ (L_43 ++ (L_41 ++ (L_39 ++ (L_22 ++ (L_20 ++ (L_28 ++ (L_26 ++ (L_24 ++ (L_6 ++ ([]))))))))))) := h
          refine ⟨?_, ?_⟩
          ·
            skip
            refine r_new h fun b17 _ h => ?_
            have h : At w _ ([(b17, #[(.slice none 0 0)], ty_impl_Store), (b12, r46.2.1, ty_impl_Key), (b11, r46.1, ty_impl_Store), (b10, r42, ty_impl_Blob), (b9, r40, ty_impl_Store), (b_4, x_5, ty_impl_Store), (b_8, x_9, ty_impl_Key), (b3, x1, ty_laws_Blob), (b2, x0, ty_laws_Store)] ++ (L_43 ++ (L_41 ++ (L_39 ++ (L_22 ++ (L_20 ++ (L_28 ++ (L_26 ++ (L_24 ++ (L_6 ++ ([]))))))))))) := h
            refine r_new h fun b18 _ h => ?_
            have h : At w _ ([(b18, Array.replicate 32 (.int .u8 0), ty_impl_Key), (b17, #[(.slice none 0 0)], ty_impl_Store), (b12, r46.2.1, ty_impl_Key), (b11, r46.1, ty_impl_Store), (b10, r42, ty_impl_Blob), (b9, r40, ty_impl_Store), (b_4, x_5, ty_impl_Store), (b_8, x_9, ty_impl_Key), (b3, x1, ty_laws_Blob), (b2, x0, ty_laws_Store)] ++ (L_43 ++ (L_41 ++ (L_39 ++ (L_22 ++ (L_20 ++ (L_28 ++ (L_26 ++ (L_24 ++ (L_6 ++ ([]))))))))))) := h
            refine r_stA h 1 rfl rfl (hO_44.sz) (rfl) (hO_44.one) fun _ h => ?_
            have h : At w _ ([(b18, Array.replicate 32 (.int .u8 0), ty_impl_Key), (b17, r116.1, ty_impl_Store), (b12, r46.2.1, ty_impl_Key), (b11, r46.1, ty_impl_Store), (b10, r42, ty_impl_Blob), (b9, r40, ty_impl_Store), (b_4, x_5, ty_impl_Store), (b_8, x_9, ty_impl_Key), (b3, x1, ty_laws_Blob), (b2, x0, ty_laws_Store)] ++ (L_43 ++ (L_41 ++ (L_39 ++ (L_22 ++ (L_20 ++ (L_28 ++ (L_26 ++ (L_24 ++ (L_6 ++ ([]))))))))))) := h
            refine r_stA h 0 rfl rfl (hc_45.sz) (rfl) (hc_45.one) fun _ h => ?_
            have h : At w _ ([(b18, r116.2.1, ty_impl_Key), (b17, r116.1, ty_impl_Store), (b12, r46.2.1, ty_impl_Key), (b11, r46.1, ty_impl_Store), (b10, r42, ty_impl_Blob), (b9, r40, ty_impl_Store), (b_4, x_5, ty_impl_Store), (b_8, x_9, ty_impl_Key), (b3, x1, ty_laws_Blob), (b2, x0, ty_laws_Store)] ++ (L_43 ++ (L_41 ++ (L_39 ++ (L_22 ++ (L_20 ++ (L_28 ++ (L_26 ++ (L_24 ++ (L_6 ++ ([]))))))))))) := h
            have h := h.dr2
            have h := h.dr2
            have h : At w _ ([(b18, r116.2.1, ty_impl_Key), (b17, r116.1, ty_impl_Store), (b12, r46.2.1, ty_impl_Key), (b11, r46.1, ty_impl_Store), (b10, r42, ty_impl_Blob), (b9, r40, ty_impl_Store), (b_4, x_5, ty_impl_Store), (b_8, x_9, ty_impl_Key), (b3, x1, ty_laws_Blob), (b2, x0, ty_laws_Store)] ++ (L_43 ++ (L_22 ++ (L_20 ++ (L_28 ++ (L_26 ++ (L_24 ++ (L_6 ++ ([]))))))))) := h
            have h := At.sw2 h
            have h : At w _ ([(b17, r116.1, ty_impl_Store), (b18, r116.2.1, ty_impl_Key), (b12, r46.2.1, ty_impl_Key), (b11, r46.1, ty_impl_Store), (b10, r42, ty_impl_Blob), (b9, r40, ty_impl_Store), (b_4, x_5, ty_impl_Store), (b_8, x_9, ty_impl_Key), (b3, x1, ty_laws_Blob), (b2, x0, ty_laws_Store)] ++ (L_43 ++ (L_22 ++ (L_20 ++ (L_28 ++ (L_26 ++ (L_24 ++ (L_6 ++ ([]))))))))) := h
            exact ⟨(⟨b17, 0, none⟩, ⟨b18, 0, none⟩, r116.2.2), rfl, b17, r116.1, L_43, b18, r116.2.1, rfl, hO_44, rfl, hc_45, hc_46, h⟩
          refine r_new h fun b18 _ h => ?_
          have h : At w _ ([(b18, Array.replicate 32 (.int .u8 0), ty_impl_Key), (b12, r46.2.1, ty_impl_Key), (b11, r46.1, ty_impl_Store), (b10, r42, ty_impl_Blob), (b9, r40, ty_impl_Store), (b_4, x_5, ty_impl_Store), (b_8, x_9, ty_impl_Key), (b3, x1, ty_laws_Blob), (b2, x0, ty_laws_Store)] ++ (L_43 ++ (L_41 ++ (L_39 ++ (L_22 ++ (L_20 ++ (L_28 ++ (L_26 ++ (L_24 ++ (L_6 ++ ([]))))))))))) := h
          refine r_new h fun b17 _ h => ?_
          have h : At w _ ([(b17, #[(.slice none 0 0)], ty_impl_Store), (b18, Array.replicate 32 (.int .u8 0), ty_impl_Key), (b12, r46.2.1, ty_impl_Key), (b11, r46.1, ty_impl_Store), (b10, r42, ty_impl_Blob), (b9, r40, ty_impl_Store), (b_4, x_5, ty_impl_Store), (b_8, x_9, ty_impl_Key), (b3, x1, ty_laws_Blob), (b2, x0, ty_laws_Store)] ++ (L_43 ++ (L_41 ++ (L_39 ++ (L_22 ++ (L_20 ++ (L_28 ++ (L_26 ++ (L_24 ++ (L_6 ++ ([]))))))))))) := h
          refine r_stA h 0 rfl rfl (hO_44.sz) (rfl) (hO_44.one) fun _ h => ?_
          have h : At w _ ([(b17, r116.1, ty_impl_Store), (b18, Array.replicate 32 (.int .u8 0), ty_impl_Key), (b12, r46.2.1, ty_impl_Key), (b11, r46.1, ty_impl_Store), (b10, r42, ty_impl_Blob), (b9, r40, ty_impl_Store), (b_4, x_5, ty_impl_Store), (b_8, x_9, ty_impl_Key), (b3, x1, ty_laws_Blob), (b2, x0, ty_laws_Store)] ++ (L_43 ++ (L_41 ++ (L_39 ++ (L_22 ++ (L_20 ++ (L_28 ++ (L_26 ++ (L_24 ++ (L_6 ++ ([]))))))))))) := h
          refine r_stA h 1 rfl rfl (hc_45.sz) (rfl) (hc_45.one) fun _ h => ?_
          have h : At w _ ([(b17, r116.1, ty_impl_Store), (b18, r116.2.1, ty_impl_Key), (b12, r46.2.1, ty_impl_Key), (b11, r46.1, ty_impl_Store), (b10, r42, ty_impl_Blob), (b9, r40, ty_impl_Store), (b_4, x_5, ty_impl_Store), (b_8, x_9, ty_impl_Key), (b3, x1, ty_laws_Blob), (b2, x0, ty_laws_Store)] ++ (L_43 ++ (L_41 ++ (L_39 ++ (L_22 ++ (L_20 ++ (L_28 ++ (L_26 ++ (L_24 ++ (L_6 ++ ([]))))))))))) := h
          have h := h.dr2
          have h := h.dr2
          have h : At w _ ([(b17, r116.1, ty_impl_Store), (b18, r116.2.1, ty_impl_Key), (b12, r46.2.1, ty_impl_Key), (b11, r46.1, ty_impl_Store), (b10, r42, ty_impl_Blob), (b9, r40, ty_impl_Store), (b_4, x_5, ty_impl_Store), (b_8, x_9, ty_impl_Key), (b3, x1, ty_laws_Blob), (b2, x0, ty_laws_Store)] ++ (L_43 ++ (L_22 ++ (L_20 ++ (L_28 ++ (L_26 ++ (L_24 ++ (L_6 ++ ([]))))))))) := h
          exact ⟨(⟨b17, 0, none⟩, ⟨b18, 0, none⟩, r116.2.2), rfl, b17, r116.1, L_43, b18, r116.2.1, rfl, hO_44, rfl, hc_45, hc_46, h⟩
        refine ⟨?_, ?_⟩
        ·
          skip
          refine r_new h fun b17 _ h => ?_
          have h : At w _ ([(b17, #[(.slice none 0 0)], ty_impl_Store), (b12, r46.2.1, ty_impl_Key), (b11, r46.1, ty_impl_Store), (b10, r42, ty_impl_Blob), (b9, r40, ty_impl_Store), (b_4, x_5, ty_impl_Store), (b_8, x_9, ty_impl_Key), (b3, x1, ty_laws_Blob), (b2, x0, ty_laws_Store)] ++ (L_41 ++ (L_39 ++ (L_22 ++ (L_20 ++ (L_28 ++ (L_26 ++ (L_24 ++ (L_6 ++ ([])))))))))) := h
          refine ⟨?_, ?_⟩
          ·
            skip
            refine r_call h (c_impl_PutBlob (hO_40.rd h.pl2) (hO_42.rd h.pl1) (by omega) (by omega)) fun r116 _ h2 _ ⟨L_47, hL, hO_48, hc_49, hc_50⟩ => ?_
            have h := (h.join hL).rot
            have hc_49 : RdKey w r116.2.1 (putBAns d0 d1).2.1 := hc_49
            have h : At w _ ([(b17, #[(.slice none 0 0)], ty_impl_Store), (b12, r46.2.1, ty_impl_Key), (b11, r46.1, ty_impl_Store), (b10, r42, ty_impl_Blob), (b9, r40, ty_impl_Store), (b_4, x_5, ty_impl_Store), (b_8, x_9, ty_impl_Key), (b3, x1, ty_laws_Blob), (b2, x0, ty_laws_Store)] ++ (L_47 ++ (L_41 ++ (L_39 ++ (L_22 ++ (L_20 ++ (L_28 ++ (L_26 ++ (L_24 ++ (L_6 ++ ([]))))))))))) := h
            refine r_new h fun b18 _ h => ?_
            have h : At w _ ([(b18, Array.replicate 32 (.int .u8 0), ty_impl_Key), (b17, #[(.slice none 0 0)], ty_impl_Store), (b12, r46.2.1, ty_impl_Key), (b11, r46.1, ty_impl_Store), (b10, r42, ty_impl_Blob), (b9, r40, ty_impl_Store), (b_4, x_5, ty_impl_Store), (b_8, x_9, ty_impl_Key), (b3, x1, ty_laws_Blob), (b2, x0, ty_laws_Store)] ++ (L_47 ++ (L_41 ++ (L_39 ++ (L_22 ++ (L_20 ++ (L_28 ++ (L_26 ++ (L_24 ++ (L_6 ++ ([]))))))))))) := h
            refine r_stA h 1 rfl rfl (hO_48.sz) (rfl) (hO_48.one) fun _ h => ?_
            have h : At w _ ([(b18, Array.replicate 32 (.int .u8 0), ty_impl_Key), (b17, r116.1, ty_impl_Store), (b12, r46.2.1, ty_impl_Key), (b11, r46.1, ty_impl_Store), (b10, r42, ty_impl_Blob), (b9, r40, ty_impl_Store), (b_4, x_5, ty_impl_Store), (b_8, x_9, ty_impl_Key), (b3, x1, ty_laws_Blob), (b2, x0, ty_laws_Store)] ++ (L_47 ++ (L_41 ++ (L_39 ++ (L_22 ++ (L_20 ++ (L_28 ++ (L_26 ++ (L_24 ++ (L_6 ++ ([]))))))))))) := h
            refine r_stA h 0 rfl rfl (hc_49.sz) (rfl) (hc_49.one) fun _ h => ?_
            have h : At w _ ([(b18, r116.2.1, ty_impl_Key), (b17, r116.1, ty_impl_Store), (b12, r46.2.1, ty_impl_Key), (b11, r46.1, ty_impl_Store), (b10, r42, ty_impl_Blob), (b9, r40, ty_impl_Store), (b_4, x_5, ty_impl_Store), (b_8, x_9, ty_impl_Key), (b3, x1, ty_laws_Blob), (b2, x0, ty_laws_Store)] ++ (L_47 ++ (L_41 ++ (L_39 ++ (L_22 ++ (L_20 ++ (L_28 ++ (L_26 ++ (L_24 ++ (L_6 ++ ([]))))))))))) := h
            have h := h.dr2
            have h := h.dr2
            have h : At w _ ([(b18, r116.2.1, ty_impl_Key), (b17, r116.1, ty_impl_Store), (b12, r46.2.1, ty_impl_Key), (b11, r46.1, ty_impl_Store), (b10, r42, ty_impl_Blob), (b9, r40, ty_impl_Store), (b_4, x_5, ty_impl_Store), (b_8, x_9, ty_impl_Key), (b3, x1, ty_laws_Blob), (b2, x0, ty_laws_Store)] ++ (L_47 ++ (L_22 ++ (L_20 ++ (L_28 ++ (L_26 ++ (L_24 ++ (L_6 ++ ([]))))))))) := h
            have h := At.sw2 h
            have h : At w _ ([(b17, r116.1, ty_impl_Store), (b18, r116.2.1, ty_impl_Key), (b12, r46.2.1, ty_impl_Key), (b11, r46.1, ty_impl_Store), (b10, r42, ty_impl_Blob), (b9, r40, ty_impl_Store), (b_4, x_5, ty_impl_Store), (b_8, x_9, ty_impl_Key), (b3, x1, ty_laws_Blob), (b2, x0, ty_laws_Store)] ++ (L_47 ++ (L_22 ++ (L_20 ++ (L_28 ++ (L_26 ++ (L_24 ++ (L_6 ++ ([]))))))))) := h
            exact ⟨(⟨b17, 0, none⟩, ⟨b18, 0, none⟩, r116.2.2), rfl, b17, r116.1, L_47, b18, r116.2.1, rfl, hO_48, rfl, hc_49, hc_50, h⟩
          refine r_new h fun b18 _ h => ?_
          have h : At w _ ([(b18, Array.replicate 32 (.int .u8 0), ty_impl_Key), (b17, #[(.slice none 0 0)], ty_impl_Store), (b12, r46.2.1, ty_impl_Key), (b11, r46.1, ty_impl_Store), (b10, r42, ty_impl_Blob), (b9, r40, ty_impl_Store), (b_4, x_5, ty_impl_Store), (b_8, x_9, ty_impl_Key), (b3, x1, ty_laws_Blob), (b2, x0, ty_laws_Store)] ++ (L_41 ++ (L_39 ++ (L_22 ++ (L_20 ++ (L_28 ++ (L_26 ++ (L_24 ++ (L_6 ++ ([])))))))))) := h
          refine r_call h (c_impl_PutBlob (hO_40.rd h.pl2) (hO_42.rd h.pl1) (by omega) (by omega)) fun r116 _ h2 _ ⟨L_51, hL, hO_52, hc_53, hc_54⟩ => ?_
          have h := (h.join hL).rot
          have hc_53 : RdKey w r116.2.1 (putBAns d0 d1).2.1 := hc_53
          have h : At w _ ([(b18, Array.replicate 32 (.int .u8 0), ty_impl_Key), (b17, #[(.slice none 0 0)], ty_impl_Store), (b12, r46.2.1, ty_impl_Key), (b11, r46.1, ty_impl_Store), (b10, r42, ty_impl_Blob), (b9, r40, ty_impl_Store), (b_4, x_5, ty_impl_Store), (b_8, x_9, ty_impl_Key), (b3, x1, ty_laws_Blob), (b2, x0, ty_laws_Store)] ++ (L_51 ++ (L_41 ++ (L_39 ++ (L_22 ++ (L_20 ++ (L_28 ++ (L_26 ++ (L_24 ++ (L_6 ++ ([]))))))))))) := h
          refine r_stA h 1 rfl rfl (hO_52.sz) (rfl) (hO_52.one) fun _ h => ?_
          have h : At w _ ([(b18, Array.replicate 32 (.int .u8 0), ty_impl_Key), (b17, r116.1, ty_impl_Store), (b12, r46.2.1, ty_impl_Key), (b11, r46.1, ty_impl_Store), (b10, r42, ty_impl_Blob), (b9, r40, ty_impl_Store), (b_4, x_5, ty_impl_Store), (b_8, x_9, ty_impl_Key), (b3, x1, ty_laws_Blob), (b2, x0, ty_laws_Store)] ++ (L_51 ++ (L_41 ++ (L_39 ++ (L_22 ++ (L_20 ++ (L_28 ++ (L_26 ++ (L_24 ++ (L_6 ++ ([]))))))))))) := h
          refine r_stA h 0 rfl rfl (hc_53.sz) (rfl) (hc_53.one) fun _ h => ?_
          have h : At w _ ([(b18, r116.2.1, ty_impl_Key), (b17, r116.1, ty_impl_Store), (b12, r46.2.1, ty_impl_Key), (b11, r46.1, ty_impl_Store), (b10, r42, ty_impl_Blob), (b9, r40, ty_impl_Store), (b_4, x_5, ty_impl_Store), (b_8, x_9, ty_impl_Key), (b3, x1, ty_laws_Blob), (b2, x0, ty_laws_Store)] ++ (L_51 ++ (L_41 ++ (L_39 ++ (L_22 ++ (L_20 ++ (L_28 ++ (L_26 ++ (L_24 ++ (L_6 ++ ([]))))))))))) := h
          have h := h.dr2
          have h := h.dr2
          have h : At w _ ([(b18, r116.2.1, ty_impl_Key), (b17, r116.1, ty_impl_Store), (b12, r46.2.1, ty_impl_Key), (b11, r46.1, ty_impl_Store), (b10, r42, ty_impl_Blob), (b9, r40, ty_impl_Store), (b_4, x_5, ty_impl_Store), (b_8, x_9, ty_impl_Key), (b3, x1, ty_laws_Blob), (b2, x0, ty_laws_Store)] ++ (L_51 ++ (L_22 ++ (L_20 ++ (L_28 ++ (L_26 ++ (L_24 ++ (L_6 ++ ([]))))))))) := h
          have h := At.sw2 h
          have h : At w _ ([(b17, r116.1, ty_impl_Store), (b18, r116.2.1, ty_impl_Key), (b12, r46.2.1, ty_impl_Key), (b11, r46.1, ty_impl_Store), (b10, r42, ty_impl_Blob), (b9, r40, ty_impl_Store), (b_4, x_5, ty_impl_Store), (b_8, x_9, ty_impl_Key), (b3, x1, ty_laws_Blob), (b2, x0, ty_laws_Store)] ++ (L_51 ++ (L_22 ++ (L_20 ++ (L_28 ++ (L_26 ++ (L_24 ++ (L_6 ++ ([]))))))))) := h
          exact ⟨(⟨b17, 0, none⟩, ⟨b18, 0, none⟩, r116.2.2), rfl, b17, r116.1, L_51, b18, r116.2.1, rfl, hO_52, rfl, hc_53, hc_54, h⟩
        refine r_new h fun b18 _ h => ?_
        have h : At w _ ([(b18, Array.replicate 32 (.int .u8 0), ty_impl_Key), (b12, r46.2.1, ty_impl_Key), (b11, r46.1, ty_impl_Store), (b10, r42, ty_impl_Blob), (b9, r40, ty_impl_Store), (b_4, x_5, ty_impl_Store), (b_8, x_9, ty_impl_Key), (b3, x1, ty_laws_Blob), (b2, x0, ty_laws_Store)] ++ (L_41 ++ (L_39 ++ (L_22 ++ (L_20 ++ (L_28 ++ (L_26 ++ (L_24 ++ (L_6 ++ ([])))))))))) := h
        refine ⟨?_, ?_⟩
        ·
          skip
          refine r_call h (c_impl_PutBlob (hO_40.rd h.pl2) (hO_42.rd h.pl1) (by omega) (by omega)) fun r116 _ h2 _ ⟨L_55, hL, hO_56, hc_57, hc_58⟩ => ?_
          have h := (h.join hL).rot
          have hc_57 : RdKey w r116.2.1 (putBAns d0 d1).2.1 := hc_57
          have h : At w _ ([(b18, Array.replicate 32 (.int .u8 0), ty_impl_Key), (b12, r46.2.1, ty_impl_Key), (b11, r46.1, ty_impl_Store), (b10, r42, ty_impl_Blob), (b9, r40, ty_impl_Store), (b_4, x_5, ty_impl_Store), (b_8, x_9, ty_impl_Key), (b3, x1, ty_laws_Blob), (b2, x0, ty_laws_Store)] ++ (L_55 ++ (L_41 ++ (L_39 ++ (L_22 ++ (L_20 ++ (L_28 ++ (L_26 ++ (L_24 ++ (L_6 ++ ([]))))))))))) := h
          refine r_new h fun b17 _ h => ?_
          have h : At w _ ([(b17, #[(.slice none 0 0)], ty_impl_Store), (b18, Array.replicate 32 (.int .u8 0), ty_impl_Key), (b12, r46.2.1, ty_impl_Key), (b11, r46.1, ty_impl_Store), (b10, r42, ty_impl_Blob), (b9, r40, ty_impl_Store), (b_4, x_5, ty_impl_Store), (b_8, x_9, ty_impl_Key), (b3, x1, ty_laws_Blob), (b2, x0, ty_laws_Store)] ++ (L_55 ++ (L_41 ++ (L_39 ++ (L_22 ++ (L_20 ++ (L_28 ++ (L_26 ++ (L_24 ++ (L_6 ++ ([]))))))))))) := h
          refine r_stA h 0 rfl rfl (hO_56.sz) (rfl) (hO_56.one) fun _ h => ?_
          have h : At w _ ([(b17, r116.1, ty_impl_Store), (b18, Array.replicate 32 (.int .u8 0), ty_impl_Key), (b12, r46.2.1, ty_impl_Key), (b11, r46.1, ty_impl_Store), (b10, r42, ty_impl_Blob), (b9, r40, ty_impl_Store), (b_4, x_5, ty_impl_Store), (b_8, x_9, ty_impl_Key), (b3, x1, ty_laws_Blob), (b2, x0, ty_laws_Store)] ++ (L_55 ++ (L_41 ++ (L_39 ++ (L_22 ++ (L_20 ++ (L_28 ++ (L_26 ++ (L_24 ++ (L_6 ++ ([]))))))))))) := h
          refine r_stA h 1 rfl rfl (hc_57.sz) (rfl) (hc_57.one) fun _ h => ?_
          have h : At w _ ([(b17, r116.1, ty_impl_Store), (b18, r116.2.1, ty_impl_Key), (b12, r46.2.1, ty_impl_Key), (b11, r46.1, ty_impl_Store), (b10, r42, ty_impl_Blob), (b9, r40, ty_impl_Store), (b_4, x_5, ty_impl_Store), (b_8, x_9, ty_impl_Key), (b3, x1, ty_laws_Blob), (b2, x0, ty_laws_Store)] ++ (L_55 ++ (L_41 ++ (L_39 ++ (L_22 ++ (L_20 ++ (L_28 ++ (L_26 ++ (L_24 ++ (L_6 ++ ([]))))))))))) := h
          have h := h.dr2
          have h := h.dr2
          have h : At w _ ([(b17, r116.1, ty_impl_Store), (b18, r116.2.1, ty_impl_Key), (b12, r46.2.1, ty_impl_Key), (b11, r46.1, ty_impl_Store), (b10, r42, ty_impl_Blob), (b9, r40, ty_impl_Store), (b_4, x_5, ty_impl_Store), (b_8, x_9, ty_impl_Key), (b3, x1, ty_laws_Blob), (b2, x0, ty_laws_Store)] ++ (L_55 ++ (L_22 ++ (L_20 ++ (L_28 ++ (L_26 ++ (L_24 ++ (L_6 ++ ([]))))))))) := h
          exact ⟨(⟨b17, 0, none⟩, ⟨b18, 0, none⟩, r116.2.2), rfl, b17, r116.1, L_55, b18, r116.2.1, rfl, hO_56, rfl, hc_57, hc_58, h⟩
        refine r_new h fun b17 _ h => ?_
        have h : At w _ ([(b17, #[(.slice none 0 0)], ty_impl_Store), (b18, Array.replicate 32 (.int .u8 0), ty_impl_Key), (b12, r46.2.1, ty_impl_Key), (b11, r46.1, ty_impl_Store), (b10, r42, ty_impl_Blob), (b9, r40, ty_impl_Store), (b_4, x_5, ty_impl_Store), (b_8, x_9, ty_impl_Key), (b3, x1, ty_laws_Blob), (b2, x0, ty_laws_Store)] ++ (L_41 ++ (L_39 ++ (L_22 ++ (L_20 ++ (L_28 ++ (L_26 ++ (L_24 ++ (L_6 ++ ([])))))))))) := h
        refine r_call h (c_impl_PutBlob (hO_40.rd h.pl2) (hO_42.rd h.pl1) (by omega) (by omega)) fun r116 _ h2 _ ⟨L_59, hL, hO_60, hc_61, hc_62⟩ => ?_
        have h := (h.join hL).rot
        have hc_61 : RdKey w r116.2.1 (putBAns d0 d1).2.1 := hc_61
        have h : At w _ ([(b17, #[(.slice none 0 0)], ty_impl_Store), (b18, Array.replicate 32 (.int .u8 0), ty_impl_Key), (b12, r46.2.1, ty_impl_Key), (b11, r46.1, ty_impl_Store), (b10, r42, ty_impl_Blob), (b9, r40, ty_impl_Store), (b_4, x_5, ty_impl_Store), (b_8, x_9, ty_impl_Key), (b3, x1, ty_laws_Blob), (b2, x0, ty_laws_Store)] ++ (L_59 ++ (L_41 ++ (L_39 ++ (L_22 ++ (L_20 ++ (L_28 ++ (L_26 ++ (L_24 ++ (L_6 ++ ([]))))))))))) := h
        refine r_stA h 0 rfl rfl (hO_60.sz) (rfl) (hO_60.one) fun _ h => ?_
        have h : At w _ ([(b17, r116.1, ty_impl_Store), (b18, Array.replicate 32 (.int .u8 0), ty_impl_Key), (b12, r46.2.1, ty_impl_Key), (b11, r46.1, ty_impl_Store), (b10, r42, ty_impl_Blob), (b9, r40, ty_impl_Store), (b_4, x_5, ty_impl_Store), (b_8, x_9, ty_impl_Key), (b3, x1, ty_laws_Blob), (b2, x0, ty_laws_Store)] ++ (L_59 ++ (L_41 ++ (L_39 ++ (L_22 ++ (L_20 ++ (L_28 ++ (L_26 ++ (L_24 ++ (L_6 ++ ([]))))))))))) := h
        refine r_stA h 1 rfl rfl (hc_61.sz) (rfl) (hc_61.one) fun _ h => ?_
        have h : At w _ ([(b17, r116.1, ty_impl_Store), (b18, r116.2.1, ty_impl_Key), (b12, r46.2.1, ty_impl_Key), (b11, r46.1, ty_impl_Store), (b10, r42, ty_impl_Blob), (b9, r40, ty_impl_Store), (b_4, x_5, ty_impl_Store), (b_8, x_9, ty_impl_Key), (b3, x1, ty_laws_Blob), (b2, x0, ty_laws_Store)] ++ (L_59 ++ (L_41 ++ (L_39 ++ (L_22 ++ (L_20 ++ (L_28 ++ (L_26 ++ (L_24 ++ (L_6 ++ ([]))))))))))) := h
        have h := h.dr2
        have h := h.dr2
        have h : At w _ ([(b17, r116.1, ty_impl_Store), (b18, r116.2.1, ty_impl_Key), (b12, r46.2.1, ty_impl_Key), (b11, r46.1, ty_impl_Store), (b10, r42, ty_impl_Blob), (b9, r40, ty_impl_Store), (b_4, x_5, ty_impl_Store), (b_8, x_9, ty_impl_Key), (b3, x1, ty_laws_Blob), (b2, x0, ty_laws_Store)] ++ (L_59 ++ (L_22 ++ (L_20 ++ (L_28 ++ (L_26 ++ (L_24 ++ (L_6 ++ ([]))))))))) := h
        exact ⟨(⟨b17, 0, none⟩, ⟨b18, 0, none⟩, r116.2.2), rfl, b17, r116.1, L_59, b18, r116.2.1, rfl, hO_60, rfl, hc_61, hc_62, h⟩
      refine ⟨?_, ?_⟩
      ·
        skip
        refine r_new h fun b17 _ h => ?_
        have h : At w _ ([(b17, #[(.slice none 0 0)], ty_impl_Store), (b12, r46.2.1, ty_impl_Key), (b11, r46.1, ty_impl_Store), (b10, r42, ty_impl_Blob), (b9, r40, ty_impl_Store), (b_4, x_5, ty_impl_Store), (b_8, x_9, ty_impl_Key), (b3, x1, ty_laws_Blob), (b2, x0, ty_laws_Store)] ++ (L_39 ++ (L_22 ++ (L_20 ++ (L_28 ++ (L_26 ++ (L_24 ++ (L_6 ++ ([]))))))))) := h
        refine r_chk1 ?_ ?_
        · exact ldOk_blk h 7 rfl (a1.sz)
        refine ⟨?_, ?_⟩
        ·
          skip
          refine r_call h (c_toBlobV (a1.rd.at h) (by omega)) fun r115 _ _ _ ⟨L_63, hL, hO_64⟩ => ?_
          have h := (h.join hL).rot
          have h : At w _ ([(b17, #[(.slice none 0 0)], ty_impl_Store), (b12, r46.2.1, ty_impl_Key), (b11, r46.1, ty_impl_Store), (b10, r42, ty_impl_Blob), (b9, r40, ty_impl_Store), (b_4, x_5, ty_impl_Store), (b_8, x_9, ty_impl_Key), (b3, x1, ty_laws_Blob), (b2, x0, ty_laws_Store)] ++ (L_63 ++ (L_39 ++ (L_22 ++ (L_20 ++ (L_28 ++ (L_26 ++ (L_24 ++ (L_6 ++ ([])))))))))) := h
          refine ⟨?_, ?_⟩
          ·
            skip
            refine r_call h (c_impl_PutBlob (hO_40.rd h.pl2) (hO_64.rd h.pl1) (by omega) (by omega)) fun r116 _ h2 _ ⟨L_65, hL, hO_66, hc_67, hc_68⟩ => ?_
            have h := (h.join hL).rot
            have hc_67 : RdKey w r116.2.1 (putBAns d0 d1).2.1 := hc_67
            have h : At w _ ([(b17, #[(.slice none 0 0)], ty_impl_Store), (b12, r46.2.1, ty_impl_Key), (b11, r46.1, ty_impl_Store), (b10, r42, ty_impl_Blob), (b9, r40, ty_impl_Store), (b_4, x_5, ty_impl_Store), (b_8, x_9, ty_impl_Key), (b3, x1, ty_laws_Blob), (b2, x0, ty_laws_Store)] ++ (L_65 ++ (L_63 ++ (L_39 ++ (L_22 ++ (L_20 ++ (L_28 ++ (L_26 ++ (L_24 ++ (L_6 ++ ([]))))))))))) := h
            refine r_new h fun b18 _ h => ?_
            have h : At w _ ([(b18, Array.replicate 32 (.int .u8 0), ty_impl_Key), (b17, #[(.slice none 0 0)], ty_impl_Store), (b12, r46.2.1, ty_impl_Key), (b11, r46.1, ty_impl_Store), (b10, r42, ty_impl_Blob), (b9, r40, ty_impl_Store), (b_4, x_5, ty_impl_Store), (b_8, x_9, ty_impl_Key), (b3, x1, ty_laws_Blob), (b2, x0, ty_laws_Store)] ++ (L_65 ++ (L_63 ++ (L_39 ++ (L_22 ++ (L_20 ++ (L_28 ++ (L_26 ++ (L_24 ++ (L_6 ++ ([]))))))))))) := h
            refine r_stA h 1 rfl rfl (hO_66.sz) (rfl) (hO_66.one) fun _ h => ?_
            have h : At w _ ([(b18, Array.replicate 32 (.int .u8 0), ty_impl_Key), (b17, r116.1, ty_impl_Store), (b12, r46.2.1, ty_impl_Key), (b11, r46.1, ty_impl_Store), (b10, r42, ty_impl_Blob), (b9, r40, ty_impl_Store), (b_4, x_5, ty_impl_Store), (b_8, x_9, ty_impl_Key), (b3, x1, ty_laws_Blob), (b2, x0, ty_laws_Store)] ++ (L_65 ++ (L_63 ++ (L_39 ++ (L_22 ++ (L_20 ++ (L_28 ++ (L_26 ++ (L_24 ++ (L_6 ++ ([]))))))))))) := h
            refine r_stA h 0 rfl rfl (hc_67.sz) (rfl) (hc_67.one) fun _ h => ?_
            have h : At w _ ([(b18, r116.2.1, ty_impl_Key), (b17, r116.1, ty_impl_Store), (b12, r46.2.1, ty_impl_Key), (b11, r46.1, ty_impl_Store), (b10, r42, ty_impl_Blob), (b9, r40, ty_impl_Store), (b_4, x_5, ty_impl_Store), (b_8, x_9, ty_impl_Key), (b3, x1, ty_laws_Blob), (b2, x0, ty_laws_Store)] ++ (L_65 ++ (L_63 ++ (L_39 ++ (L_22 ++ (L_20 ++ (L_28 ++ (L_26 ++ (L_24 ++ (L_6 ++ ([]))))))))))) := h
            have h := h.dr2
            have h := h.dr2
            have h : At w _ ([(b18, r116.2.1, ty_impl_Key), (b17, r116.1, ty_impl_Store), (b12, r46.2.1, ty_impl_Key), (b11, r46.1, ty_impl_Store), (b10, r42, ty_impl_Blob), (b9, r40, ty_impl_Store), (b_4, x_5, ty_impl_Store), (b_8, x_9, ty_impl_Key), (b3, x1, ty_laws_Blob), (b2, x0, ty_laws_Store)] ++ (L_65 ++ (L_22 ++ (L_20 ++ (L_28 ++ (L_26 ++ (L_24 ++ (L_6 ++ ([]))))))))) := h
            have h := At.sw2 h
            have h : At w _ ([(b17, r116.1, ty_impl_Store), (b18, r116.2.1, ty_impl_Key), (b12, r46.2.1, ty_impl_Key), (b11, r46.1, ty_impl_Store), (b10, r42, ty_impl_Blob), (b9, r40, ty_impl_Store), (b_4, x_5, ty_impl_Store), (b_8, x_9, ty_impl_Key), (b3, x1, ty_laws_Blob), (b2, x0, ty_laws_Store)] ++ (L_65 ++ (L_22 ++ (L_20 ++ (L_28 ++ (L_26 ++ (L_24 ++ (L_6 ++ ([]))))))))) := h
            exact ⟨(⟨b17, 0, none⟩, ⟨b18, 0, none⟩, r116.2.2), rfl, b17, r116.1, L_65, b18, r116.2.1, rfl, hO_66, rfl, hc_67, hc_68, h⟩
          refine r_new h fun b18 _ h => ?_
          have h : At w _ ([(b18, Array.replicate 32 (.int .u8 0), ty_impl_Key), (b17, #[(.slice none 0 0)], ty_impl_Store), (b12, r46.2.1, ty_impl_Key), (b11, r46.1, ty_impl_Store), (b10, r42, ty_impl_Blob), (b9, r40, ty_impl_Store), (b_4, x_5, ty_impl_Store), (b_8, x_9, ty_impl_Key), (b3, x1, ty_laws_Blob), (b2, x0, ty_laws_Store)] ++ (L_63 ++ (L_39 ++ (L_22 ++ (L_20 ++ (L_28 ++ (L_26 ++ (L_24 ++ (L_6 ++ ([])))))))))) := h
          refine r_call h (c_impl_PutBlob (hO_40.rd h.pl2) (hO_64.rd h.pl1) (by omega) (by omega)) fun r116 _ h2 _ ⟨L_69, hL, hO_70, hc_71, hc_72⟩ => ?_
          have h := (h.join hL).rot
          have hc_71 : RdKey w r116.2.1 (putBAns d0 d1).2.1 := hc_71
          have h : At w _ ([(b18, Array.replicate 32 (.int .u8 0), ty_impl_Key), (b17, #[(.slice none 0 0)], ty_impl_Store), (b12, r46.2.1, ty_impl_Key), (b11, r46.1, ty_impl_Store), (b10, r42, ty_impl_Blob), (b9, r40, ty_impl_Store), (b_4, x_5, ty_impl_Store), (b_8, x_9, ty_impl_Key), (b3, x1, ty_laws_Blob), (b2, x0, ty_laws_Store)] ++ (L_69 ++ (L_63 ++ (L_39 ++ (L_22 ++ (L_20 ++ (L_28 ++ (L_26 ++ (L_24 ++ (L_6 ++ ([]))))))))))) := h
          refine r_stA h 1 rfl rfl (hO_70.sz) (rfl) (hO_70.one) fun _ h => ?_
          have h : At w _ ([(b18, Array.replicate 32 (.int .u8 0), ty_impl_Key), (b17, r116.1, ty_impl_Store), (b12, r46.2.1, ty_impl_Key), (b11, r46.1, ty_impl_Store), (b10, r42, ty_impl_Blob), (b9, r40, ty_impl_Store), (b_4, x_5, ty_impl_Store), (b_8, x_9, ty_impl_Key), (b3, x1, ty_laws_Blob), (b2, x0, ty_laws_Store)] ++ (L_69 ++ (L_63 ++ (L_39 ++ (L_22 ++ (L_20 ++ (L_28 ++ (L_26 ++ (L_24 ++ (L_6 ++ ([]))))))))))) := h
          refine r_stA h 0 rfl rfl (hc_71.sz) (rfl) (hc_71.one) fun _ h => ?_
          have h : At w _ ([(b18, r116.2.1, ty_impl_Key), (b17, r116.1, ty_impl_Store), (b12, r46.2.1, ty_impl_Key), (b11, r46.1, ty_impl_Store), (b10, r42, ty_impl_Blob), (b9, r40, ty_impl_Store), (b_4, x_5, ty_impl_Store), (b_8, x_9, ty_impl_Key), (b3, x1, ty_laws_Blob), (b2, x0, ty_laws_Store)] ++ (L_69 ++ (L_63 ++ (L_39 ++ (L_22 ++ (L_20 ++ (L_28 ++ (L_26 ++ (L_24 ++ (L_6 ++ ([]))))))))))) := h
          have h := h.dr2
          have h := h.dr2
          have h : At w _ ([(b18, r116.2.1, ty_impl_Key), (b17, r116.1, ty_impl_Store), (b12, r46.2.1, ty_impl_Key), (b11, r46.1, ty_impl_Store), (b10, r42, ty_impl_Blob), (b9, r40, ty_impl_Store), (b_4, x_5, ty_impl_Store), (b_8, x_9, ty_impl_Key), (b3, x1, ty_laws_Blob), (b2, x0, ty_laws_Store)] ++ (L_69 ++ (L_22 ++ (L_20 ++ (L_28 ++ (L_26 ++ (L_24 ++ (L_6 ++ ([]))))))))) := h
          have h := At.sw2 h
          have h : At w _ ([(b17, r116.1, ty_impl_Store), (b18, r116.2.1, ty_impl_Key), (b12, r46.2.1, ty_impl_Key), (b11, r46.1, ty_impl_Store), (b10, r42, ty_impl_Blob), (b9, r40, ty_impl_Store), (b_4, x_5, ty_impl_Store), (b_8, x_9, ty_impl_Key), (b3, x1, ty_laws_Blob), (b2, x0, ty_laws_Store)] ++ (L_69 ++ (L_22 ++ (L_20 ++ (L_28 ++ (L_26 ++ (L_24 ++ (L_6 ++ ([]))))))))) := h
          exact ⟨(⟨b17, 0, none⟩, ⟨b18, 0, none⟩, r116.2.2), rfl, b17, r116.1, L_69, b18, r116.2.1, rfl, hO_70, rfl, hc_71, hc_72, h⟩
        refine r_new h fun b18 _ h => ?_
        have h : At w _ ([(b18, Array.replicate 32 (.int .u8 0), ty_impl_Key), (b17, #[(.slice none 0 0)], ty_impl_Store), (b12, r46.2.1, ty_impl_Key), (b11, r46.1, ty_impl_Store), (b10, r42, ty_impl_Blob), (b9, r40, ty_impl_Store), (b_4, x_5, ty_impl_Store), (b_8, x_9, ty_impl_Key), (b3, x1, ty_laws_Blob), (b2, x0, ty_laws_Store)] ++ (L_39 ++ (L_22 ++ (L_20 ++ (L_28 ++ (L_26 ++ (L_24 ++ (L_6 ++ ([]))))))))) := h
        refine r_chk1 ?_ ?_
        · exact ldOk_blk h 8 rfl (a1.sz)
        refine r_call h (c_toBlobV (a1.rd.at h) (by omega)) fun r115 _ _ _ ⟨L_73, hL, hO_74⟩ => ?_
        have h := (h.join hL).rot
        have h : At w _ ([(b18, Array.replicate 32 (.int .u8 0), ty_impl_Key), (b17, #[(.slice none 0 0)], ty_impl_Store), (b12, r46.2.1, ty_impl_Key), (b11, r46.1, ty_impl_Store), (b10, r42, ty_impl_Blob), (b9, r40, ty_impl_Store), (b_4, x_5, ty_impl_Store), (b_8, x_9, ty_impl_Key), (b3, x1, ty_laws_Blob), (b2, x0, ty_laws_Store)] ++ (L_73 ++ (L_39 ++ (L_22 ++ (L_20 ++ (L_28 ++ (L_26 ++ (L_24 ++ (L_6 ++ ([])))))))))) := h
        refine r_call h (c_impl_PutBlob (hO_40.rd h.pl2) (hO_74.rd h.pl1) (by omega) (by omega)) fun r116 _ h2 _ ⟨L_75, hL, hO_76, hc_77, hc_78⟩ => ?_
        have h := (h.join hL).rot
        have hc_77 : RdKey w r116.2.1 (putBAns d0 d1).2.1 := hc_77
        have h : At w _ ([(b18, Array.replicate 32 (.int .u8 0), ty_impl_Key), (b17, #[(.slice none 0 0)], ty_impl_Store), (b12, r46.2.1, ty_impl_Key), (b11, r46.1, ty_impl_Store), (b10, r42, ty_impl_Blob), (b9, r40, ty_impl_Store), (b_4, x_5, ty_impl_Store), (b_8, x_9, ty_impl_Key), (b3, x1, ty_laws_Blob), (b2, x0, ty_laws_Store)] ++ (L_75 ++ (L_73 ++ (L_39 ++ (L_22 ++ (L_20 ++ (L_28 ++ (L_26 ++ (L_24 ++ (L_6 ++ ([]))))))))))) := h
        refine r_stA h 1 rfl rfl (hO_76.sz) (rfl) (hO_76.one) fun _ h => ?_
        have h : At w _ ([(b18, Array.replicate 32 (.int .u8 0), ty_impl_Key), (b17, r116.1, ty_impl_Store), (b12, r46.2.1, ty_impl_Key), (b11, r46.1, ty_impl_Store), (b10, r42, ty_impl_Blob), (b9, r40, ty_impl_Store), (b_4, x_5, ty_impl_Store), (b_8, x_9, ty_impl_Key), (b3, x1, ty_laws_Blob), (b2, x0, ty_laws_Store)] ++ (L_75 ++ (L_73 ++ (L_39 ++ (L_22 ++ (L_20 ++ (L_28 ++ (L_26 ++ (L_24 ++ (L_6 ++ ([]))))))))))) := h
        refine r_stA h 0 rfl rfl (hc_77.sz) (rfl) (hc_77.one) fun _ h => ?_
        have h : At w _ ([(b18, r116.2.1, ty_impl_Key), (b17, r116.1, ty_impl_Store), (b12, r46.2.1, ty_impl_Key), (b11, r46.1, ty_impl_Store), (b10, r42, ty_impl_Blob), (b9, r40, ty_impl_Store), (b_4, x_5, ty_impl_Store), (b_8, x_9, ty_impl_Key), (b3, x1, ty_laws_Blob), (b2, x0, ty_laws_Store)] ++ (L_75 ++ (L_73 ++ (L_39 ++ (L_22 ++ (L_20 ++ (L_28 ++ (L_26 ++ (L_24 ++ (L_6 ++ ([]))))))))))) := h
        have h := h.dr2
        have h := h.dr2
        have h : At w _ ([(b18, r116.2.1, ty_impl_Key), (b17, r116.1, ty_impl_Store), (b12, r46.2.1, ty_impl_Key), (b11, r46.1, ty_impl_Store), (b10, r42, ty_impl_Blob), (b9, r40, ty_impl_Store), (b_4, x_5, ty_impl_Store), (b_8, x_9, ty_impl_Key), (b3, x1, ty_laws_Blob), (b2, x0, ty_laws_Store)] ++ (L_75 ++ (L_22 ++ (L_20 ++ (L_28 ++ (L_26 ++ (L_24 ++ (L_6 ++ ([]))))))))) := h
        have h := At.sw2 h
        have h : At w _ ([(b17, r116.1, ty_impl_Store), (b18, r116.2.1, ty_impl_Key), (b12, r46.2.1, ty_impl_Key), (b11, r46.1, ty_impl_Store), (b10, r42, ty_impl_Blob), (b9, r40, ty_impl_Store), (b_4, x_5, ty_impl_Store), (b_8, x_9, ty_impl_Key), (b3, x1, ty_laws_Blob), (b2, x0, ty_laws_Store)] ++ (L_75 ++ (L_22 ++ (L_20 ++ (L_28 ++ (L_26 ++ (L_24 ++ (L_6 ++ ([]))))))))) := h
        exact ⟨(⟨b17, 0, none⟩, ⟨b18, 0, none⟩, r116.2.2), rfl, b17, r116.1, L_75, b18, r116.2.1, rfl, hO_76, rfl, hc_77, hc_78, h⟩
      refine r_new h fun b18 _ h => ?_
      have h : At w _ ([(b18, Array.replicate 32 (.int .u8 0), ty_impl_Key), (b12, r46.2.1, ty_impl_Key), (b11, r46.1, ty_impl_Store), (b10, r42, ty_impl_Blob), (b9, r40, ty_impl_Store), (b_4, x_5, ty_impl_Store), (b_8, x_9, ty_impl_Key), (b3, x1, ty_laws_Blob), (b2, x0, ty_laws_Store)] ++ (L_39 ++ (L_22 ++ (L_20 ++ (L_28 ++ (L_26 ++ (L_24 ++ (L_6 ++ ([]))))))))) := h
      refine r_chk1 ?_ ?_
      · exact ldOk_blk h 7 rfl (a1.sz)
      refine ⟨?_, ?_⟩
      ·
        skip
        refine r_call h (c_toBlobV (a1.rd.at h) (by omega)) fun r115 _ _ _ ⟨L_79, hL, hO_80⟩ => ?_
        have h := (h.join hL).rot
        have h : At w _ ([(b18, Array.replicate 32 (.int .u8 0), ty_impl_Key), (b12, r46.2.1, ty_impl_Key), (b11, r46.1, ty_impl_Store), (b10, r42, ty_impl_Blob), (b9, r40, ty_impl_Store), (b_4, x_5, ty_impl_Store), (b_8, x_9, ty_impl_Key), (b3, x1, ty_laws_Blob), (b2, x0, ty_laws_Store)] ++ (L_79 ++ (L_39 ++ (L_22 ++ (L_20 ++ (L_28 ++ (L_26 ++ (L_24 ++ (L_6 ++ ([])))))))))) := h
        refine ⟨?_, ?_⟩
        ·
          skip
          refine r_call h (c_impl_PutBlob (hO_40.rd h.pl2) (hO_80.rd h.pl1) (by omega) (by omega)) fun r116 _ h2 _ ⟨L_81, hL, hO_82, hc_83, hc_84⟩ => ?_
          have h := (h.join hL).rot
          have hc_83 : RdKey w r116.2.1 (putBAns d0 d1).2.1 := hc_83
          have h : At w _ ([(b18, Array.replicate 32 (.int .u8 0), ty_impl_Key), (b12, r46.2.1, ty_impl_Key), (b11, r46.1, ty_impl_Store), (b10, r42, ty_impl_Blob), (b9, r40, ty_impl_Store), (b_4, x_5, ty_impl_Store), (b_8, x_9, ty_impl_Key), (b3, x1, ty_laws_Blob), (b2, x0, ty_laws_Store)] ++ (L_81 ++ (L_79 ++ (L_39 ++ (L_22 ++ (L_20 ++ (L_28 ++ (L_26 ++ (L_24 ++ (L_6 ++ ([]))))))))))) := h
          refine r_new h fun b17 _ h => ?_
          have h : At w _ ([(b17, #[(.slice none 0 0)], ty_impl_Store), (b18, Array.replicate 32 (.int .u8 0), ty_impl_Key), (b12, r46.2.1, ty_impl_Key), (b11, r46.1, ty_impl_Store), (b10, r42, ty_impl_Blob), (b9, r40, ty_impl_Store), (b_4, x_5, ty_impl_Store), (b_8, x_9, ty_impl_Key), (b3, x1, ty_laws_Blob), (b2, x0, ty_laws_Store)] ++ (L_81 ++ (L_79 ++ (L_39 ++ (L_22 ++ (L_20 ++ (L_28 ++ (L_26 ++ (L_24 ++ (L_6 ++ ([]))))))))))) := h
          refine r_stA h 0 rfl rfl (hO_82.sz) (rfl) (hO_82.one) fun _ h => ?_
          have h : At w _ ([(b17, r116.1, ty_impl_Store), (b18, Array.replicate 32 (.int .u8 0), ty_impl_Key), (b12, r46.2.1, ty_impl_Key), (b11, r46.1, ty_impl_Store), (b10, r42, ty_impl_Blob), (b9, r40, ty_impl_Store), (b_4, x_5, ty_impl_Store), (b_8, x_9, ty_impl_Key), (b3, x1, ty_laws_Blob), (b2, x0, ty_laws_Store)] ++ (L_81 ++ (L_79 ++ (L_39 ++ (L_22 ++ (L_20 ++ (L_28 ++ (L_26 ++ (L_24 ++ (L_6 ++ ([]))))))))))) := h
          refine r_stA h 1 rfl rfl (hc_83.sz) (rfl) (hc_83.one) fun _ h => ?_
          have h : At w _ ([(b17, r116.1, ty_impl_Store), (b18, r116.2.1, ty_impl_Key), (b12, r46.2.1, ty_impl_Key), (b11, r46.1, ty_impl_Store), (b10, r42, ty_impl_Blob), (b9, r40, ty_impl_Store), (b_4, x_5, ty_impl_Store), (b_8, x_9, ty_impl_Key), (b3, x1, ty_laws_Blob), (b2, x0, ty_laws_Store)] ++ (L_81 ++ (L_79 ++ (L_39 ++ (L_22 ++ (L_20 ++ (L_28 ++ (L_26 ++ (L_24 ++ (L_6 ++ ([]))))))))))) := h
          have h := h.dr2
          have h := h.dr2
          have h : At w _ ([(b17, r116.1, ty_impl_Store), (b18, r116.2.1, ty_impl_Key), (b12, r46.2.1, ty_impl_Key), (b11, r46.1, ty_impl_Store), (b10, r42, ty_impl_Blob), (b9, r40, ty_impl_Store), (b_4, x_5, ty_impl_Store), (b_8, x_9, ty_impl_Key), (b3, x1, ty_laws_Blob), (b2, x0, ty_laws_Store)] ++ (L_81 ++ (L_22 ++ (L_20 ++ (L_28 ++ (L_26 ++ (L_24 ++ (L_6 ++ ([]))))))))) := h
          exact ⟨(⟨b17, 0, none⟩, ⟨b18, 0, none⟩, r116.2.2), rfl, b17, r116.1, L_81, b18, r116.2.1, rfl, hO_82, rfl, hc_83, hc_84, h⟩
        refine r_new h fun b17 _ h => ?_
        have h : At w _ ([(b17, #[(.slice none 0 0)], ty_impl_Store), (b18, Array.replicate 32 (.int .u8 0), ty_impl_Key), (b12, r46.2.1, ty_impl_Key), (b11, r46.1, ty_impl_Store), (b10, r42, ty_impl_Blob), (b9, r40, ty_impl_Store), (b_4, x_5, ty_impl_Store), (b_8, x_9, ty_impl_Key), (b3, x1, ty_laws_Blob), (b2, x0, ty_laws_Store)] ++ (L_79 ++ (L_39 ++ (L_22 ++ (L_20 ++ (L_28 ++ (L_26 ++ (L_24 ++ (L_6 ++ ([])))))))))) := h
        refine r_call h (c_impl_PutBlob (hO_40.rd h.pl2) (hO_80.rd h.pl1) (by omega) (by omega)) fun r116 _ h2 _ ⟨L_85, hL, hO_86, hc_87, hc_88⟩ => ?_
        have h := (h.join hL).rot
        have hc_87 : RdKey w r116.2.1 (putBAns d0 d1).2.1 := hc_87
        have h : At w _ ([(b17, #[(.slice none 0 0)], ty_impl_Store), (b18, Array.replicate 32 (.int .u8 0), ty_impl_Key), (b12, r46.2.1, ty_impl_Key), (b11, r46.1, ty_impl_Store), (b10, r42, ty_impl_Blob), (b9, r40, ty_impl_Store), (b_4, x_5, ty_impl_Store), (b_8, x_9, ty_impl_Key), (b3, x1, ty_laws_Blob), (b2, x0, ty_laws_Store)] ++ (L_85 ++ (L_79 ++ (L_39 ++ (L_22 ++ (L_20 ++ (L_28 ++ (L_26 ++ (L_24 ++ (L_6 ++ ([]))))))))))) := h
        refine r_stA h 0 rfl rfl (hO_86.sz) (rfl) (hO_86.one) fun _ h => ?_
        have h : At w _ ([(b17, r116.1, ty_impl_Store), (b18, Array.replicate 32 (.int .u8 0), ty_impl_Key), (b12, r46.2.1, ty_impl_Key), (b11, r46.1, ty_impl_Store), (b10, r42, ty_impl_Blob), (b9, r40, ty_impl_Store), (b_4, x_5, ty_impl_Store), (b_8, x_9, ty_impl_Key), (b3, x1, ty_laws_Blob), (b2, x0, ty_laws_Store)] ++ (L_85 ++ (L_79 ++ (L_39 ++ (L_22 ++ (L_20 ++ (L_28 ++ (L_26 ++ (L_24 ++ (L_6 ++ ([]))))))))))) := h
        refine r_stA h 1 rfl rfl (hc_87.sz) (rfl) (hc_87.one) fun _ h => ?_
        have h : At w _ ([(b17, r116.1, ty_impl_Store), (b18, r116.2.1, ty_impl_Key), (b12, r46.2.1, ty_impl_Key), (b11, r46.1, ty_impl_Store), (b10, r42, ty_impl_Blob), (b9, r40, ty_impl_Store), (b_4, x_5, ty_impl_Store), (b_8, x_9, ty_impl_Key), (b3, x1, ty_laws_Blob), (b2, x0, ty_laws_Store)] ++ (L_85 ++ (L_79 ++ (L_39 ++ (L_22 ++ (L_20 ++ (L_28 ++ (L_26 ++ (L_24 ++ (L_6 ++ ([]))))))))))) := h
        have h := h.dr2
        have h := h.dr2
        have h : At w _ ([(b17, r116.1, ty_impl_Store), (b18, r116.2.1, ty_impl_Key), (b12, r46.2.1, ty_impl_Key), (b11, r46.1, ty_impl_Store), (b10, r42, ty_impl_Blob), (b9, r40, ty_impl_Store), (b_4, x_5, ty_impl_Store), (b_8, x_9, ty_impl_Key), (b3, x1, ty_laws_Blob), (b2, x0, ty_laws_Store)] ++ (L_85 ++ (L_22 ++ (L_20 ++ (L_28 ++ (L_26 ++ (L_24 ++ (L_6 ++ ([]))))))))) := h
        exact ⟨(⟨b17, 0, none⟩, ⟨b18, 0, none⟩, r116.2.2), rfl, b17, r116.1, L_85, b18, r116.2.1, rfl, hO_86, rfl, hc_87, hc_88, h⟩
      refine r_new h fun b17 _ h => ?_
      have h : At w _ ([(b17, #[(.slice none 0 0)], ty_impl_Store), (b18, Array.replicate 32 (.int .u8 0), ty_impl_Key), (b12, r46.2.1, ty_impl_Key), (b11, r46.1, ty_impl_Store), (b10, r42, ty_impl_Blob), (b9, r40, ty_impl_Store), (b_4, x_5, ty_impl_Store), (b_8, x_9, ty_impl_Key), (b3, x1, ty_laws_Blob), (b2, x0, ty_laws_Store)] ++ (L_39 ++ (L_22 ++ (L_20 ++ (L_28 ++ (L_26 ++ (L_24 ++ (L_6 ++ ([]))))))))) := h
      refine r_chk1 ?_ ?_
      · exact ldOk_blk h 8 rfl (a1.sz)
      refine r_call h (c_toBlobV (a1.rd.at h) (by omega)) fun r115 _ _ _ ⟨L_89, hL, hO_90⟩ => ?_
      have h := (h.join hL).rot
      have h : At w _ ([(b17, #[(.slice none 0 0)], ty_impl_Store), (b18, Array.replicate 32 (.int .u8 0), ty_impl_Key), (b12, r46.2.1, ty_impl_Key), (b11, r46.1, ty_impl_Store), (b10, r42, ty_impl_Blob), (b9, r40, ty_impl_Store), (b_4, x_5, ty_impl_Store), (b_8, x_9, ty_impl_Key), (b3, x1, ty_laws_Blob), (b2, x0, ty_laws_Store)] ++ (L_89 ++ (L_39 ++ (L_22 ++ (L_20 ++ (L_28 ++ (L_26 ++ (L_24 ++ (L_6 ++ ([])))))))))) := h
      refine r_call h (c_impl_PutBlob (hO_40.rd h.pl2) (hO_90.rd h.pl1) (by omega) (by omega)) fun r116 _ h2 _ ⟨L_91, hL, hO_92, hc_93, hc_94⟩ => ?_
      have h := (h.join hL).rot
      have hc_93 : RdKey w r116.2.1 (putBAns d0 d1).2.1 := hc_93
      have h : At w _ ([(b17, #[(.slice none 0 0)], ty_impl_Store), (b18, Array.replicate 32 (.int .u8 0), ty_impl_Key), (b12, r46.2.1, ty_impl_Key), (b11, r46.1, ty_impl_Store), (b10, r42, ty_impl_Blob), (b9, r40, ty_impl_Store), (b_4, x_5, ty_impl_Store), (b_8, x_9, ty_impl_Key), (b3, x1, ty_laws_Blob), (b2, x0, ty_laws_Store)] ++ (L_91 ++ (L_89 ++ (L_39 ++ (L_22 ++ (L_20 ++ (L_28 ++ (L_26 ++ (L_24 ++ (L_6 ++ ([]))))))))))) := h
      refine r_stA h 0 rfl rfl (hO_92.sz) (rfl) (hO_92.one) fun _ h => ?_
      have h : At w _ ([(b17, r116.1, ty_impl_Store), (b18, Array.replicate 32 (.int .u8 0), ty_impl_Key), (b12, r46.2.1, ty_impl_Key), (b11, r46.1, ty_impl_Store), (b10, r42, ty_impl_Blob), (b9, r40, ty_impl_Store), (b_4, x_5, ty_impl_Store), (b_8, x_9, ty_impl_Key), (b3, x1, ty_laws_Blob), (b2, x0, ty_laws_Store)] ++ (L_91 ++ (L_89 ++ (L_39 ++ (L_22 ++ (L_20 ++ (L_28 ++ (L_26 ++ (L_24 ++ (L_6 ++ ([]))))))))))) := h
      refine r_stA h 1 rfl rfl (hc_93.sz) (rfl) (hc_93.one) fun _ h => ?_
      have h : At w _ ([(b17, r116.1, ty_impl_Store), (b18, r116.2.1, ty_impl_Key), (b12, r46.2.1, ty_impl_Key), (b11, r46.1, ty_impl_Store), (b10, r42, ty_impl_Blob), (b9, r40, ty_impl_Store), (b_4, x_5, ty_impl_Store), (b_8, x_9, ty_impl_Key), (b3, x1, ty_laws_Blob), (b2, x0, ty_laws_Store)] ++ (L_91 ++ (L_89 ++ (L_39 ++ (L_22 ++ (L_20 ++ (L_28 ++ (L_26 ++ (L_24 ++ (L_6 ++ ([]))))))))))) := h
      have h := h.dr2
      have h := h.dr2
      have h : At w _ ([(b17, r116.1, ty_impl_Store), (b18, r116.2.1, ty_impl_Key), (b12, r46.2.1, ty_impl_Key), (b11, r46.1, ty_impl_Store), (b10, r42, ty_impl_Blob), (b9, r40, ty_impl_Store), (b_4, x_5, ty_impl_Store), (b_8, x_9, ty_impl_Key), (b3, x1, ty_laws_Blob), (b2, x0, ty_laws_Store)] ++ (L_91 ++ (L_22 ++ (L_20 ++ (L_28 ++ (L_26 ++ (L_24 ++ (L_6 ++ ([]))))))))) := h
      exact ⟨(⟨b17, 0, none⟩, ⟨b18, 0, none⟩, r116.2.2), rfl, b17, r116.1, L_91, b18, r116.2.1, rfl, hO_92, rfl, hc_93, hc_94, h⟩
    refine ⟨?_, ?_⟩
    ·
      skip
      refine r_new h fun b17 _ h => ?_
      have h : At w _ ([(b17, #[(.slice none 0 0)], ty_impl_Store), (b12, r46.2.1, ty_impl_Key), (b11, r46.1, ty_impl_Store), (b10, r42, ty_impl_Blob), (b9, r40, ty_impl_Store), (b_4, x_5, ty_impl_Store), (b_8, x_9, ty_impl_Key), (b3, x1, ty_laws_Blob), (b2, x0, ty_laws_Store)] ++ (L_22 ++ (L_20 ++ (L_28 ++ (L_26 ++ (L_24 ++ (L_6 ++ ([])))))))) := h
      refine r_chk2 ?_ ?_ ?_
      · exact ldOk_blk h 7 rfl (a1.sz)
      · exact ldOk_blk h 8 rfl (a0.sz)
      refine ⟨?_, ?_⟩
      ·
        skip
        refine r_call h (c_toStoreV (a0.rd.at h) (by omega)) fun r113 _ _ _ ⟨L_95, hL, hO_96⟩ => ?_
        have h := (h.join hL).rot
        have h : At w _ ([(b17, #[(.slice none 0 0)], ty_impl_Store), (b12, r46.2.1, ty_impl_Key), (b11, r46.1, ty_impl_Store), (b10, r42, ty_impl_Blob), (b9, r40, ty_impl_Store), (b_4, x_5, ty_impl_Store), (b_8, x_9, ty_impl_Key), (b3, x1, ty_laws_Blob), (b2, x0, ty_laws_Store)] ++ (L_95 ++ (L_22 ++ (L_20 ++ (L_28 ++ (L_26 ++ (L_24 ++ (L_6 ++ ([]))))))))) := h
        refine r_chk1 ?_ ?_
        · exact ldOk_blk h 7 rfl (a1.sz)
        refine ⟨?_, ?_⟩
        ·
          skip
          refine r_call h (c_toBlobV (a1.rd.at h) (by omega)) fun r115 _ _ _ ⟨L_97, hL, hO_98⟩ => ?_
          have h := (h.join hL).rot
          have h : At w _ ([(b17, #[(.slice none 0 0)], ty_impl_Store), (b12, r46.2.1, ty_impl_Key), (b11, r46.1, ty_impl_Store), (b10, r42, ty_impl_Blob), (b9, r40, ty_impl_Store), (b_4, x_5, ty_impl_Store), (b_8, x_9, ty_impl_Key), (b3, x1, ty_laws_Blob), (b2, x0, ty_laws_Store)] ++ (L_97 ++ (L_95 ++ (L_22 ++ (L_20 ++ (L_28 ++ (L_26 ++ (L_24 ++ (L_6 ++ ([])))))))))) := h
          refine ⟨?_, ?_⟩
          ·
            skip
            refine r_call h (c_impl_PutBlob (hO_96.rd h.pl2) (hO_98.rd h.pl1) (by omega) (by omega)) fun r116 _ h2 _ ⟨L_99, hL, hO_100, hc_101, hc_102⟩ => ?_
            have h := (h.join hL).rot
            have hc_101 : RdKey w r116.2.1 (putBAns d0 d1).2.1 := hc_101
            have h : At w _ ([(b17, #[(.slice none 0 0)], ty_impl_Store), (b12, r46.2.1, ty_impl_Key), (b11, r46.1, ty_impl_Store), (b10, r42, ty_impl_Blob), (b9, r40, ty_impl_Store), (b_4, x_5, ty_impl_Store), (b_8, x_9, ty_impl_Key), (b3, x1, ty_laws_Blob), (b2, x0, ty_laws_Store)] ++ (L_99 ++ (L_97 ++ (L_95 ++ (L_22 ++ (L_20 ++ (L_28 ++ (L_26 ++ (L_24 ++ (L_6 ++ ([]))))))))))) := h
            refine r_new h fun b18 _ h => ?_
            have h : At w _ ([(b18, Array.replicate 32 (.int .u8 0), ty_impl_Key), (b17, #[(.slice none 0 0)], ty_impl_Store), (b12, r46.2.1, ty_impl_Key), (b11, r46.1, ty_impl_Store), (b10, r42, ty_impl_Blob), (b9, r40, ty_impl_Store), (b_4, x_5, ty_impl_Store), (b_8, x_9, ty_impl_Key), (b3, x1, ty_laws_Blob), (b2, x0, ty_laws_Store)] ++ (L_99 ++ (L_97 ++ (L_95 ++ (L_22 ++ (L_20 ++ (L_28 ++ (L_26 ++ (L_24 ++ (L_6 ++ ([]))))))))))) := h
            refine r_stA h 1 rfl rfl (hO_100.sz) (rfl) (hO_100.one) fun _ h => ?_
            have h : At w _ ([(b18, Array.replicate 32 (.int .u8 0), ty_impl_Key), (b17, r116.1, ty_impl_Store), (b12, r46.2.1, ty_impl_Key), (b11, r46.1, ty_impl_Store), (b10, r42, ty_impl_Blob), (b9, r40, ty_impl_Store), (b_4, x_5, ty_impl_Store), (b_8, x_9, ty_impl_Key), (b3, x1, ty_laws_Blob), (b2, x0, ty_laws_Store)] ++ (L_99 ++ (L_97 ++ (L_95 ++ (L_22 ++ (L_20 ++ (L_28 ++ (L_26 ++ (L_24 ++ (L_6 ++ ([]))))))))))) := h
            refine r_stA h 0 rfl rfl (hc_101.sz) (rfl) (hc_101.one) fun _ h => ?_
            have h : At w _ ([(b18, r116.2.1, ty_impl_Key), (b17, r116.1, ty_impl_Store), (b12, r46.2.1, ty_impl_Key), (b11, r46.1, ty_impl_Store), (b10, r42, ty_impl_Blob), (b9, r40, ty_impl_Store), (b_4, x_5, ty_impl_Store), (b_8, x_9, ty_impl_Key), (b3, x1, ty_laws_Blob), (b2, x0, ty_laws_Store)] ++ (L_99 ++ (L_97 ++ (L_95 ++ (L_22 ++ (L_20 ++ (L_28 ++ (L_26 ++ (L_24 ++ (L_6 ++ ([]))))))))))) := h
            have h := h.dr2
            have h := h.dr2
            have h : At w _ ([(b18, r116.2.1, ty_impl_Key), (b17, r116.1, ty_impl_Store), (b12, r46.2.1, ty_impl_Key), (b11, r46.1, ty_impl_Store), (b10, r42, ty_impl_Blob), (b9, r40, ty_impl_Store), (b_4, x_5, ty_impl_Store), (b_8, x_9, ty_impl_Key), (b3, x1, ty_laws_Blob), (b2, x0, ty_laws_Store)] ++ (L_99 ++ (L_22 ++ (L_20 ++ (L_28 ++ (L_26 ++ (L_24 ++ (L_6 ++ ([]))))))))) := h
            have h := At.sw2 h
            have h : At w _ ([(b17, r116.1, ty_impl_Store), (b18, r116.2.1, ty_impl_Key), (b12, r46.2.1, ty_impl_Key), (b11, r46.1, ty_impl_Store), (b10, r42, ty_impl_Blob), (b9, r40, ty_impl_Store), (b_4, x_5, ty_impl_Store), (b_8, x_9, ty_impl_Key), (b3, x1, ty_laws_Blob), (b2, x0, ty_laws_Store)] ++ (L_99 ++ (L_22 ++ (L_20 ++ (L_28 ++ (L_26 ++ (L_24 ++ (L_6 ++ ([]))))))))) := h
            exact ⟨(⟨b17, 0, none⟩, ⟨b18, 0, none⟩, r116.2.2), rfl, b17, r116.1, L_99, b18, r116.2.1, rfl, hO_100, rfl, hc_101, hc_102, h⟩
          refine r_new h fun b18 _ h => ?_
          have h : At w _ ([(b18, Array.replicate 32 (.int .u8 0), ty_impl_Key), (b17, #[(.slice none 0 0)], ty_impl_Store), (b12, r46.2.1, ty_impl_Key), (b11, r46.1, ty_impl_Store), (b10, r42, ty_impl_Blob), (b9, r40, ty_impl_Store), (b_4, x_5, ty_impl_Store), (b_8, x_9, ty_impl_Key), (b3, x1, ty_laws_Blob), (b2, x0, ty_laws_Store)] ++ (L_97 ++ (L_95 ++ (L_22 ++ (L_20 ++ (L_28 ++ (L_26 ++ (L_24 ++ (L_6 ++ ([])))))))))) := h
          refine r_call h (c_impl_PutBlob (hO_96.rd h.pl2) (hO_98.rd h.pl1) (by omega) (by omega)) fun r116 _ h2 _ ⟨L_103, hL, hO_104, hc_105, hc_106⟩ => ?_
          have h := (h.join hL).rot
          have hc_105 : RdKey w r116.2.1 (putBAns d0 d1).2.1 := hc_105
          have h : At w _ ([(b18, Array.replicate 32 (.int .u8 0), ty_impl_Key), (b17, #[(.slice none 0 0)], ty_impl_Store), (b12, r46.2.1, ty_impl_Key), (b11, r46.1, ty_impl_Store), (b10, r42, ty_impl_Blob), (b9, r40, ty_impl_Store), (b_4, x_5, ty_impl_Store), (b_8, x_9, ty_impl_Key), (b3, x1, ty_laws_Blob), (b2, x0, ty_laws_Store)] ++ (L_103 ++ (L_97 ++ (L_95 ++ (L_22 ++ (L_20 ++ (L_28 ++ (L_26 ++ (L_24 ++ (L_6 ++ ([]))))))))))) := h
          refine r_stA h 1 rfl rfl (hO_104.sz) (rfl) (hO_104.one) fun _ h => ?_
          have h : At w _ ([(b18, Array.replicate 32 (.int .u8 0), ty_impl_Key), (b17, r116.1, ty_impl_Store), (b12, r46.2.1, ty_impl_Key), (b11, r46.1, ty_impl_Store), (b10, r42, ty_impl_Blob), (b9, r40, ty_impl_Store), (b_4, x_5, ty_impl_Store), (b_8, x_9, ty_impl_Key), (b3, x1, ty_laws_Blob), (b2, x0, ty_laws_Store)] ++ (L_103 ++ (L_97 ++ (L_95 ++ (L_22 ++ (L_20 ++ (L_28 ++ (L_26 ++ (L_24 ++ (L_6 ++ ([]))))))))))) := h
          refine r_stA h 0 rfl rfl (hc_105.sz) (rfl) (hc_105.one) fun _ h => ?_
          have h : At w _ ([(b18, r116.2.1, ty_impl_Key), (b17, r116.1, ty_impl_Store), (b12, r46.2.1, ty_impl_Key), (b11, r46.1, ty_impl_Store), (b10, r42, ty_impl_Blob), (b9, r40, ty_impl_Store), (b_4, x_5, ty_impl_Store), (b_8, x_9, ty_impl_Key), (b3, x1, ty_laws_Blob), (b2, x0, ty_laws_Store)] ++ (L_103 ++ (L_97 ++ (L_95 ++ (L_22 ++ (L_20 ++ (L_28 ++ (L_26 ++ (L_24 ++ (L_6 ++ ([]))))))))))) := h
          have h := h.dr2
          have h := h.dr2
          have h : At w _ ([(b18, r116.2.1, ty_impl_Key), (b17, r116.1, ty_impl_Store), (b12, r46.2.1, ty_impl_Key), (b11, r46.1, ty_impl_Store), (b10, r42, ty_impl_Blob), (b9, r40, ty_impl_Store), (b_4, x_5, ty_impl_Store), (b_8, x_9, ty_impl_Key), (b3, x1, ty_laws_Blob), (b2, x0, ty_laws_Store)] ++ (L_103 ++ (L_22 ++ (L_20 ++ (L_28 ++ (L_26 ++ (L_24 ++ (L_6 ++ ([]))))))))) := h
          have h := At.sw2 h
          have h : At w _ ([(b17, r116.1, ty_impl_Store), (b18, r116.2.1, ty_impl_Key), (b12, r46.2.1, ty_impl_Key), (b11, r46.1, ty_impl_Store), (b10, r42, ty_impl_Blob), (b9, r40, ty_impl_Store), (b_4, x_5, ty_impl_Store), (b_8, x_9, ty_impl_Key), (b3, x1, ty_laws_Blob), (b2, x0, ty_laws_Store)] ++ (L_103 ++ (L_22 ++ (L_20 ++ (L_28 ++ (L_26 ++ (L_24 ++ (L_6 ++ ([]))))))))) := h
          exact ⟨(⟨b17, 0, none⟩, ⟨b18, 0, none⟩, r116.2.2), rfl, b17, r116.1, L_103, b18, r116.2.1, rfl, hO_104, rfl, hc_105, hc_106, h⟩
        refine r_new h fun b18 _ h => ?_
        have h : At w _ ([(b18, Array.replicate 32 (.int .u8 0), ty_impl_Key), (b17, #[(.slice none 0 0)], ty_impl_Store), (b12, r46.2.1, ty_impl_Key), (b11, r46.1, ty_impl_Store), (b10, r42, ty_impl_Blob), (b9, r40, ty_impl_Store), (b_4, x_5, ty_impl_Store), (b_8, x_9, ty_impl_Key), (b3, x1, ty_laws_Blob), (b2, x0, ty_laws_Store)] ++ (L_95 ++ (L_22 ++ (L_20 ++ (L_28 ++ (L_26 ++ (L_24 ++ (L_6 ++ ([]))))))))) := h
        refine r_chk1 ?_ ?_
        · exact ldOk_blk h 8 rfl (a1.sz)
        refine r_call h (c_toBlobV (a1.rd.at h) (by omega)) fun r115 _ _ _ ⟨L_107, hL, hO_108⟩ => ?_
        have h := (h.join hL).rot
        have h : At w _ ([(b18, Array.replicate 32 (.int .u8 0), ty_impl_Key), (b17, #[(.slice none 0 0)], ty_impl_Store), (b12, r46.2.1, ty_impl_Key), (b11, r46.1, ty_impl_Store), (b10, r42, ty_impl_Blob), (b9, r40, ty_impl_Store), (b_4, x_5, ty_impl_Store), (b_8, x_9, ty_impl_Key), (b3, x1, ty_laws_Blob), (b2, x0, ty_laws_Store)] ++ (L_107 ++ (L_95 ++ (L_22 ++ (L_20 ++ (L_28 ++ (L_26 ++ (L_24 ++ (L_6 ++ ([])))))))))) := h
        refine r_call h (c_impl_PutBlob (hO_96.rd h.pl2) (hO_108.rd h.pl1) (by omega) (by omega)) fun r116 _ h2 _ ⟨L_109, hL, hO_110, hc_111, hc_112⟩ => ?_
        have h := (h.join hL).rot
        have hc_111 : RdKey w r116.2.1 (putBAns d0 d1).2.1 := hc_111
        have h : At w _ ([(b18, Array.replicate 32 (.int .u8 0), ty_impl_Key), (b17, #[(.slice none 0 0)], ty_impl_Store), (b12, r46.2.1, ty_impl_Key), (b11, r46.1, ty_impl_Store), (b10, r42, ty_impl_Blob), (b9, r40, ty_impl_Store), (b_4, x_5, ty_impl_Store), (b_8, x_9, ty_impl_Key), (b3, x1, ty_laws_Blob), (b2, x0, ty_laws_Store)] ++ (L_109 ++ (L_107 ++ (L_95 ++ (L_22 ++ (L_20 ++ (L_28 ++ (L_26 ++ (L_24 ++ (L_6 ++ ([]))))))))))) := h
        refine r_stA h 1 rfl rfl (hO_110.sz) (rfl) (hO_110.one) fun _ h => ?_
        have h : At w _ ([(b18, Array.replicate 32 (.int .u8 0), ty_impl_Key), (b17, r116.1, ty_impl_Store), (b12, r46.2.1, ty_impl_Key), (b11, r46.1, ty_impl_Store), (b10, r42, ty_impl_Blob), (b9, r40, ty_impl_Store), (b_4, x_5, ty_impl_Store), (b_8, x_9, ty_impl_Key), (b3, x1, ty_laws_Blob), (b2, x0, ty_laws_Store)] ++ (L_109 ++ (L_107 ++ (L_95 ++ (L_22 ++ (L_20 ++ (L_28 ++ (L_26 ++ (L_24 ++ (L_6 ++ ([]))))))))))) := h
        refine r_stA h 0 rfl rfl (hc_111.sz) (rfl) (hc_111.one) fun _ h => ?_
        have h : At w _ ([(b18, r116.2.1, ty_impl_Key), (b17, r116.1, ty_impl_Store), (b12, r46.2.1, ty_impl_Key), (b11, r46.1, ty_impl_Store), (b10, r42, ty_impl_Blob), (b9, r40, ty_impl_Store), (b_4, x_5, ty_impl_Store), (b_8, x_9, ty_impl_Key), (b3, x1, ty_laws_Blob), (b2, x0, ty_laws_Store)] ++ (L_109 ++ (L_107 ++ (L_95 ++ (L_22 ++ (L_20 ++ (L_28 ++ (L_26 ++ (L_24 ++ (L_6 ++ ([]))))))))))) := h
        have h := h.dr2
        have h := h.dr2
        have h : At w _ ([(b18, r116.2.1, ty_impl_Key), (b17, r116.1, ty_impl_Store), (b12, r46.2.1, ty_impl_Key), (b11, r46.1, ty_impl_Store), (b10, r42, ty_impl_Blob), (b9, r40, ty_impl_Store), (b_4, x_5, ty_impl_Store), (b_8, x_9, ty_impl_Key), (b3, x1, ty_laws_Blob), (b2, x0, ty_laws_Store)] ++ (L_109 ++ (L_22 ++ (L_20 ++ (L_28 ++ (L_26 ++ (L_24 ++ (L_6 ++ ([]))))))))) := h
        have h := At.sw2 h
        have h : At w _ ([(b17, r116.1, ty_impl_Store), (b18, r116.2.1, ty_impl_Key), (b12, r46.2.1, ty_impl_Key), (b11, r46.1, ty_impl_Store), (b10, r42, ty_impl_Blob), (b9, r40, ty_impl_Store), (b_4, x_5, ty_impl_Store), (b_8, x_9, ty_impl_Key), (b3, x1, ty_laws_Blob), (b2, x0, ty_laws_Store)] ++ (L_109 ++ (L_22 ++ (L_20 ++ (L_28 ++ (L_26 ++ (L_24 ++ (L_6 ++ ([]))))))))) := h
        exact ⟨(⟨b17, 0, none⟩, ⟨b18, 0, none⟩, r116.2.2), rfl, b17, r116.1, L_109, b18, r116.2.1, rfl, hO_110, rfl, hc_111, hc_112, h⟩
      refine r_new h fun b18 _ h => ?_
      have h : At w _ ([(b18, Array.replicate 32 (.int .u8 0), ty_impl_Key), (b17, #[(.slice none 0 0)], ty_impl_Store), (b12, r46.2.1, ty_impl_Key), (b11, r46.1, ty_impl_Store), (b10, r42, ty_impl_Blob), (b9, r40, ty_impl_Store), (b_4, x_5, ty_impl_Store), (b_8, x_9, ty_impl_Key), (b3, x1, ty_laws_Blob), (b2, x0, ty_laws_Store)] ++ (L_22 ++ (L_20 ++ (L_28 ++ (L_26 ++ (L_24 ++ (L_6 ++ ([])))))))) := h
      refine r_chk2 ?_ ?_ ?_
      · exact ldOk_blk h 8 rfl (a1.sz)
      · exact ldOk_blk h 9 rfl (a0.sz)
      refine r_call h (c_toStoreV (a0.rd.at h) (by omega)) fun r113 _ _ _ ⟨L_113, hL, hO_114⟩ => ?_
      have h := (h.join hL).rot
      have h : At w _ ([(b18, Array.replicate 32 (.int .u8 0), ty_impl_Key), (b17, #[(.slice none 0 0)], ty_impl_Store), (b12, r46.2.1, ty_impl_Key), (b11, r46.1, ty_impl_Store), (b10, r42, ty_impl_Blob), (b9, r40, ty_impl_Store), (b_4, x_5, ty_impl_Store), (b_8, x_9, ty_impl_Key), (b3, x1, ty_laws_Blob), (b2, x0, ty_laws_Store)] ++ (L_113 ++ (L_22 ++ (L_20 ++ (L_28 ++ (L_26 ++ (L_24 ++ (L_6 ++ ([]))))))))) := h
      refine r_chk1 ?_ ?_
      · exact ldOk_blk h 8 rfl (a1.sz)
      refine r_call h (c_toBlobV (a1.rd.at h) (by omega)) fun r115 _ _ _ ⟨L_115, hL, hO_116⟩ => ?_
      have h := (h.join hL).rot
      have h : At w _ ([(b18, Array.replicate 32 (.int .u8 0), ty_impl_Key), (b17, #[(.slice none 0 0)], ty_impl_Store), (b12, r46.2.1, ty_impl_Key), (b11, r46.1, ty_impl_Store), (b10, r42, ty_impl_Blob), (b9, r40, ty_impl_Store), (b_4, x_5, ty_impl_Store), (b_8, x_9, ty_impl_Key), (b3, x1, ty_laws_Blob), (b2, x0, ty_laws_Store)] ++ (L_115 ++ (L_113 ++ (L_22 ++ (L_20 ++ (L_28 ++ (L_26 ++ (L_24 ++ (L_6 ++ ([])))))))))) := h
      refine r_call h (c_impl_PutBlob (hO_114.rd h.pl2) (hO_116.rd h.pl1) (by omega) (by omega)) fun r116 _ h2 _ ⟨L_117, hL, hO_118, hc_119, hc_120⟩ => ?_
      have h := (h.join hL).rot
      have hc_119 : RdKey w r116.2.1 (putBAns d0 d1).2.1 := hc_119
      have h : At w _ ([(b18, Array.replicate 32 (.int .u8 0), ty_impl_Key), (b17, #[(.slice none 0 0)], ty_impl_Store), (b12, r46.2.1, ty_impl_Key), (b11, r46.1, ty_impl_Store), (b10, r42, ty_impl_Blob), (b9, r40, ty_impl_Store), (b_4, x_5, ty_impl_Store), (b_8, x_9, ty_impl_Key), (b3, x1, ty_laws_Blob), (b2, x0, ty_laws_Store)] ++ (L_117 ++ (L_115 ++ (L_113 ++ (L_22 ++ (L_20 ++ (L_28 ++ (L_26 ++ (L_24 ++ (L_6 ++ ([]))))))))))) := h
      refine r_stA h 1 rfl rfl (hO_118.sz) (rfl) (hO_118.one) fun _ h => ?_
      have h : At w _ ([(b18, Array.replicate 32 (.int .u8 0), ty_impl_Key), (b17, r116.1, ty_impl_Store), (b12, r46.2.1, ty_impl_Key), (b11, r46.1, ty_impl_Store), (b10, r42, ty_impl_Blob), (b9, r40, ty_impl_Store), (b_4, x_5, ty_impl_Store), (b_8, x_9, ty_impl_Key), (b3, x1, ty_laws_Blob), (b2, x0, ty_laws_Store)] ++ (L_117 ++ (L_115 ++ (L_113 ++ (L_22 ++ (L_20 ++ (L_28 ++ (L_26 ++ (L_24 ++ (L_6 ++ ([]))))))))))) := h
      refine r_stA h 0 rfl rfl (hc_119.sz) (rfl) (hc_119.one) fun _ h => ?_
      have h : At w _ ([(b18, r116.2.1, ty_impl_Key), (b17, r116.1, ty_impl_Store), (b12, r46.2.1, ty_impl_Key), (b11, r46.1, ty_impl_Store), (b10, r42, ty_impl_Blob), (b9, r40, ty_impl_Store), (b_4, x_5, ty_impl_Store), (b_8, x_9, ty_impl_Key), (b3, x1, ty_laws_Blob), (b2, x0, ty_laws_Store)] ++ (L_117 ++ (L_115 ++ (L_113 ++ (L_22 ++ (L_20 ++ (L_28 ++ (L_26 ++ (L_24 ++ (L_6 ++ ([]))))))))))) := h
      have h := h.dr2
      have h := h.dr2
      have h : At w _ ([(b18, r116.2.1, ty_impl_Key), (b17, r116.1, ty_impl_Store), (b12, r46.2.1, ty_impl_Key), (b11, r46.1, ty_impl_Store), (b10, r42, ty_impl_Blob), (b9, r40, ty_impl_Store), (b_4, x_5, ty_impl_Store), (b_8, x_9, ty_impl_Key), (b3, x1, ty_laws_Blob), (b2, x0, ty_laws_Store)] ++ (L_117 ++ (L_22 ++ (L_20 ++ (L_28 ++ (L_26 ++ (L_24 ++ (L_6 ++ ([]))))))))) := h
      have h := At.sw2 h
      have h : At w _ ([(b17, r116.1, ty_impl_Store), (b18, r116.2.1, ty_impl_Key), (b12, r46.2.1, ty_impl_Key), (b11, r46.1, ty_impl_Store), (b10, r42, ty_impl_Blob), (b9, r40, ty_impl_Store), (b_4, x_5, ty_impl_Store), (b_8, x_9, ty_impl_Key), (b3, x1, ty_laws_Blob), (b2, x0, ty_laws_Store)] ++ (L_117 ++ (L_22 ++ (L_20 ++ (L_28 ++ (L_26 ++ (L_24 ++ (L_6 ++ ([]))))))))) := h
      exact ⟨(⟨b17, 0, none⟩, ⟨b18, 0, none⟩, r116.2.2), rfl, b17, r116.1, L_117, b18, r116.2.1, rfl, hO_118, rfl, hc_119, hc_120, h⟩
    refine r_new h fun b18 _ h => ?_
    have h : At w _ ([(b18, Array.replicate 32 (.int .u8 0), ty_impl_Key), (b12, r46.2.1, ty_impl_Key), (b11, r46.1, ty_impl_Store), (b10, r42, ty_impl_Blob), (b9, r40, ty_impl_Store), (b_4, x_5, ty_impl_Store), (b_8, x_9, ty_impl_Key), (b3, x1, ty_laws_Blob), (b2, x0, ty_laws_Store)] ++ (L_22 ++ (L_20 ++ (L_28 ++ (L_26 ++ (L_24 ++ (L_6 ++ ([])))))))) := h
    refine r_chk2 ?_ ?_ ?_
    · exact ldOk_blk h 7 rfl (a1.sz)
    · exact ldOk_blk h 8 rfl (a0.sz)
    refine ⟨?_, ?_⟩
    ·
      skip
      refine r_call h (c_toStoreV (a0.rd.at h) (by omega)) fun r113 _ _ _ ⟨L_121, hL, hO_122⟩ => ?_
      have h := (h.join hL).rot
      have h : At w _ ([(b18, Array.replicate 32 (.int .u8 0), ty_impl_Key), (b12, r46.2.1, ty_impl_Key), (b11, r46.1, ty_impl_Store), (b10, r42, ty_impl_Blob), (b9, r40, ty_impl_Store), (b_4, x_5, ty_impl_Store), (b_8, x_9, ty_impl_Key), (b3, x1, ty_laws_Blob), (b2, x0, ty_laws_Store)] ++ (L_121 ++ (L_22 ++ (L_20 ++ (L_28 ++ (L_26 ++ (L_24 ++ (L_6 ++ ([]))))))))) := h
      refine r_chk1 ?_ ?_
      · exact ldOk_blk h 7 rfl (a1.sz)
      refine ⟨?_, ?_⟩
      ·
        skip
        refine r_call h (c_toBlobV (a1.rd.at h) (by omega)) fun r115 _ _ _ ⟨L_123, hL, hO_124⟩ => ?_
        have h := (h.join hL).rot
        have h : At w _ ([(b18, Array.replicate 32 (.int .u8 0), ty_impl_Key), (b12, r46.2.1, ty_impl_Key), (b11, r46.1, ty_impl_Store), (b10, r42, ty_impl_Blob), (b9, r40, ty_impl_Store), (b_4, x_5, ty_impl_Store), (b_8, x_9, ty_impl_Key), (b3, x1, ty_laws_Blob), (b2, x0, ty_laws_Store)] ++ (L_123 ++ (L_121 ++ (L_22 ++ (L_20 ++ (L_28 ++ (L_26 ++ (L_24 ++ (L_6 ++ ([])))))))))) := h
        refine ⟨?_, ?_⟩
        ·
          skip
          refine r_call h (c_impl_PutBlob (hO_122.rd h.pl2) (hO_124.rd h.pl1) (by omega) (by omega)) fun r116 _ h2 _ ⟨L_125, hL, hO_126, hc_127, hc_128⟩ => ?_
          have h := (h.join hL).rot
          have hc_127 : RdKey w r116.2.1 (putBAns d0 d1).2.1 := hc_127
          have h : At w _ ([(b18, Array.replicate 32 (.int .u8 0), ty_impl_Key), (b12, r46.2.1, ty_impl_Key), (b11, r46.1, ty_impl_Store), (b10, r42, ty_impl_Blob), (b9, r40, ty_impl_Store), (b_4, x_5, ty_impl_Store), (b_8, x_9, ty_impl_Key), (b3, x1, ty_laws_Blob), (b2, x0, ty_laws_Store)] ++ (L_125 ++ (L_123 ++ (L_121 ++ (L_22 ++ (L_20 ++ (L_28 ++ (L_26 ++ (L_24 ++ (L_6 ++ ([]))))))))))) := h
          refine r_new h fun b17 _ h => ?_
          have h : At w _ ([(b17, #[(.slice none 0 0)], ty_impl_Store), (b18, Array.replicate 32 (.int .u8 0), ty_impl_Key), (b12, r46.2.1, ty_impl_Key), (b11, r46.1, ty_impl_Store), (b10, r42, ty_impl_Blob), (b9, r40, ty_impl_Store), (b_4, x_5, ty_impl_Store), (b_8, x_9, ty_impl_Key), (b3, x1, ty_laws_Blob), (b2, x0, ty_laws_Store)] ++ (L_125 ++ (L_123 ++ (L_121 ++ (L_22 ++ (L_20 ++ (L_28 ++ (L_26 ++ (L_24 ++ (L_6 ++ ([]))))))))))) := h
          refine r_stA h 0 rfl rfl (hO_126.sz) (rfl) (hO_126.one) fun _ h => ?_
          have h : At w _ ([(b17, r116.1, ty_impl_Store), (b18, Array.replicate 32 (.int .u8 0), ty_impl_Key), (b12, r46.2.1, ty_impl_Key), (b11, r46.1, ty_impl_Store), (b10, r42, ty_impl_Blob), (b9, r40, ty_impl_Store), (b_4, x_5, ty_impl_Store), (b_8, x_9, ty_impl_Key), (b3, x1, ty_laws_Blob), (b2, x0, ty_laws_Store)] ++ (L_125 ++ (L_123 ++ (L_121 ++ (L_22 ++ (L_20 ++ (L_28 ++ (L_26 ++ (L_24 ++ (L_6 ++ ([]))))))))))) := h
          refine r_stA h 1 rfl rfl (hc_127.sz) (rfl) (hc_127.one) fun _ h => ?_
          have h : At w _ ([(b17, r116.1, ty_impl_Store), (b18, r116.2.1, ty_impl_Key), (b12, r46.2.1, ty_impl_Key), (b11, r46.1, ty_impl_Store), (b10, r42, ty_impl_Blob), (b9, r40, ty_impl_Store), (b_4, x_5, ty_impl_Store), (b_8, x_9, ty_impl_Key), (b3, x1, ty_laws_Blob), (b2, x0, ty_laws_Store)] ++ (L_125 ++ (L_123 ++ (L_121 ++ (L_22 ++ (L_20 ++ (L_28 ++ (L_26 ++ (L_24 ++ (L_6 ++ ([]))))))))))) := h
          have h := h.dr2
          have h := h.dr2
          have h : At w _ ([(b17, r116.1, ty_impl_Store), (b18, r116.2.1, ty_impl_Key), (b12, r46.2.1, ty_impl_Key), (b11, r46.1, ty_impl_Store), (b10, r42, ty_impl_Blob), (b9, r40, ty_impl_Store), (b_4, x_5, ty_impl_Store), (b_8, x_9, ty_impl_Key), (b3, x1, ty_laws_Blob), (b2, x0, ty_laws_Store)] ++ (L_125 ++ (L_22 ++ (L_20 ++ (L_28 ++ (L_26 ++ (L_24 ++ (L_6 ++ ([]))))))))) := h
          exact ⟨(⟨b17, 0, none⟩, ⟨b18, 0, none⟩, r116.2.2), rfl, b17, r116.1, L_125, b18, r116.2.1, rfl, hO_126, rfl, hc_127, hc_128, h⟩
        refine r_new h fun b17 _ h => ?_
        have h : At w _ ([(b17, #[(.slice none 0 0)], ty_impl_Store), (b18, Array.replicate 32 (.int .u8 0), ty_impl_Key), (b12, r46.2.1, ty_impl_Key), (b11, r46.1, ty_impl_Store), (b10, r42, ty_impl_Blob), (b9, r40, ty_impl_Store), (b_4, x_5, ty_impl_Store), (b_8, x_9, ty_impl_Key), (b3, x1, ty_laws_Blob), (b2, x0, ty_laws_Store)] ++ (L_123 ++ (L_121 ++ (L_22 ++ (L_20 ++ (L_28 ++ (L_26 ++ (L_24 ++ (L_6 ++ ([])))))))))) := h
        refine r_call h (c_impl_PutBlob (hO_122.rd h.pl2) (hO_124.rd h.pl1) (by omega) (by omega)) fun r116 _ h2 _ ⟨L_129, hL, hO_130, hc_131, hc_132⟩ => ?_
        have h := (h.join hL).rot
        have hc_131 : RdKey w r116.2.1 (putBAns d0 d1).2.1 := hc_131
        have h : At w _ ([(b17, #[(.slice none 0 0)], ty_impl_Store), (b18, Array.replicate 32 (.int .u8 0), ty_impl_Key), (b12, r46.2.1, ty_impl_Key), (b11, r46.1, ty_impl_Store), (b10, r42, ty_impl_Blob), (b9, r40, ty_impl_Store), (b_4, x_5, ty_impl_Store), (b_8, x_9, ty_impl_Key), (b3, x1, ty_laws_Blob), (b2, x0, ty_laws_Store)] ++ (L_129 ++ (L_123 ++ (L_121 ++ (L_22 ++ (L_20 ++ (L_28 ++ (L_26 ++ (L_24 ++ (L_6 ++ ([]))))))))))) := h
        refine r_stA h 0 rfl rfl (hO_130.sz) (rfl) (hO_130.one) fun _ h => ?_
        have h : At w _ ([(b17, r116.1, ty_impl_Store), (b18, Array.replicate 32 (.int .u8 0), ty_impl_Key), (b12, r46.2.1, ty_impl_Key), (b11, r46.1, ty_impl_Store), (b10, r42, ty_impl_Blob), (b9, r40, ty_impl_Store), (b_4, x_5, ty_impl_Store), (b_8, x_9, ty_impl_Key), (b3, x1, ty_laws_Blob), (b2, x0, ty_laws_Store)] ++ (L_129 ++ (L_123 ++ (L_121 ++ (L_22 ++ (L_20 ++ (L_28 ++ (L_26 ++ (L_24 ++ (L_6 ++ ([]))))))))))) := h
        refine r_stA h 1 rfl rfl (hc_131.sz) (rfl) (hc_131.one) fun _ h => ?_
        have h : At w _ ([(b17, r116.1, ty_impl_Store), (b18, r116.2.1, ty_impl_Key), (b12, r46.2.1, ty_impl_Key), (b11, r46.1, ty_impl_Store), (b10, r42, ty_impl_Blob), (b9, r40, ty_impl_Store), (b_4, x_5, ty_impl_Store), (b_8, x_9, ty_impl_Key), (b3, x1, ty_laws_Blob), (b2, x0, ty_laws_Store)] ++ (L_129 ++ (L_123 ++ (L_121 ++ (L_22 ++ (L_20 ++ (L_28 ++ (L_26 ++ (L_24 ++ (L_6 ++ ([]))))))))))) := h
        have h := h.dr2
        have h := h.dr2
        have h : At w _ ([(b17, r116.1, ty_impl_Store), (b18, r116.2.1, ty_impl_Key), (b12, r46.2.1, ty_impl_Key), (b11, r46.1, ty_impl_Store), (b10, r42, ty_impl_Blob), (b9, r40, ty_impl_Store), (b_4, x_5, ty_impl_Store), (b_8, x_9, ty_impl_Key), (b3, x1, ty_laws_Blob), (b2, x0, ty_laws_Store)] ++ (L_129 ++ (L_22 ++ (L_20 ++ (L_28 ++ (L_26 ++ (L_24 ++ (L_6 ++ ([]))))))))) := h
        exact ⟨(⟨b17, 0, none⟩, ⟨b18, 0, none⟩, r116.2.2), rfl, b17, r116.1, L_129, b18, r116.2.1, rfl, hO_130, rfl, hc_131, hc_132, h⟩
      refine r_new h fun b17 _ h => ?_
      have h : At w _ ([(b17, #[(.slice none 0 0)], ty_impl_Store), (b18, Array.replicate 32 (.int .u8 0), ty_impl_Key), (b12, r46.2.1, ty_impl_Key), (b11, r46.1, ty_impl_Store), (b10, r42, ty_impl_Blob), (b9, r40, ty_impl_Store), (b_4, x_5, ty_impl_Store), (b_8, x_9, ty_impl_Key), (b3, x1, ty_laws_Blob), (b2, x0, ty_laws_Store)] ++ (L_121 ++ (L_22 ++ (L_20 ++ (L_28 ++ (L_26 ++ (L_24 ++ (L_6 ++ ([]))))))))) := h
      refine r_chk1 ?_ ?_
      · exact ldOk_blk h 8 rfl (a1.sz)
      refine r_call h (c_toBlobV (a1.rd.at h) (by omega)) fun r115 _ _ _ ⟨L_133, hL, hO_134⟩ => ?_
      have h := (h.join hL).rot
      have h : At w _ ([(b17, #[(.slice none 0 0)], ty_impl_Store), (b18, Array.replicate 32 (.int .u8 0), ty_impl_Key), (b12, r46.2.1, ty_impl_Key), (b11, r46.1, ty_impl_Store), (b10, r42, ty_impl_Blob), (b9, r40, ty_impl_Store), (b_4, x_5, ty_impl_Store), (b_8, x_9, ty_impl_Key), (b3, x1, ty_laws_Blob), (b2, x0, ty_laws_Store)] ++ (L_133 ++ (L_121 ++ (L_22 ++ (L_20 ++ (L_28 ++ (L_26 ++ (L_24 ++ (L_6 ++ ([])))))))))) := h
      refine r_call h (c_impl_PutBlob (hO_122.rd h.pl2) (hO_134.rd h.pl1) (by omega) (by omega)) fun r116 _ h2 _ ⟨L_135, hL, hO_136, hc_137, hc_138⟩ => ?_
      have h := (h.join hL).rot
      have hc_137 : RdKey w r116.2.1 (putBAns d0 d1).2.1 := hc_137
      have h : At w _ ([(b17, #[(.slice none 0 0)], ty_impl_Store), (b18, Array.replicate 32 (.int .u8 0), ty_impl_Key), (b12, r46.2.1, ty_impl_Key), (b11, r46.1, ty_impl_Store), (b10, r42, ty_impl_Blob), (b9, r40, ty_impl_Store), (b_4, x_5, ty_impl_Store), (b_8, x_9, ty_impl_Key), (b3, x1, ty_laws_Blob), (b2, x0, ty_laws_Store)] ++ (L_135 ++ (L_133 ++ (L_121 ++ (L_22 ++ (L_20 ++ (L_28 ++ (L_26 ++ (L_24 ++ (L_6 ++ ([]))))))))))) := h
      refine r_stA h 0 rfl rfl (hO_136.sz) (rfl) (hO_136.one) fun _ h => ?_
      have h : At w _ ([(b17, r116.1, ty_impl_Store), (b18, Array.replicate 32 (.int .u8 0), ty_impl_Key), (b12, r46.2.1, ty_impl_Key), (b11, r46.1, ty_impl_Store), (b10, r42, ty_impl_Blob), (b9, r40, ty_impl_Store), (b_4, x_5, ty_impl_Store), (b_8, x_9, ty_impl_Key), (b3, x1, ty_laws_Blob), (b2, x0, ty_laws_Store)] ++ (L_135 ++ (L_133 ++ (L_121 ++ (L_22 ++ (L_20 ++ (L_28 ++ (L_26 ++ (L_24 ++ (L_6 ++ ([]))))))))))) := h
      refine r_stA h 1 rfl rfl (hc_137.sz) (rfl) (hc_137.one) fun _ h => ?_
      have h : At w _ ([(b17, r116.1, ty_impl_Store), (b18, r116.2.1, ty_impl_Key), (b12, r46.2.1, ty_impl_Key), (b11, r46.1, ty_impl_Store), (b10, r42, ty_impl_Blob), (b9, r40, ty_impl_Store), (b_4, x_5, ty_impl_Store), (b_8, x_9, ty_impl_Key), (b3, x1, ty_laws_Blob), (b2, x0, ty_laws_Store)] ++ (L_135 ++ (L_133 ++ (L_121 ++ (L_22 ++ (L_20 ++ (L_28 ++ (L_26 ++ (L_24 ++ (L_6 ++ ([]))))))))))) := h
      have h := h.dr2
      have h := h.dr2
      have h : At w _ ([(b17, r116.1, ty_impl_Store), (b18, r116.2.1, ty_impl_Key), (b12, r46.2.1, ty_impl_Key), (b11, r46.1, ty_impl_Store), (b10, r42, ty_impl_Blob), (b9, r40, ty_impl_Store), (b_4, x_5, ty_impl_Store), (b_8, x_9, ty_impl_Key), (b3, x1, ty_laws_Blob), (b2, x0, ty_laws_Store)] ++ (L_135 ++ (L_22 ++ (L_20 ++ (L_28 ++ (L_26 ++ (L_24 ++ (L_6 ++ ([]))))))))) := h
      exact ⟨(⟨b17, 0, none⟩, ⟨b18, 0, none⟩, r116.2.2), rfl, b17, r116.1, L_135, b18, r116.2.1, rfl, hO_136, rfl, hc_137, hc_138, h⟩
    refine r_new h fun b17 _ h => ?_
    have h : At w _ ([(b17, #[(.slice none 0 0)], ty_impl_Store), (b18, Array.replicate 32 (.int .u8 0), ty_impl_Key), (b12, r46.2.1, ty_impl_Key), (b11, r46.1, ty_impl_Store), (b10, r42, ty_impl_Blob), (b9, r40, ty_impl_Store), (b_4, x_5, ty_impl_Store), (b_8, x_9, ty_impl_Key), (b3, x1, ty_laws_Blob), (b2, x0, ty_laws_Store)] ++ (L_22 ++ (L_20 ++ (L_28 ++ (L_26 ++ (L_24 ++ (L_6 ++ ([])))))))) := h
    refine r_chk2 ?_ ?_ ?_
    · exact ldOk_blk h 8 rfl (a1.sz)
    · exact ldOk_blk h 9 rfl (a0.sz)
    refine r_call h (c_toStoreV (a0.rd.at h) (by omega)) fun r113 _ _ _ ⟨L_139, hL, hO_140⟩ => ?_
    have h := (h.join hL).rot
    have h : At w _ ([(b17, #[(.slice none 0 0)], ty_impl_Store), (b18, Array.replicate 32 (.int .u8 0), ty_impl_Key), (b12, r46.2.1, ty_impl_Key), (b11, r46.1, ty_impl_Store), (b10, r42, ty_impl_Blob), (b9, r40, ty_impl_Store), (b_4, x_5, ty_impl_Store), (b_8, x_9, ty_impl_Key), (b3, x1, ty_laws_Blob), (b2, x0, ty_laws_Store)] ++ (L_139 ++ (L_22 ++ (L_20 ++ (L_28 ++ (L_26 ++ (L_24 ++ (L_6 ++ ([]))))))))) := h
    refine r_chk1 ?_ ?_
    · exact ldOk_blk h 8 rfl (a1.sz)
    refine r_call h (c_toBlobV (a1.rd.at h) (by omega)) fun r115 _ _ _ ⟨L_141, hL, hO_142⟩ => ?_
    have h := (h.join hL).rot
    have h : At w _ ([(b17, #[(.slice none 0 0)], ty_impl_Store), (b18, Array.replicate 32 (.int .u8 0), ty_impl_Key), (b12, r46.2.1, ty_impl_Key), (b11, r46.1, ty_impl_Store), (b10, r42, ty_impl_Blob), (b9, r40, ty_impl_Store), (b_4, x_5, ty_impl_Store), (b_8, x_9, ty_impl_Key), (b3, x1, ty_laws_Blob), (b2, x0, ty_laws_Store)] ++ (L_141 ++ (L_139 ++ (L_22 ++ (L_20 ++ (L_28 ++ (L_26 ++ (L_24 ++ (L_6 ++ ([])))))))))) := h
    refine r_call h (c_impl_PutBlob (hO_140.rd h.pl2) (hO_142.rd h.pl1) (by omega) (by omega)) fun r116 _ h2 _ ⟨L_143, hL, hO_144, hc_145, hc_146⟩ => ?_
    have h := (h.join hL).rot
    have hc_145 : RdKey w r116.2.1 (putBAns d0 d1).2.1 := hc_145
    have h : At w _ ([(b17, #[(.slice none 0 0)], ty_impl_Store), (b18, Array.replicate 32 (.int .u8 0), ty_impl_Key), (b12, r46.2.1, ty_impl_Key), (b11, r46.1, ty_impl_Store), (b10, r42, ty_impl_Blob), (b9, r40, ty_impl_Store), (b_4, x_5, ty_impl_Store), (b_8, x_9, ty_impl_Key), (b3, x1, ty_laws_Blob), (b2, x0, ty_laws_Store)] ++ (L_143 ++ (L_141 ++ (L_139 ++ (L_22 ++ (L_20 ++ (L_28 ++ (L_26 ++ (L_24 ++ (L_6 ++ ([]))))))))))) := h
    refine r_stA h 0 rfl rfl (hO_144.sz) (rfl) (hO_144.one) fun _ h => ?_
    have h : At w _ ([(b17, r116.1, ty_impl_Store), (b18, Array.replicate 32 (.int .u8 0), ty_impl_Key), (b12, r46.2.1, ty_impl_Key), (b11, r46.1, ty_impl_Store), (b10, r42, ty_impl_Blob), (b9, r40, ty_impl_Store), (b_4, x_5, ty_impl_Store), (b_8, x_9, ty_impl_Key), (b3, x1, ty_laws_Blob), (b2, x0, ty_laws_Store)] ++ (L_143 ++ (L_141 ++ (L_139 ++ (L_22 ++ (L_20 ++ (L_28 ++ (L_26 ++ (L_24 ++ (L_6 ++ ([]))))))))))) := h
    refine r_stA h 1 rfl rfl (hc_145.sz) (rfl) (hc_145.one) fun _ h => ?_
    have h : At w _ ([(b17, r116.1, ty_impl_Store), (b18, r116.2.1, ty_impl_Key), (b12, r46.2.1, ty_impl_Key), (b11, r46.1, ty_impl_Store), (b10, r42, ty_impl_Blob), (b9, r40, ty_impl_Store), (b_4, x_5, ty_impl_Store), (b_8, x_9, ty_impl_Key), (b3, x1, ty_laws_Blob), (b2, x0, ty_laws_Store)] ++ (L_143 ++ (L_141 ++ (L_139 ++ (L_22 ++ (L_20 ++ (L_28 ++ (L_26 ++ (L_24 ++ (L_6 ++ ([]))))))))))) := h
    have h := h.dr2
    have h := h.dr2
    have h : At w _ ([(b17, r116.1, ty_impl_Store), (b18, r116.2.1, ty_impl_Key), (b12, r46.2.1, ty_impl_Key), (b11, r46.1, ty_impl_Store), (b10, r42, ty_impl_Blob), (b9, r40, ty_impl_Store), (b_4, x_5, ty_impl_Store), (b_8, x_9, ty_impl_Key), (b3, x1, ty_laws_Blob), (b2, x0, ty_laws_Store)] ++ (L_143 ++ (L_22 ++ (L_20 ++ (L_28 ++ (L_26 ++ (L_24 ++ (L_6 ++ ([]))))))))) := h
    exact ⟨(⟨b17, 0, none⟩, ⟨b18, 0, none⟩, r116.2.2), rfl, b17, r116.1, L_143, b18, r116.2.1, rfl, hO_144, rfl, hc_145, hc_146, h⟩
  refine r_draw h fun _ h => ?_
  refine r_ldA h 1 rfl rfl (a0.sz) ?_
  refine r_ldA h 0 rfl rfl (a1.sz) ?_
  refine ⟨?_, ?_⟩
  ·
    skip
    refine r_call h (c_toStoreV (a0.rd.at h) (by omega)) fun r32 _ _ _ ⟨L_147, hL, hO_148⟩ => ?_
    have h := (h.join hL).rot
    have h : At w _ ([(b3, x1, ty_laws_Blob), (b2, x0, ty_laws_Store)] ++ (L_147 ++ ([]))) := h
    refine r_chk1 ?_ ?_
    · exact ldOk_blk h 0 rfl (a1.sz)
    refine ⟨?_, ?_⟩
    ·
      skip
      refine r_call h (c_toBlobV (a1.rd.at h) (by omega)) fun r34 _ _ _ ⟨L_149, hL, hO_150⟩ => ?_
      have h := (h.join hL).rot
      have h : At w _ ([(b3, x1, ty_laws_Blob), (b2, x0, ty_laws_Store)] ++ (L_149 ++ (L_147 ++ ([])))) := h
      refine ⟨?_, ?_⟩
      ·
        skip
        refine r_call h (c_spec_PutBlob (hO_148.rd h.pl2) (hO_150.rd h.pl1) (by omega) (by omega)) fun r35 _ h2 _ ⟨L_151, hL, hO_152, hc_153, hc_154⟩ => ?_
        have h := (h.join hL).rot
        have hc_153 : RdKey w r35.2.1 (putBAns d0 d1).2.1 := hc_153
        have h : At w _ ([(b3, x1, ty_laws_Blob), (b2, x0, ty_laws_Store)] ++ (L_151 ++ (L_149 ++ (L_147 ++ ([]))))) := h
        refine ⟨?_, ?_⟩
        ·
          skip
          refine r_new h fun b6 _ h => ?_
          have h : At w _ ([(b6, #[(.slice none 0 0)], ty_impl_Store), (b3, x1, ty_laws_Blob), (b2, x0, ty_laws_Store)] ++ (L_151 ++ (L_149 ++ (L_147 ++ ([]))))) := h
          refine r_new h fun b7 _ h => ?_
          have h : At w _ ([(b7, Array.replicate 32 (.int .u8 0), ty_impl_Key), (b6, #[(.slice none 0 0)], ty_impl_Store), (b3, x1, ty_laws_Blob), (b2, x0, ty_laws_Store)] ++ (L_151 ++ (L_149 ++ (L_147 ++ ([]))))) := h
          refine r_stA h 1 rfl rfl (hO_152.sz) (rfl) (hO_152.one) fun _ h => ?_
          have h : At w _ ([(b7, Array.replicate 32 (.int .u8 0), ty_impl_Key), (b6, r35.1, ty_impl_Store), (b3, x1, ty_laws_Blob), (b2, x0, ty_laws_Store)] ++ (L_151 ++ (L_149 ++ (L_147 ++ ([]))))) := h
          refine r_stA h 0 rfl rfl (hc_153.sz) (rfl) (hc_153.one) fun _ h => ?_
          have h : At w _ ([(b7, r35.2.1, ty_impl_Key), (b6, r35.1, ty_impl_Store), (b3, x1, ty_laws_Blob), (b2, x0, ty_laws_Store)] ++ (L_151 ++ (L_149 ++ (L_147 ++ ([]))))) := h
          have h := h.dr2
          have h := h.dr2
          have h : At w _ ([(b7, r35.2.1, ty_impl_Key), (b6, r35.1, ty_impl_Store), (b3, x1, ty_laws_Blob), (b2, x0, ty_laws_Store)] ++ (L_151 ++ ([]))) := h
          have h := At.sw2 h
          have h : At w _ ([(b6, r35.1, ty_impl_Store), (b7, r35.2.1, ty_impl_Key), (b3, x1, ty_laws_Blob), (b2, x0, ty_laws_Store)] ++ (L_151 ++ ([]))) := h
          exact ⟨(⟨b6, 0, none⟩, ⟨b7, 0, none⟩, r35.2.2), rfl, b6, r35.1, L_151, b7, r35.2.1, rfl, hO_152, rfl, hc_153, hc_154, h⟩
        refine r_new h fun b7 _ h => ?_
        have h : At w _ ([(b7, Array.replicate 32 (.int .u8 0), ty_impl_Key), (b3, x1, ty_laws_Blob), (b2, x0, ty_laws_Store)] ++ (L_151 ++ (L_149 ++ (L_147 ++ ([]))))) := h
        refine r_new h fun b6 _ h => ?_
        have h : At w _ ([(b6, #[(.slice none 0 0)], ty_impl_Store), (b7, Array.replicate 32 (.int .u8 0), ty_impl_Key), (b3, x1, ty_laws_Blob), (b2, x0, ty_laws_Store)] ++ (L_151 ++ (L_149 ++ (L_147 ++ ([]))))) := h
        refine r_stA h 0 rfl rfl (hO_152.sz) (rfl) (hO_152.one) fun _ h => ?_
        have h : At w _ ([(b6, r35.1, ty_impl_Store), (b7, Array.replicate 32 (.int .u8 0), ty_impl_Key), (b3, x1, ty_laws_Blob), (b2, x0, ty_laws_Store)] ++ (L_151 ++ (L_149 ++ (L_147 ++ ([]))))) := h
        refine r_stA h 1 rfl rfl (hc_153.sz) (rfl) (hc_153.one) fun _ h => ?_
        have h : At w _ ([(b6, r35.1, ty_impl_Store), (b7, r35.2.1, ty_impl_Key), (b3, x1, ty_laws_Blob), (b2, x0, ty_laws_Store)] ++ (L_151 ++ (L_149 ++ (L_147 ++ ([]))))) := h
        have h := h.dr2
        have h := h.dr2
        have h : At w _ ([(b6, r35.1, ty_impl_Store), (b7, r35.2.1, ty_impl_Key), (b3, x1, ty_laws_Blob), (b2, x0, ty_laws_Store)] ++ (L_151 ++ ([]))) := h
        exact ⟨(⟨b6, 0, none⟩, ⟨b7, 0, none⟩, r35.2.2), rfl, b6, r35.1, L_151, b7, r35.2.1, rfl, hO_152, rfl, hc_153, hc_154, h⟩
      refine ⟨?_, ?_⟩
      ·
        skip
        refine r_new h fun b6 _ h => ?_
        have h : At w _ ([(b6, #[(.slice none 0 0)], ty_impl_Store), (b3, x1, ty_laws_Blob), (b2, x0, ty_laws_Store)] ++ (L_149 ++ (L_147 ++ ([])))) := h
        refine ⟨?_, ?_⟩
        ·
          skip
          refine r_call h (c_spec_PutBlob (hO_148.rd h.pl2) (hO_150.rd h.pl1) (by omega) (by omega)) fun r35 _ h2 _ ⟨L_155, hL, hO_156, hc_157, hc_158⟩ => ?_
          have h := (h.join hL).rot
          have hc_157 : RdKey w r35.2.1 (putBAns d0 d1).2.1 := hc_157
          have h : At w _ ([(b6, #[(.slice none 0 0)], ty_impl_Store), (b3, x1, ty_laws_Blob), (b2, x0, ty_laws_Store)] ++ (L_155 ++ (L_149 ++ (L_147 ++ ([]))))) := h
          refine r_new h fun b7 _ h => ?_
          have h : At w _ ([(b7, Array.replicate 32 (.int .u8 0), ty_impl_Key), (b6, #[(.slice none 0 0)], ty_impl_Store), (b3, x1, ty_laws_Blob), (b2, x0, ty_laws_Store)] ++ (L_155 ++ (L_149 ++ (L_147 ++ ([]))))) := h
          refine r_stA h 1 rfl rfl (hO_156.sz) (rfl) (hO_156.one) fun _ h => ?_
          have h : At w _ ([(b7, Array.replicate 32 (.int .u8 0), ty_impl_Key), (b6, r35.1, ty_impl_Store), (b3, x1, ty_laws_Blob), (b2, x0, ty_laws_Store)] ++ (L_155 ++ (L_149 ++ (L_147 ++ ([]))))) := h
          refine r_stA h 0 rfl rfl (hc_157.sz) (rfl) (hc_157.one) fun _ h => ?_
          have h : At w _ ([(b7, r35.2.1, ty_impl_Key), (b6, r35.1, ty_impl_Store), (b3, x1, ty_laws_Blob), (b2, x0, ty_laws_Store)] ++ (L_155 ++ (L_149 ++ (L_147 ++ ([]))))) := h
          have h := h.dr2
          have h := h.dr2
          have h : At w _ ([(b7, r35.2.1, ty_impl_Key), (b6, r35.1, ty_impl_Store), (b3, x1, ty_laws_Blob), (b2, x0, ty_laws_Store)] ++ (L_155 ++ ([]))) := h
          have h := At.sw2 h
          have h : At w _ ([(b6, r35.1, ty_impl_Store), (b7, r35.2.1, ty_impl_Key), (b3, x1, ty_laws_Blob), (b2, x0, ty_laws_Store)] ++ (L_155 ++ ([]))) := h
          exact ⟨(⟨b6, 0, none⟩, ⟨b7, 0, none⟩, r35.2.2), rfl, b6, r35.1, L_155, b7, r35.2.1, rfl, hO_156, rfl, hc_157, hc_158, h⟩
        refine r_new h fun b7 _ h => ?_
        have h : At w _ ([(b7, Array.replicate 32 (.int .u8 0), ty_impl_Key), (b6, #[(.slice none 0 0)], ty_impl_Store), (b3, x1, ty_laws_Blob), (b2, x0, ty_laws_Store)] ++ (L_149 ++ (L_147 ++ ([])))) := h
        refine r_call h (c_spec_PutBlob (hO_148.rd h.pl2) (hO_150.rd h.pl1) (by omega) (by omega)) fun r35 _ h2 _ ⟨L_159, hL, hO_160, hc_161, hc_162⟩ => ?_
        have h := (h.join hL).rot
        have hc_161 : RdKey w r35.2.1 (putBAns d0 d1).2.1 := hc_161
        have h : At w _ ([(b7, Array.replicate 32 (.int .u8 0), ty_impl_Key), (b6, #[(.slice none 0 0)], ty_impl_Store), (b3, x1, ty_laws_Blob), (b2, x0, ty_laws_Store)] ++ (L_159 ++ (L_149 ++ (L_147 ++ ([]))))) := h
        refine r_stA h 1 rfl rfl (hO_160.sz) (rfl) (hO_160.one) fun _ h => ?_
        have h : At w _ ([(b7, Array.replicate 32 (.int .u8 0), ty_impl_Key), (b6, r35.1, ty_impl_Store), (b3, x1, ty_laws_Blob), (b2, x0, ty_laws_Store)] ++ (L_159 ++ (L_149 ++ (L_147 ++ ([]))))) := h
        refine r_stA h 0 rfl rfl (hc_161.sz) (rfl) (hc_161.one) fun _ h => ?_
        have h : At w _ ([(b7, r35.2.1, ty_impl_Key), (b6, r35.1, ty_impl_Store), (b3, x1, ty_laws_Blob), (b2, x0, ty_laws_Store)] ++ (L_159 ++ (L_149 ++ (L_147 ++ ([]))))) := h
        have h := h.dr2
        have h := h.dr2
        have h : At w _ ([(b7, r35.2.1, ty_impl_Key), (b6, r35.1, ty_impl_Store), (b3, x1, ty_laws_Blob), (b2, x0, ty_laws_Store)] ++ (L_159 ++ ([]))) := h
        have h := At.sw2 h
        have h : At w _ ([(b6, r35.1, ty_impl_Store), (b7, r35.2.1, ty_impl_Key), (b3, x1, ty_laws_Blob), (b2, x0, ty_laws_Store)] ++ (L_159 ++ ([]))) := h
        exact ⟨(⟨b6, 0, none⟩, ⟨b7, 0, none⟩, r35.2.2), rfl, b6, r35.1, L_159, b7, r35.2.1, rfl, hO_160, rfl, hc_161, hc_162, h⟩
      refine r_new h fun b7 _ h => ?_
      have h : At w _ ([(b7, Array.replicate 32 (.int .u8 0), ty_impl_Key), (b3, x1, ty_laws_Blob), (b2, x0, ty_laws_Store)] ++ (L_149 ++ (L_147 ++ ([])))) := h
      refine ⟨?_, ?_⟩
      ·
        skip
        refine r_call h (c_spec_PutBlob (hO_148.rd h.pl2) (hO_150.rd h.pl1) (by omega) (by omega)) fun r35 _ h2 _ ⟨L_163, hL, hO_164, hc_165, hc_166⟩ => ?_
        have h := (h.join hL).rot
        have hc_165 : RdKey w r35.2.1 (putBAns d0 d1).2.1 := hc_165
        have h : At w _ ([(b7, Array.replicate 32 (.int .u8 0), ty_impl_Key), (b3, x1, ty_laws_Blob), (b2, x0, ty_laws_Store)] ++ (L_163 ++ (L_149 ++ (L_147 ++ ([]))))) := h
        refine r_new h fun b6 _ h => ?_
        have h : At w _ ([(b6, #[(.slice none 0 0)], ty_impl_Store), (b7, Array.replicate 32 (.int .u8 0), ty_impl_Key), (b3, x1, ty_laws_Blob), (b2, x0, ty_laws_Store)] ++ (L_163 ++ (L_149 ++ (L_147 ++ ([]))))) := h
        refine r_stA h 0 rfl rfl (hO_164.sz) (rfl) (hO_164.one) fun _ h => ?_
        have h : At w _ ([(b6, r35.1, ty_impl_Store), (b7, Array.replicate 32 (.int .u8 0), ty_impl_Key), (b3, x1, ty_laws_Blob), (b2, x0, ty_laws_Store)] ++ (L_163 ++ (L_149 ++ (L_147 ++ ([]))))) := h
        refine r_stA h 1 rfl rfl (hc_165.sz) (rfl) (hc_165.one) fun _ h => ?_
        have h : At w _ ([(b6, r35.1, ty_impl_Store), (b7, r35.2.1, ty_impl_Key), (b3, x1, ty_laws_Blob), (b2, x0, ty_laws_Store)] ++ (L_163 ++ (L_149 ++ (L_147 ++ ([]))))) := h
        have h := h.dr2
        have h := h.dr2
        have h : At w _ ([(b6, r35.1, ty_impl_Store), (b7, r35.2.1, ty_impl_Key), (b3, x1, ty_laws_Blob), (b2, x0, ty_laws_Store)] ++ (L_163 ++ ([]))) := h
        exact ⟨(⟨b6, 0, none⟩, ⟨b7, 0, none⟩, r35.2.2), rfl, b6, r35.1, L_163, b7, r35.2.1, rfl, hO_164, rfl, hc_165, hc_166, h⟩
      refine r_new h fun b6 _ h => ?_
      have h : At w _ ([(b6, #[(.slice none 0 0)], ty_impl_Store), (b7, Array.replicate 32 (.int .u8 0), ty_impl_Key), (b3, x1, ty_laws_Blob), (b2, x0, ty_laws_Store)] ++ (L_149 ++ (L_147 ++ ([])))) := h
      refine r_call h (c_spec_PutBlob (hO_148.rd h.pl2) (hO_150.rd h.pl1) (by omega) (by omega)) fun r35 _ h2 _ ⟨L_167, hL, hO_168, hc_169, hc_170⟩ => ?_
      have h := (h.join hL).rot
      have hc_169 : RdKey w r35.2.1 (putBAns d0 d1).2.1 := hc_169
      have h : At w _ ([(b6, #[(.slice none 0 0)], ty_impl_Store), (b7, Array.replicate 32 (.int .u8 0), ty_impl_Key), (b3, x1, ty_laws_Blob), (b2, x0, ty_laws_Store)] ++ (L_167 ++ (L_149 ++ (L_147 ++ ([]))))) := h
      refine r_stA h 0 rfl rfl (hO_168.sz) (rfl) (hO_168.one) fun _ h => ?_
      have h : At w _ ([(b6, r35.1, ty_impl_Store), (b7, Array.replicate 32 (.int .u8 0), ty_impl_Key), (b3, x1, ty_laws_Blob), (b2, x0, ty_laws_Store)] ++ (L_167 ++ (L_149 ++ (L_147 ++ ([]))))) := h
      refine r_stA h 1 rfl rfl (hc_169.sz) (rfl) (hc_169.one) fun _ h => ?_
      have h : At w _ ([(b6, r35.1, ty_impl_Store), (b7, r35.2.1, ty_impl_Key), (b3, x1, ty_laws_Blob), (b2, x0, ty_laws_Store)] ++ (L_167 ++ (L_149 ++ (L_147 ++ ([]))))) := h
      have h := h.dr2
      have h := h.dr2
      have h : At w _ ([(b6, r35.1, ty_impl_Store), (b7, r35.2.1, ty_impl_Key), (b3, x1, ty_laws_Blob), (b2, x0, ty_laws_Store)] ++ (L_167 ++ ([]))) := h
      exact ⟨(⟨b6, 0, none⟩, ⟨b7, 0, none⟩, r35.2.2), rfl, b6, r35.1, L_167, b7, r35.2.1, rfl, hO_168, rfl, hc_169, hc_170, h⟩
    refine ⟨?_, ?_⟩
    ·
      skip
      refine r_new h fun b6 _ h => ?_
      have h : At w _ ([(b6, #[(.slice none 0 0)], ty_impl_Store), (b3, x1, ty_laws_Blob), (b2, x0, ty_laws_Store)] ++ (L_147 ++ ([]))) := h
      refine r_chk1 ?_ ?_
      · exact ldOk_blk h 1 rfl (a1.sz)
      refine ⟨?_, ?_⟩
      ·
        skip
        refine r_call h (c_toBlobV (a1.rd.at h) (by omega)) fun r34 _ _ _ ⟨L_171, hL, hO_172⟩ => ?_
        have h := (h.join hL).rot
        have h : At w _ ([(b6, #[(.slice none 0 0)], ty_impl_Store), (b3, x1, ty_laws_Blob), (b2, x0, ty_laws_Store)] ++ (L_171 ++ (L_147 ++ ([])))) := h
        refine ⟨?_, ?_⟩
        ·
          skip
          refine r_call h (c_spec_PutBlob (hO_148.rd h.pl2) (hO_172.rd h.pl1) (by omega) (by omega)) fun r35 _ h2 _ ⟨L_173, hL, hO_174, hc_175, hc_176⟩ => ?_
          have h := (h.join hL).rot
          have hc_175 : RdKey w r35.2.1 (putBAns d0 d1).2.1 := hc_175
          have h : At w _ ([(b6, #[(.slice none 0 0)], ty_impl_Store), (b3, x1, ty_laws_Blob), (b2, x0, ty_laws_Store)] ++ (L_173 ++ (L_171 ++ (L_147 ++ ([]))))) := h
          refine r_new h fun b7 _ h => ?_
          have h : At w _ ([(b7, Array.replicate 32 (.int .u8 0), ty_impl_Key), (b6, #[(.slice none 0 0)], ty_impl_Store), (b3, x1, ty_laws_Blob), (b2, x0, ty_laws_Store)] ++ (L_173 ++ (L_171 ++ (L_147 ++ ([]))))) := h
          refine r_stA h 1 rfl rfl (hO_174.sz) (rfl) (hO_174.one) fun _ h => ?_
          have h : At w _ ([(b7, Array.replicate 32 (.int .u8 0), ty_impl_Key), (b6, r35.1, ty_impl_Store), (b3, x1, ty_laws_Blob), (b2, x0, ty_laws_Store)] ++ (L_173 ++ (L_171 ++ (L_147 ++ ([]))))) := h
          refine r_stA h 0 rfl rfl (hc_175.sz) (rfl) (hc_175.one) fun _ h => ?_
          have h : At w _ ([(b7, r35.2.1, ty_impl_Key), (b6, r35.1, ty_impl_Store), (b3, x1, ty_laws_Blob), (b2, x0, ty_laws_Store)] ++ (L_173 ++ (L_171 ++ (L_147 ++ ([]))))) := h
          have h := h.dr2
          have h := h.dr2
          have h : At w _ ([(b7, r35.2.1, ty_impl_Key), (b6, r35.1, ty_impl_Store), (b3, x1, ty_laws_Blob), (b2, x0, ty_laws_Store)] ++ (L_173 ++ ([]))) := h
          have h := At.sw2 h
          have h : At w _ ([(b6, r35.1, ty_impl_Store), (b7, r35.2.1, ty_impl_Key), (b3, x1, ty_laws_Blob), (b2, x0, ty_laws_Store)] ++ (L_173 ++ ([]))) := h
          exact ⟨(⟨b6, 0, none⟩, ⟨b7, 0, none⟩, r35.2.2), rfl, b6, r35.1, L_173, b7, r35.2.1, rfl, hO_174, rfl, hc_175, hc_176, h⟩
        refine r_new h fun b7 _ h => ?_
        have h : At w _ ([(b7, Array.replicate 32 (.int .u8 0), ty_impl_Key), (b6, #[(.slice none 0 0)], ty_impl_Store), (b3, x1, ty_laws_Blob), (b2, x0, ty_laws_Store)] ++ (L_171 ++ (L_147 ++ ([])))) := h
        refine r_call h (c_spec_PutBlob (hO_148.rd h.pl2) (hO_172.rd h.pl1) (by omega) (by omega)) fun r35 _ h2 _ ⟨L_177, hL, hO_178, hc_179, hc_180⟩ => ?_
        have h := (h.join hL).rot
        have hc_179 : RdKey w r35.2.1 (putBAns d0 d1).2.1 := hc_179
        have h : At w _ ([(b7, Array.replicate 32 (.int .u8 0), ty_impl_Key), (b6, #[(.slice none 0 0)], ty_impl_Store), (b3, x1, ty_laws_Blob), (b2, x0, ty_laws_Store)] ++ (L_177 ++ (L_171 ++ (L_147 ++ ([]))))) := h
        refine r_stA h 1 rfl rfl (hO_178.sz) (rfl) (hO_178.one) fun _ h => ?_
        have h : At w _ ([(b7, Array.replicate 32 (.int .u8 0), ty_impl_Key), (b6, r35.1, ty_impl_Store), (b3, x1, ty_laws_Blob), (b2, x0, ty_laws_Store)] ++ (L_177 ++ (L_171 ++ (L_147 ++ ([]))))) := h
        refine r_stA h 0 rfl rfl (hc_179.sz) (rfl) (hc_179.one) fun _ h => ?_
        have h : At w _ ([(b7, r35.2.1, ty_impl_Key), (b6, r35.1, ty_impl_Store), (b3, x1, ty_laws_Blob), (b2, x0, ty_laws_Store)] ++ (L_177 ++ (L_171 ++ (L_147 ++ ([]))))) := h
        have h := h.dr2
        have h := h.dr2
        have h : At w _ ([(b7, r35.2.1, ty_impl_Key), (b6, r35.1, ty_impl_Store), (b3, x1, ty_laws_Blob), (b2, x0, ty_laws_Store)] ++ (L_177 ++ ([]))) := h
        have h := At.sw2 h
        have h : At w _ ([(b6, r35.1, ty_impl_Store), (b7, r35.2.1, ty_impl_Key), (b3, x1, ty_laws_Blob), (b2, x0, ty_laws_Store)] ++ (L_177 ++ ([]))) := h
        exact ⟨(⟨b6, 0, none⟩, ⟨b7, 0, none⟩, r35.2.2), rfl, b6, r35.1, L_177, b7, r35.2.1, rfl, hO_178, rfl, hc_179, hc_180, h⟩
      refine r_new h fun b7 _ h => ?_
      have h : At w _ ([(b7, Array.replicate 32 (.int .u8 0), ty_impl_Key), (b6, #[(.slice none 0 0)], ty_impl_Store), (b3, x1, ty_laws_Blob), (b2, x0, ty_laws_Store)] ++ (L_147 ++ ([]))) := h
      refine r_chk1 ?_ ?_
      · exact ldOk_blk h 2 rfl (a1.sz)
      refine r_call h (c_toBlobV (a1.rd.at h) (by omega)) fun r34 _ _ _ ⟨L_181, hL, hO_182⟩ => ?_
      have h := (h.join hL).rot
      have h : At w _ ([(b7, Array.replicate 32 (.int .u8 0), ty_impl_Key), (b6, #[(.slice none 0 0)], ty_impl_Store), (b3, x1, ty_laws_Blob), (b2, x0, ty_laws_Store)] ++ (L_181 ++ (L_147 ++ ([])))) := h
      refine r_call h (c_spec_PutBlob (hO_148.rd h.pl2) (hO_182.rd h.pl1) (by omega) (by omega)) fun r35 _ h2 _ ⟨L_183, hL, hO_184, hc_185, hc_186⟩ => ?_
      have h := (h.join hL).rot
      have hc_185 : RdKey w r35.2.1 (putBAns d0 d1).2.1 := hc_185
      have h : At w _ ([(b7, Array.replicate 32 (.int .u8 0), ty_impl_Key), (b6, #[(.slice none 0 0)], ty_impl_Store), (b3, x1, ty_laws_Blob), (b2, x0, ty_laws_Store)] ++ (L_183 ++ (L_181 ++ (L_147 ++ ([]))))) := h
      refine r_stA h 1 rfl rfl (hO_184.sz) (rfl) (hO_184.one) fun _ h => ?_
      have h : At w _ ([(b7, Array.replicate 32 (.int .u8 0), ty_impl_Key), (b6, r35.1, ty_impl_Store), (b3, x1, ty_laws_Blob), (b2, x0, ty_laws_Store)] ++ (L_183 ++ (L_181 ++ (L_147 ++ ([]))))) := h
      refine r_stA h 0 rfl rfl (hc_185.sz) (rfl) (hc_185.one) fun _ h => ?_
      have h : At w _ ([(b7, r35.2.1, ty_impl_Key), (b6, r35.1, ty_impl_Store), (b3, x1, ty_laws_Blob), (b2, x0, ty_laws_Store)] ++ (L_183 ++ (L_181 ++ (L_147 ++ ([]))))) := h
      have h := h.dr2
      have h := h.dr2
      have h : At w _ ([(b7, r35.2.1, ty_impl_Key), (b6, r35.1, ty_impl_Store), (b3, x1, ty_laws_Blob), (b2, x0, ty_laws_Store)] ++ (L_183 ++ ([]))) := h
      have h := At.sw2 h
      have h : At w _ ([(b6, r35.1, ty_impl_Store), (b7, r35.2.1, ty_impl_Key), (b3, x1, ty_laws_Blob), (b2, x0, ty_laws_Store)] ++ (L_183 ++ ([]))) := h
      exact ⟨(⟨b6, 0, none⟩, ⟨b7, 0, none⟩, r35.2.2), rfl, b6, r35.1, L_183, b7, r35.2.1, rfl, hO_184, rfl, hc_185, hc_186, h⟩
    refine r_new h fun b7 _ h => ?_
    have h : At w _ ([(b7, Array.replicate 32 (.int .u8 0), ty_impl_Key), (b3, x1, ty_laws_Blob), (b2, x0, ty_laws_Store)] ++ (L_147 ++ ([]))) := h
    refine r_chk1 ?_ ?_
    · exact ldOk_blk h 1 rfl (a1.sz)
    refine ⟨?_, ?_⟩
    ·
      skip
      refine r_call h (c_toBlobV (a1.rd.at h) (by omega)) fun r34 _ _ _ ⟨L_187, hL, hO_188⟩ => ?_
      have h := (h.join hL).rot
      have h : At w _ ([(b7, Array.replicate 32 (.int .u8 0), ty_impl_Key), (b3, x1, ty_laws_Blob), (b2, x0, ty_laws_Store)] ++ (L_187 ++ (L_147 ++ ([])))) := h
      refine ⟨?_, ?_⟩
      ·
        skip
        refine r_call h (c_spec_PutBlob (hO_148.rd h.pl2) (hO_188.rd h.pl1) (by omega) (by omega)) fun r35 _ h2 _ ⟨L_189, hL, hO_190, hc_191, hc_192⟩ => ?_
        have h := (h.join hL).rot
        have hc_191 : RdKey w r35.2.1 (putBAns d0 d1).2.1 := hc_191
        have h : At w _ ([(b7, Array.replicate 32 (.int .u8 0), ty_impl_Key), (b3, x1, ty_laws_Blob), (b2, x0, ty_laws_Store)] ++ (L_189 ++ (L_187 ++ (L_147 ++ ([]))))) := h
        refine r_new h fun b6 _ h => ?_
        have h : At w _ ([(b6, #[(.slice none 0 0)], ty_impl_Store), (b7, Array.replicate 32 (.int .u8 0), ty_impl_Key), (b3, x1, ty_laws_Blob), (b2, x0, ty_laws_Store)] ++ (L_189 ++ (L_187 ++ (L_147 ++ ([]))))) := h
        refine r_stA h 0 rfl rfl (hO_190.sz) (rfl) (hO_190.one) fun _ h => ?_
        have h : At w _ ([(b6, r35.1, ty_impl_Store), (b7, Array.replicate 32 (.int .u8 0), ty_impl_Key), (b3, x1, ty_laws_Blob), (b2, x0, ty_laws_Store)] ++ (L_189 ++ (L_187 ++ (L_147 ++ ([]))))) := h
        refine r_stA h 1 rfl rfl (hc_191.sz) (rfl) (hc_191.one) fun _ h => ?_
        have h : At w _ ([(b6, r35.1, ty_impl_Store), (b7, r35.2.1, ty_impl_Key), (b3, x1, ty_laws_Blob), (b2, x0, ty_laws_Store)] ++ (L_189 ++ (L_187 ++ (L_147 ++ ([]))))) := h
        have h := h.dr2
        have h := h.dr2
        have h : At w _ ([(b6, r35.1, ty_impl_Store), (b7, r35.2.1, ty_impl_Key), (b3, x1, ty_laws_Blob), (b2, x0, ty_laws_Store)] ++ (L_189 ++ ([]))) := h
        exact ⟨(⟨b6, 0, none⟩, ⟨b7, 0, none⟩, r35.2.2), rfl, b6, r35.1, L_189, b7, r35.2.1, rfl, hO_190, rfl, hc_191, hc_192, h⟩
      refine r_new h fun b6 _ h => ?_
      have h : At w _ ([(b6, #[(.slice none 0 0)], ty_impl_Store), (b7, Array.replicate 32 (.int .u8 0), ty_impl_Key), (b3, x1, ty_laws_Blob), (b2, x0, ty_laws_Store)] ++ (L_187 ++ (L_147 ++ ([])))) := h
      refine r_call h (c_spec_PutBlob (hO_148.rd h.pl2) (hO_188.rd h.pl1) (by omega) (by omega)) fun r35 _ h2 _ ⟨L_193, hL, hO_194, hc_195, hc_196⟩ => ?_
      have h := (h.join hL).rot
      have hc_195 : RdKey w r35.2.1 (putBAns d0 d1).2.1 := hc_195
      have h : At w _ ([(b6, #[(.slice none 0 0)], ty_impl_Store), (b7, Array.replicate 32 (.int .u8 0), ty_impl_Key), (b3, x1, ty_laws_Blob), (b2, x0, ty_laws_Store)] ++ (L_193 ++ (L_187 ++ (L_147 ++ ([]))))) := h
      refine r_stA h 0 rfl rfl (hO_194.sz) (rfl) (hO_194.one) fun _ h => ?_
      have h : At w _ ([(b6, r35.1, ty_impl_Store), (b7, Array.replicate 32 (.int .u8 0), ty_impl_Key), (b3, x1, ty_laws_Blob), (b2, x0, ty_laws_Store)] ++ (L_193 ++ (L_187 ++ (L_147 ++ ([]))))) := h
      refine r_stA h 1 rfl rfl (hc_195.sz) (rfl) (hc_195.one) fun _ h => ?_
      have h : At w _ ([(b6, r35.1, ty_impl_Store), (b7, r35.2.1, ty_impl_Key), (b3, x1, ty_laws_Blob), (b2, x0, ty_laws_Store)] ++ (L_193 ++ (L_187 ++ (L_147 ++ ([]))))) := h
      have h := h.dr2
      have h := h.dr2
      have h : At w _ ([(b6, r35.1, ty_impl_Store), (b7, r35.2.1, ty_impl_Key), (b3, x1, ty_laws_Blob), (b2, x0, ty_laws_Store)] ++ (L_193 ++ ([]))) := h
      exact ⟨(⟨b6, 0, none⟩, ⟨b7, 0, none⟩, r35.2.2), rfl, b6, r35.1, L_193, b7, r35.2.1, rfl, hO_194, rfl, hc_195, hc_196, h⟩
    refine r_new h fun b6 _ h => ?_
    have h : At w _ ([(b6, #[(.slice none 0 0)], ty_impl_Store), (b7, Array.replicate 32 (.int .u8 0), ty_impl_Key), (b3, x1, ty_laws_Blob), (b2, x0, ty_laws_Store)] ++ (L_147 ++ ([]))) := h
    refine r_chk1 ?_ ?_
    · exact ldOk_blk h 2 rfl (a1.sz)
    refine r_call h (c_toBlobV (a1.rd.at h) (by omega)) fun r34 _ _ _ ⟨L_197, hL, hO_198⟩ => ?_
    have h := (h.join hL).rot
    have h : At w _ ([(b6, #[(.slice none 0 0)], ty_impl_Store), (b7, Array.replicate 32 (.int .u8 0), ty_impl_Key), (b3, x1, ty_laws_Blob), (b2, x0, ty_laws_Store)] ++ (L_197 ++ (L_147 ++ ([])))) := h
    refine r_call h (c_spec_PutBlob (hO_148.rd h.pl2) (hO_198.rd h.pl1) (by omega) (by omega)) fun r35 _ h2 _ ⟨L_199, hL, hO_200, hc_201, hc_202⟩ => ?_
    have h := (h.join hL).rot
    have hc_201 : RdKey w r35.2.1 (putBAns d0 d1).2.1 := hc_201
    have h : At w _ ([(b6, #[(.slice none 0 0)], ty_impl_Store), (b7, Array.replicate 32 (.int .u8 0), ty_impl_Key), (b3, x1, ty_laws_Blob), (b2, x0, ty_laws_Store)] ++ (L_199 ++ (L_197 ++ (L_147 ++ ([]))))) := h
    refine r_stA h 0 rfl rfl (hO_200.sz) (rfl) (hO_200.one) fun _ h => ?_
    have h : At w _ ([(b6, r35.1, ty_impl_Store), (b7, Array.replicate 32 (.int .u8 0), ty_impl_Key), (b3, x1, ty_laws_Blob), (b2, x0, ty_laws_Store)] ++ (L_199 ++ (L_197 ++ (L_147 ++ ([]))))) := h
    refine r_stA h 1 rfl rfl (hc_201.sz) (rfl) (hc_201.one) fun _ h => ?_
    have h : At w _ ([(b6, r35.1, ty_impl_Store), (b7, r35.2.1, ty_impl_Key), (b3, x1, ty_laws_Blob), (b2, x0, ty_laws_Store)] ++ (L_199 ++ (L_197 ++ (L_147 ++ ([]))))) := h
    have h := h.dr2
    have h := h.dr2
    have h : At w _ ([(b6, r35.1, ty_impl_Store), (b7, r35.2.1, ty_impl_Key), (b3, x1, ty_laws_Blob), (b2, x0, ty_laws_Store)] ++ (L_199 ++ ([]))) := h
    exact ⟨(⟨b6, 0, none⟩, ⟨b7, 0, none⟩, r35.2.2), rfl, b6, r35.1, L_199, b7, r35.2.1, rfl, hO_200, rfl, hc_201, hc_202, h⟩
  refine ⟨?_, ?_⟩
  ·
    skip
    refine r_new h fun b6 _ h => ?_
    have h : At w _ ([(b6, #[(.slice none 0 0)], ty_impl_Store), (b3, x1, ty_laws_Blob), (b2, x0, ty_laws_Store)] ++ ([])) := h
    refine r_chk2 ?_ ?_ ?_
    · exact ldOk_blk h 1 rfl (a1.sz)
    · exact ldOk_blk h 2 rfl (a0.sz)
    refine ⟨?_, ?_⟩
    ·
      skip
      refine r_call h (c_toStoreV (a0.rd.at h) (by omega)) fun r32 _ _ _ ⟨L_203, hL, hO_204⟩ => ?_
      have h := (h.join hL).rot
      have h : At w _ ([(b6, #[(.slice none 0 0)], ty_impl_Store), (b3, x1, ty_laws_Blob), (b2, x0, ty_laws_Store)] ++ (L_203 ++ ([]))) := h
      refine r_chk1 ?_ ?_
      · exact ldOk_blk h 1 rfl (a1.sz)
      refine ⟨?_, ?_⟩
      ·
        skip
        refine r_call h (c_toBlobV (a1.rd.at h) (by omega)) fun r34 _ _ _ ⟨L_205, hL, hO_206⟩ => ?_
        have h := (h.join hL).rot
        have h : At w _ ([(b6, #[(.slice none 0 0)], ty_impl_Store), (b3, x1, ty_laws_Blob), (b2, x0, ty_laws_Store)] ++ (L_205 ++ (L_203 ++ ([])))) := h
        refine ⟨?_, ?_⟩
        ·
          skip
          refine r_call h (c_spec_PutBlob (hO_204.rd h.pl2) (hO_206.rd h.pl1) (by omega) (by omega)) fun r35 _ h2 _ ⟨L_207, hL, hO_208, hc_209, hc_210⟩ => ?_
          have h := (h.join hL).rot
          have hc_209 : RdKey w r35.2.1 (putBAns d0 d1).2.1 := hc_209
          have h : At w _ ([(b6, #[(.slice none 0 0)], ty_impl_Store), (b3, x1, ty_laws_Blob), (b2, x0, ty_laws_Store)] ++ (L_207 ++ (L_205 ++ (L_203 ++ ([]))))) := h
          refine r_new h fun b7 _ h => ?_
          have h : At w _ ([(b7, Array.replicate 32 (.int .u8 0), ty_impl_Key), (b6, #[(.slice none 0 0)], ty_impl_Store), (b3, x1, ty_laws_Blob), (b2, x0, ty_laws_Store)] ++ (L_207 ++ (L_205 ++ (L_203 ++ ([]))))) := h
          refine r_stA h 1 rfl rfl (hO_208.sz) (rfl) (hO_208.one) fun _ h => ?_
          have h : At w _ ([(b7, Array.replicate 32 (.int .u8 0), ty_impl_Key), (b6, r35.1, ty_impl_Store), (b3, x1, ty_laws_Blob), (b2, x0, ty_laws_Store)] ++ (L_207 ++ (L_205 ++ (L_203 ++ ([]))))) := h
          refine r_stA h 0 rfl rfl (hc_209.sz) (rfl) (hc_209.one) fun _ h => ?_
          have h : At w _ ([(b7, r35.2.1, ty_impl_Key), (b6, r35.1, ty_impl_Store), (b3, x1, ty_laws_Blob), (b2, x0, ty_laws_Store)] ++ (L_207 ++ (L_205 ++ (L_203 ++ ([]))))) := h
          have h := h.dr2
          have h := h.dr2
          have h : At w _ ([(b7, r35.2.1, ty_impl_Key), (b6, r35.1, ty_impl_Store), (b3, x1, ty_laws_Blob), (b2, x0, ty_laws_Store)] ++ (L_207 ++ ([]))) := h
          have h := At.sw2 h
          have h : At w _ ([(b6, r35.1, ty_impl_Store), (b7, r35.2.1, ty_impl_Key), (b3, x1, ty_laws_Blob), (b2, x0, ty_laws_Store)] ++ (L_207 ++ ([]))) := h
          exact ⟨(⟨b6, 0, none⟩, ⟨b7, 0, none⟩, r35.2.2), rfl, b6, r35.1, L_207, b7, r35.2.1, rfl, hO_208, rfl, hc_209, hc_210, h⟩
        refine r_new h fun b7 _ h => ?_
        have h : At w _ ([(b7, Array.replicate 32 (.int .u8 0), ty_impl_Key), (b6, #[(.slice none 0 0)], ty_impl_Store), (b3, x1, ty_laws_Blob), (b2, x0, ty_laws_Store)] ++ (L_205 ++ (L_203 ++ ([])))) := h
        refine r_call h (c_spec_PutBlob (hO_204.rd h.pl2) (hO_206.rd h.pl1) (by omega) (by omega)) fun r35 _ h2 _ ⟨L_211, hL, hO_212, hc_213, hc_214⟩ => ?_
        have h := (h.join hL).rot
        have hc_213 : RdKey w r35.2.1 (putBAns d0 d1).2.1 := hc_213
        have h : At w _ ([(b7, Array.replicate 32 (.int .u8 0), ty_impl_Key), (b6, #[(.slice none 0 0)], ty_impl_Store), (b3, x1, ty_laws_Blob), (b2, x0, ty_laws_Store)] ++ (L_211 ++ (L_205 ++ (L_203 ++ ([]))))) := h
        refine r_stA h 1 rfl rfl (hO_212.sz) (rfl) (hO_212.one) fun _ h => ?_
        have h : At w _ ([(b7, Array.replicate 32 (.int .u8 0), ty_impl_Key), (b6, r35.1, ty_impl_Store), (b3, x1, ty_laws_Blob), (b2, x0, ty_laws_Store)] ++ (L_211 ++ (L_205 ++ (L_203 ++ ([]))))) := h
        refine r_stA h 0 rfl rfl (hc_213.sz) (rfl) (hc_213.one) fun _ h => ?_
        have h : At w _ ([(b7, r35.2.1, ty_impl_Key), (b6, r35.1, ty_impl_Store), (b3, x1, ty_laws_Blob), (b2, x0, ty_laws_Store)] ++ (L_211 ++ (L_205 ++ (L_203 ++ ([]))))) := h
        have h := h.dr2
        have h := h.dr2
        have h : At w _ ([(b7, r35.2.1, ty_impl_Key), (b6, r35.1, ty_impl_Store), (b3, x1, ty_laws_Blob), (b2, x0, ty_laws_Store)] ++ (L_211 ++ ([]))) := h
        have h := At.sw2 h
        have h : At w _ ([(b6, r35.1, ty_impl_Store), (b7, r35.2.1, ty_impl_Key), (b3, x1, ty_laws_Blob), (b2, x0, ty_laws_Store)] ++ (L_211 ++ ([]))) := h
        exact ⟨(⟨b6, 0, none⟩, ⟨b7, 0, none⟩, r35.2.2), rfl, b6, r35.1, L_211, b7, r35.2.1, rfl, hO_212, rfl, hc_213, hc_214, h⟩
      refine r_new h fun b7 _ h => ?_
      have h : At w _ ([(b7, Array.replicate 32 (.int .u8 0), ty_impl_Key), (b6, #[(.slice none 0 0)], ty_impl_Store), (b3, x1, ty_laws_Blob), (b2, x0, ty_laws_Store)] ++ (L_203 ++ ([]))) := h
      refine r_chk1 ?_ ?_
      · exact ldOk_blk h 2 rfl (a1.sz)
      refine r_call h (c_toBlobV (a1.rd.at h) (by omega)) fun r34 _ _ _ ⟨L_215, hL, hO_216⟩ => ?_
      have h := (h.join hL).rot
      have h : At w _ ([(b7, Array.replicate 32 (.int .u8 0), ty_impl_Key), (b6, #[(.slice none 0 0)], ty_impl_Store), (b3, x1, ty_laws_Blob), (b2, x0, ty_laws_Store)] ++ (L_215 ++ (L_203 ++ ([])))) := h
      refine r_call h (c_spec_PutBlob (hO_204.rd h.pl2) (hO_216.rd h.pl1) (by omega) (by omega)) fun r35 _ h2 _ ⟨L_217, hL, hO_218, hc_219, hc_220⟩ => ?_
      have h := (h.join hL).rot
      have hc_219 : RdKey w r35.2.1 (putBAns d0 d1).2.1 := hc_219
      have h : At w _ ([(b7, Array.replicate 32 (.int .u8 0), ty_impl_Key), (b6, #[(.slice none 0 0)], ty_impl_Store), (b3, x1, ty_laws_Blob), (b2, x0, ty_laws_Store)] ++ (L_217 ++ (L_215 ++ (L_203 ++ ([]))))) := h
      refine r_stA h 1 rfl rfl (hO_218.sz) (rfl) (hO_218.one) fun _ h => ?_
      have h : At w _ ([(b7, Array.replicate 32 (.int .u8 0), ty_impl_Key), (b6, r35.1, ty_impl_Store), (b3, x1, ty_laws_Blob), (b2, x0, ty_laws_Store)] ++ (L_217 ++ (L_215 ++ (L_203 ++ ([]))))) := h
      refine r_stA h 0 rfl rfl (hc_219.sz) (rfl) (hc_219.one) fun _ h => ?_
      have h : At w _ ([(b7, r35.2.1, ty_impl_Key), (b6, r35.1, ty_impl_Store), (b3, x1, ty_laws_Blob), (b2, x0, ty_laws_Store)] ++ (L_217 ++ (L_215 ++ (L_203 ++ ([]))))) := h
      have h := h.dr2
      have h := h.dr2
      have h : At w _ ([(b7, r35.2.1, ty_impl_Key), (b6, r35.1, ty_impl_Store), (b3, x1, ty_laws_Blob), (b2, x0, ty_laws_Store)] ++ (L_217 ++ ([]))) := h
      have h := At.sw2 h
      have h : At w _ ([(b6, r35.1, ty_impl_Store), (b7, r35.2.1, ty_impl_Key), (b3, x1, ty_laws_Blob), (b2, x0, ty_laws_Store)] ++ (L_217 ++ ([]))) := h
      exact ⟨(⟨b6, 0, none⟩, ⟨b7, 0, none⟩, r35.2.2), rfl, b6, r35.1, L_217, b7, r35.2.1, rfl, hO_218, rfl, hc_219, hc_220, h⟩
    refine r_new h fun b7 _ h => ?_
    have h : At w _ ([(b7, Array.replicate 32 (.int .u8 0), ty_impl_Key), (b6, #[(.slice none 0 0)], ty_impl_Store), (b3, x1, ty_laws_Blob), (b2, x0, ty_laws_Store)] ++ ([])) := h
    refine r_chk2 ?_ ?_ ?_
    · exact ldOk_blk h 2 rfl (a1.sz)
    · exact ldOk_blk h 3 rfl (a0.sz)
    refine r_call h (c_toStoreV (a0.rd.at h) (by omega)) fun r32 _ _ _ ⟨L_221, hL, hO_222⟩ => ?_
    have h := (h.join hL).rot
    have h : At w _ ([(b7, Array.replicate 32 (.int .u8 0), ty_impl_Key), (b6, #[(.slice none 0 0)], ty_impl_Store), (b3, x1, ty_laws_Blob), (b2, x0, ty_laws_Store)] ++ (L_221 ++ ([]))) := h
    refine r_chk1 ?_ ?_
    · exact ldOk_blk h 2 rfl (a1.sz)
    refine r_call h (c_toBlobV (a1.rd.at h) (by omega)) fun r34 _ _ _ ⟨L_223, hL, hO_224⟩ => ?_
    have h := (h.join hL).rot
    have h : At w _ ([(b7, Array.replicate 32 (.int .u8 0), ty_impl_Key), (b6, #[(.slice none 0 0)], ty_impl_Store), (b3, x1, ty_laws_Blob), (b2, x0, ty_laws_Store)] ++ (L_223 ++ (L_221 ++ ([])))) := h
    refine r_call h (c_spec_PutBlob (hO_222.rd h.pl2) (hO_224.rd h.pl1) (by omega) (by omega)) fun r35 _ h2 _ ⟨L_225, hL, hO_226, hc_227, hc_228⟩ => ?_
    have h := (h.join hL).rot
    have hc_227 : RdKey w r35.2.1 (putBAns d0 d1).2.1 := hc_227
    have h : At w _ ([(b7, Array.replicate 32 (.int .u8 0), ty_impl_Key), (b6, #[(.slice none 0 0)], ty_impl_Store), (b3, x1, ty_laws_Blob), (b2, x0, ty_laws_Store)] ++ (L_225 ++ (L_223 ++ (L_221 ++ ([]))))) := h
    refine r_stA h 1 rfl rfl (hO_226.sz) (rfl) (hO_226.one) fun _ h => ?_
    have h : At w _ ([(b7, Array.replicate 32 (.int .u8 0), ty_impl_Key), (b6, r35.1, ty_impl_Store), (b3, x1, ty_laws_Blob), (b2, x0, ty_laws_Store)] ++ (L_225 ++ (L_223 ++ (L_221 ++ ([]))))) := h
    refine r_stA h 0 rfl rfl (hc_227.sz) (rfl) (hc_227.one) fun _ h => ?_
    have h : At w _ ([(b7, r35.2.1, ty_impl_Key), (b6, r35.1, ty_impl_Store), (b3, x1, ty_laws_Blob), (b2, x0, ty_laws_Store)] ++ (L_225 ++ (L_223 ++ (L_221 ++ ([]))))) := h
    have h := h.dr2
    have h := h.dr2
    have h : At w _ ([(b7, r35.2.1, ty_impl_Key), (b6, r35.1, ty_impl_Store), (b3, x1, ty_laws_Blob), (b2, x0, ty_laws_Store)] ++ (L_225 ++ ([]))) := h
    have h := At.sw2 h
    have h : At w _ ([(b6, r35.1, ty_impl_Store), (b7, r35.2.1, ty_impl_Key), (b3, x1, ty_laws_Blob), (b2, x0, ty_laws_Store)] ++ (L_225 ++ ([]))) := h
    exact ⟨(⟨b6, 0, none⟩, ⟨b7, 0, none⟩, r35.2.2), rfl, b6, r35.1, L_225, b7, r35.2.1, rfl, hO_226, rfl, hc_227, hc_228, h⟩
  refine r_new h fun b7 _ h => ?_
  have h : At w _ ([(b7, Array.replicate 32 (.int .u8 0), ty_impl_Key), (b3, x1, ty_laws_Blob), (b2, x0, ty_laws_Store)] ++ ([])) := h
  refine r_chk2 ?_ ?_ ?_
  · exact ldOk_blk h 1 rfl (a1.sz)
  · exact ldOk_blk h 2 rfl (a0.sz)
  refine ⟨?_, ?_⟩
  ·
    skip
    refine r_call h (c_toStoreV (a0.rd.at h) (by omega)) fun r32 _ _ _ ⟨L_229, hL, hO_230⟩ => ?_
    have h := (h.join hL).rot
    have h : At w _ ([(b7, Array.replicate 32 (.int .u8 0), ty_impl_Key), (b3, x1, ty_laws_Blob), (b2, x0, ty_laws_Store)] ++ (L_229 ++ ([]))) := h
    refine r_chk1 ?_ ?_
    · exact ldOk_blk h 1 rfl (a1.sz)
    refine ⟨?_, ?_⟩
    ·
      skip
      refine r_call h (c_toBlobV (a1.rd.at h) (by omega)) fun r34 _ _ _ ⟨L_231, hL, hO_232⟩ => ?_
      have h := (h.join hL).rot
      have h : At w _ ([(b7, Array.replicate 32 (.int .u8 0), ty_impl_Key), (b3, x1, ty_laws_Blob), (b2, x0, ty_laws_Store)] ++ (L_231 ++ (L_229 ++ ([])))) := h
      refine ⟨?_, ?_⟩
      ·
        skip
        refine r_call h (c_spec_PutBlob (hO_230.rd h.pl2) (hO_232.rd h.pl1) (by omega) (by omega)) fun r35 _ h2 _ ⟨L_233, hL, hO_234, hc_235, hc_236⟩ => ?_
        have h := (h.join hL).rot
        have hc_235 : RdKey w r35.2.1 (putBAns d0 d1).2.1 := hc_235
        have h : At w _ ([(b7, Array.replicate 32 (.int .u8 0), ty_impl_Key), (b3, x1, ty_laws_Blob), (b2, x0, ty_laws_Store)] ++ (L_233 ++ (L_231 ++ (L_229 ++ ([]))))) := h
        refine r_new h fun b6 _ h => ?_
        have h : At w _ ([(b6, #[(.slice none 0 0)], ty_impl_Store), (b7, Array.replicate 32 (.int .u8 0), ty_impl_Key), (b3, x1, ty_laws_Blob), (b2, x0, ty_laws_Store)] ++ (L_233 ++ (L_231 ++ (L_229 ++ ([]))))) := h
        refine r_stA h 0 rfl rfl (hO_234.sz) (rfl) (hO_234.one) fun _ h => ?_
        have h : At w _ ([(b6, r35.1, ty_impl_Store), (b7, Array.replicate 32 (.int .u8 0), ty_impl_Key), (b3, x1, ty_laws_Blob), (b2, x0, ty_laws_Store)] ++ (L_233 ++ (L_231 ++ (L_229 ++ ([]))))) := h
        refine r_stA h 1 rfl rfl (hc_235.sz) (rfl) (hc_235.one) fun _ h => ?_
        have h : At w _ ([(b6, r35.1, ty_impl_Store), (b7, r35.2.1, ty_impl_Key), (b3, x1, ty_laws_Blob), (b2, x0, ty_laws_Store)] ++ (L_233 ++ (L_231 ++ (L_229 ++ ([]))))) := h
        have h := h.dr2
        have h := h.dr2
        have h : At w _ ([(b6, r35.1, ty_impl_Store), (b7, r35.2.1, ty_impl_Key), (b3, x1, ty_laws_Blob), (b2, x0, ty_laws_Store)] ++ (L_233 ++ ([]))) := h
        exact ⟨(⟨b6, 0, none⟩, ⟨b7, 0, none⟩, r35.2.2), rfl, b6, r35.1, L_233, b7, r35.2.1, rfl, hO_234, rfl, hc_235, hc_236, h⟩
      refine r_new h fun b6 _ h => ?_
      have h : At w _ ([(b6, #[(.slice none 0 0)], ty_impl_Store), (b7, Array.replicate 32 (.int .u8 0), ty_impl_Key), (b3, x1, ty_laws_Blob), (b2, x0, ty_laws_Store)] ++ (L_231 ++ (L_229 ++ ([])))) := h
      refine r_call h (c_spec_PutBlob (hO_230.rd h.pl2) (hO_232.rd h.pl1) (by omega) (by omega)) fun r35 _ h2 _ ⟨L_237, hL, hO_238, hc_239, hc_240⟩ => ?_
      have h := (h.join hL).rot
      have hc_239 : RdKey w r35.2.1 (putBAns d0 d1).2.1 := hc_239
      have h : At w _ ([(b6, #[(.slice none 0 0)], ty_impl_Store), (b7, Array.replicate 32 (.int .u8 0), ty_impl_Key), (b3, x1, ty_laws_Blob), (b2, x0, ty_laws_Store)] ++ (L_237 ++ (L_231 ++ (L_229 ++ ([]))))) := h
      refine r_stA h 0 rfl rfl (hO_238.sz) (rfl) (hO_238.one) fun _ h => ?_
      have h : At w _ ([(b6, r35.1, ty_impl_Store), (b7, Array.replicate 32 (.int .u8 0), ty_impl_Key), (b3, x1, ty_laws_Blob), (b2, x0, ty_laws_Store)] ++ (L_237 ++ (L_231 ++ (L_229 ++ ([]))))) := h
      refine r_stA h 1 rfl rfl (hc_239.sz) (rfl) (hc_239.one) fun _ h => ?_
      have h : At w _ ([(b6, r35.1, ty_impl_Store), (b7, r35.2.1, ty_impl_Key), (b3, x1, ty_laws_Blob), (b2, x0, ty_laws_Store)] ++ (L_237 ++ (L_231 ++ (L_229 ++ ([]))))) := h
      have h := h.dr2
      have h := h.dr2
      have h : At w _ ([(b6, r35.1, ty_impl_Store), (b7, r35.2.1, ty_impl_Key), (b3, x1, ty_laws_Blob), (b2, x0, ty_laws_Store)] ++ (L_237 ++ ([]))) := h
      exact ⟨(⟨b6, 0, none⟩, ⟨b7, 0, none⟩, r35.2.2), rfl, b6, r35.1, L_237, b7, r35.2.1, rfl, hO_238, rfl, hc_239, hc_240, h⟩
    refine r_new h fun b6 _ h => ?_
    have h : At w _ ([(b6, #[(.slice none 0 0)], ty_impl_Store), (b7, Array.replicate 32 (.int .u8 0), ty_impl_Key), (b3, x1, ty_laws_Blob), (b2, x0, ty_laws_Store)] ++ (L_229 ++ ([]))) := h
    refine r_chk1 ?_ ?_
    · exact ldOk_blk h 2 rfl (a1.sz)
    refine r_call h (c_toBlobV (a1.rd.at h) (by omega)) fun r34 _ _ _ ⟨L_241, hL, hO_242⟩ => ?_
    have h := (h.join hL).rot
    have h : At w _ ([(b6, #[(.slice none 0 0)], ty_impl_Store), (b7, Array.replicate 32 (.int .u8 0), ty_impl_Key), (b3, x1, ty_laws_Blob), (b2, x0, ty_laws_Store)] ++ (L_241 ++ (L_229 ++ ([])))) := h
    refine r_call h (c_spec_PutBlob (hO_230.rd h.pl2) (hO_242.rd h.pl1) (by omega) (by omega)) fun r35 _ h2 _ ⟨L_243, hL, hO_244, hc_245, hc_246⟩ => ?_
    have h := (h.join hL).rot
    have hc_245 : RdKey w r35.2.1 (putBAns d0 d1).2.1 := hc_245
    have h : At w _ ([(b6, #[(.slice none 0 0)], ty_impl_Store), (b7, Array.replicate 32 (.int .u8 0), ty_impl_Key), (b3, x1, ty_laws_Blob), (b2, x0, ty_laws_Store)] ++ (L_243 ++ (L_241 ++ (L_229 ++ ([]))))) := h
    refine r_stA h 0 rfl rfl (hO_244.sz) (rfl) (hO_244.one) fun _ h => ?_
    have h : At w _ ([(b6, r35.1, ty_impl_Store), (b7, Array.replicate 32 (.int .u8 0), ty_impl_Key), (b3, x1, ty_laws_Blob), (b2, x0, ty_laws_Store)] ++ (L_243 ++ (L_241 ++ (L_229 ++ ([]))))) := h
    refine r_stA h 1 rfl rfl (hc_245.sz) (rfl) (hc_245.one) fun _ h => ?_
    have h : At w _ ([(b6, r35.1, ty_impl_Store), (b7, r35.2.1, ty_impl_Key), (b3, x1, ty_laws_Blob), (b2, x0, ty_laws_Store)] ++ (L_243 ++ (L_241 ++ (L_229 ++ ([]))))) := h
    have h := h.dr2
    have h := h.dr2
    have h : At w _ ([(b6, r35.1, ty_impl_Store), (b7, r35.2.1, ty_impl_Key), (b3, x1, ty_laws_Blob), (b2, x0, ty_laws_Store)] ++ (L_243 ++ ([]))) := h
    exact ⟨(⟨b6, 0, none⟩, ⟨b7, 0, none⟩, r35.2.2), rfl, b6, r35.1, L_243, b7, r35.2.1, rfl, hO_244, rfl, hc_245, hc_246, h⟩
  refine r_new h fun b6 _ h => ?_
  have h : At w _ ([(b6, #[(.slice none 0 0)], ty_impl_Store), (b7, Array.replicate 32 (.int .u8 0), ty_impl_Key), (b3, x1, ty_laws_Blob), (b2, x0, ty_laws_Store)] ++ ([])) := h
  refine r_chk2 ?_ ?_ ?_
  · exact ldOk_blk h 2 rfl (a1.sz)
  · exact ldOk_blk h 3 rfl (a0.sz)
  refine r_call h (c_toStoreV (a0.rd.at h) (by omega)) fun r32 _ _ _ ⟨L_247, hL, hO_248⟩ => ?_
  have h := (h.join hL).rot
  have h : At w _ ([(b6, #[(.slice none 0 0)], ty_impl_Store), (b7, Array.replicate 32 (.int .u8 0), ty_impl_Key), (b3, x1, ty_laws_Blob), (b2, x0, ty_laws_Store)] ++ (L_247 ++ ([]))) := h
  refine r_chk1 ?_ ?_
  · exact ldOk_blk h 2 rfl (a1.sz)
  refine r_call h (c_toBlobV (a1.rd.at h) (by omega)) fun r34 _ _ _ ⟨L_249, hL, hO_250⟩ => ?_
  have h := (h.join hL).rot
  have h : At w _ ([(b6, #[(.slice none 0 0)], ty_impl_Store), (b7, Array.replicate 32 (.int .u8 0), ty_impl_Key), (b3, x1, ty_laws_Blob), (b2, x0, ty_laws_Store)] ++ (L_249 ++ (L_247 ++ ([])))) := h
  refine r_call h (c_spec_PutBlob (hO_248.rd h.pl2) (hO_250.rd h.pl1) (by omega) (by omega)) fun r35 _ h2 _ ⟨L_251, hL, hO_252, hc_253, hc_254⟩ => ?_
  have h := (h.join hL).rot
  have hc_253 : RdKey w r35.2.1 (putBAns d0 d1).2.1 := hc_253
  have h : At w _ ([(b6, #[(.slice none 0 0)], ty_impl_Store), (b7, Array.replicate 32 (.int .u8 0), ty_impl_Key), (b3, x1, ty_laws_Blob), (b2, x0, ty_laws_Store)] ++ (L_251 ++ (L_249 ++ (L_247 ++ ([]))))) := h
  refine r_stA h 0 rfl rfl (hO_252.sz) (rfl) (hO_252.one) fun _ h => ?_
  have h : At w _ ([(b6, r35.1, ty_impl_Store), (b7, Array.replicate 32 (.int .u8 0), ty_impl_Key), (b3, x1, ty_laws_Blob), (b2, x0, ty_laws_Store)] ++ (L_251 ++ (L_249 ++ (L_247 ++ ([]))))) := h
  refine r_stA h 1 rfl rfl (hc_253.sz) (rfl) (hc_253.one) fun _ h => ?_
  have h : At w _ ([(b6, r35.1, ty_impl_Store), (b7, r35.2.1, ty_impl_Key), (b3, x1, ty_laws_Blob), (b2, x0, ty_laws_Store)] ++ (L_251 ++ (L_249 ++ (L_247 ++ ([]))))) := h
  have h := h.dr2
  have h := h.dr2
  have h : At w _ ([(b6, r35.1, ty_impl_Store), (b7, r35.2.1, ty_impl_Key), (b3, x1, ty_laws_Blob), (b2, x0, ty_laws_Store)] ++ (L_251 ++ ([]))) := h
  exact ⟨(⟨b6, 0, none⟩, ⟨b7, 0, none⟩, r35.2.2), rfl, b6, r35.1, L_251, b7, r35.2.1, rfl, hO_252, rfl, hc_253, hc_254, h⟩)

set_option maxRecDepth 100000 in
theorem lifted_FnExactPutBlob (os : Os) (started : os.Started) (H : Type) (enc : TypeId × Value → H) :
    ReturnsInHanded {} Tryz.checked os 5 .any (Rows.fnExactPutBlobSpec.pre6 enc Tryz.prog Tryz.f5 Rows.fnExactPutBlobRow.domain false) (Rows.fnExactPutBlobSpec.post enc Tryz.prog Tryz.f5 false true false false) := by
  refine law_lifted (C := Tryz.checked) (tb := ty_bool) (by kernel_rfl) started (by kernel_rfl) Tryz.func5 (by kernel_rfl) (by kernel_rfl) (by kernel_rfl) (by kernel_rfl) rfl
    (fun ds hd => by
      rw [Tryz.params5] at hd
      match ds, hd with
      | [_, _], _ => exact ⟨rfl, rfl, rfl⟩)
    (ChangeSpec.witness6 (enc := enc) (C := Tryz.checked) false ⟨#[], #[.agg #[.slice none 0 0], .agg #[.int .u8 0, .slice none 0 0]], []⟩ 8 (by kernel_rfl) (by kernel_rfl) (by kernel_rfl) (by kernel_rfl)) ?_
  intro W base args ds p hval0 hA0
  have hval : ∀ (j : Nat) t v, Tryz.f5.params[j]? = some t → args[j]? = some v → Value.okWide Tryz.prog W .any base t v := hval0
  have hA : DataW.TrodAll enc Tryz.prog W 0 (fun _ => true) true Tryz.f5.params.toList args.toList ds p := hA0
  rw [Tryz.params5] at hA hval
  obtain ⟨v0, vs0, d0, ds0, p0, q0, hargs, rfl, rfl, h0, r0⟩ := ChangeShapes.trodAll_cons hA
  obtain ⟨v1, vs1, d1, ds1, p1, q1, rfl, rfl, rfl, h1, r1⟩ := ChangeShapes.trodAll_cons r0
  obtain ⟨rfl, rfl, rfl⟩ := ChangeShapes.trodAll_nil r1
  obtain rfl : args = #[v0, v1] := by cases args; simp_all
  obtain ⟨x0, D0, rfl, a0⟩ := open_Store (hval 0 _ _ rfl rfl) h0
  obtain ⟨x1, D1, rfl, a1⟩ := open_Blob (hval 1 _ _ rfl rfl) h1
  exact c_law_FnExactPutBlob a0 a1

theorem over_FnExactPutBlob : Rows.fnExactPutBlobRow.holds Tryz.pinned (OpenSpec.ofChange Rows.fnExactPutBlobSpec) :=
  OpenClaim.holds_of_wide 5 Tryz.f5 rfl rfl rfl rfl rfl rfl rfl ⟨rfl, rfl, rfl, rfl, rfl⟩ rfl rfl rfl rfl rfl (by kernel_rfl) Tryz.func5 (by kernel_rfl)
    (of_decide_eq_true (by kernel_rfl)) (by unfold Func.isWrapper; first | (rw [if_pos (by decide +kernel)]; kernel_rfl) | (rw [if_neg (by decide +kernel)]; exact ⟨rfl, rfl⟩))
    (fun os started H enc _ => lifted_FnExactPutBlob os started H enc)

/-- The given statement. -/
theorem fnExactPutBlob_holds : Rows.FnExactPutBlobSaid := over_FnExactPutBlob
#print axioms fnExactPutBlob_holds
end Go.Proofs.YtcebkinkbelcnaaGreat
