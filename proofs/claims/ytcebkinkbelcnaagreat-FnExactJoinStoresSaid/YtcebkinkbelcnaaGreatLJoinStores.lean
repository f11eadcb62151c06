/- For every input the law FnExactJoinStores returns true, and its arguments read behind the call as before it. Printed by lawgen.py. -/
import Derived.Test.YtcebkinkbelcnaaGreatS5
import Derived.Test.YtcebkinkbelcnaaGreatR1
import Derived.Test.YtcebkinkbelcnaaGreatRows
namespace Go.Proofs.YtcebkinkbelcnaaGreat
open Go.Sx Go.RowKit

theorem c_law_FnExactJoinStores {w : World} {x0 : Array Value} {d0 : List PB} (a0 : RawStore w x0 d0) {x1 : Array Value} {d1 : List PB} (a1 : RawStore w x1 d1) : Ret Tryz.prog n_laws_FnExactJoinStores [.agg x0, .agg x1] w [.bool] (fun r _ => r = true) := laws_FnExactJoinStores_calls _ _ (by
  unfold laws_FnExactJoinStores
  have h := At.refl w
  have hsz0 := joinAns_small d0 d1
  refine r_new h fun b2 _ h => ?_
  have h : At w _ ([(b2, x0, ty_laws_Store)] ++ ([])) := h
  refine r_new h fun b3 _ h => ?_
  have h : At w _ ([(b3, x1, ty_laws_Store), (b2, x0, ty_laws_Store)] ++ ([])) := h
  refine r_ldA h 1 rfl rfl (a0.sz) ?_
  refine r_call h (c_szStoreV a0 h.below (1048576) (by omega)) fun r19 _ h _ hr => ?_
  subst hr
  by_cases hz_1 : (sizeBs d0 : Int) ≤ 1048576
  rotate_left
  · rw [if_neg hz_1]
    exact r_true rfl (r_ret h.nil true rfl rfl)
  rw [if_pos hz_1]
  refine r_if (1048576 - (sizeBs d0 : Int) < 0) rfl (fun hh => by omega) (fun _ => ?_)
  refine r_ldA h 0 rfl rfl (a1.sz) ?_
  refine r_call h (c_szStoreV a1 h.below (1048576 - (sizeBs d0 : Int)) (by omega)) fun r24 _ h _ hr => ?_
  subst hr
  by_cases hz_2 : (sizeBs d1 : Int) ≤ 1048576 - (sizeBs d0 : Int)
  rotate_left
  · rw [if_neg hz_2]
    exact r_true rfl (r_ret h.nil true rfl rfl)
  rw [if_pos hz_2]
  refine r_if (1048576 - (sizeBs d0 : Int) - (sizeBs d1 : Int) < 0) rfl (fun hh => by omega) (fun _ => ?_)
  refine r_join (σ := Addr × Int) (fun s22 w' => ∃ (b_4 : Nat) (x_5 : Array Value) (L_6 : List Blk), s22.1 = (⟨b_4, 0, none⟩ : Addr) ∧ OwnStore x_5 (joinAns d0 d1).1 L_6 ∧ s22.2 = (joinAns d0 d1).2 ∧ At w w' ([(b_4, x_5, ty_impl_Store), (b3, x1, ty_laws_Store), (b2, x0, ty_laws_Store)] ++ (L_6 ++ ([])))) (fun s22 _ hJ => ?_) ?_
  ·
    skip
    obtain ⟨b_4, x_5, L_6, eb_4, hO_7, hc_8, h⟩ := hJ
    refine r_any fun _ => ?_
    rw [eb_4]
    refine r_ldA h 2 rfl rfl (a0.sz) ?_
    refine r_call h (c_toStoreV (a0.rd.at h) (by omega)) fun r36 _ _ _ ⟨L_9, hL, hO_10⟩ => ?_
    have h := (h.join hL).rot
    have h : At w _ ([(b_4, x_5, ty_impl_Store), (b3, x1, ty_laws_Store), (b2, x0, ty_laws_Store)] ++ (L_9 ++ (L_6 ++ ([])))) := h
    refine r_new h fun b8 _ h => ?_
    have h : At w _ ([(b8, #[(.slice none 0 0)], ty_impl_Store), (b_4, x_5, ty_impl_Store), (b3, x1, ty_laws_Store), (b2, x0, ty_laws_Store)] ++ (L_9 ++ (L_6 ++ ([])))) := h
    refine r_stA h 0 rfl rfl (hO_10.sz) (rfl) (hO_10.one) fun _ h => ?_
    have h : At w _ ([(b8, r36, ty_impl_Store), (b_4, x_5, ty_impl_Store), (b3, x1, ty_laws_Store), (b2, x0, ty_laws_Store)] ++ (L_9 ++ (L_6 ++ ([])))) := h
    refine r_ldA h 2 rfl rfl (a1.sz) ?_
    refine r_call h (c_toStoreV (a1.rd.at h) (by omega)) fun r38 _ _ _ ⟨L_11, hL, hO_12⟩ => ?_
    have h := (h.join hL).rot
    have h : At w _ ([(b8, r36, ty_impl_Store), (b_4, x_5, ty_impl_Store), (b3, x1, ty_laws_Store), (b2, x0, ty_laws_Store)] ++ (L_11 ++ (L_9 ++ (L_6 ++ ([]))))) := h
    refine r_new h fun b9 _ h => ?_
    have h : At w _ ([(b9, #[(.slice none 0 0)], ty_impl_Store), (b8, r36, ty_impl_Store), (b_4, x_5, ty_impl_Store), (b3, x1, ty_laws_Store), (b2, x0, ty_laws_Store)] ++ (L_11 ++ (L_9 ++ (L_6 ++ ([]))))) := h
    refine r_stA h 0 rfl rfl (hO_12.sz) (rfl) (hO_12.one) fun _ h => ?_
    have h : At w _ ([(b9, r38, ty_impl_Store), (b8, r36, ty_impl_Store), (b_4, x_5, ty_impl_Store), (b3, x1, ty_laws_Store), (b2, x0, ty_laws_Store)] ++ (L_11 ++ (L_9 ++ (L_6 ++ ([]))))) := h
    refine r_ldA h 1 rfl rfl (hO_10.sz) ?_
    refine r_ldA h 0 rfl rfl (hO_12.sz) ?_
    refine r_call h (c_impl_JoinStores (hO_10.rd h.pl2) (hO_12.rd h.pl1) (by omega) (by omega)) fun r42 _ h2 _ ⟨L_13, hL, hO_14, hc_15⟩ => ?_
    have h := (h.join hL).rot
    have h : At w _ ([(b9, r38, ty_impl_Store), (b8, r36, ty_impl_Store), (b_4, x_5, ty_impl_Store), (b3, x1, ty_laws_Store), (b2, x0, ty_laws_Store)] ++ (L_13 ++ (L_11 ++ (L_9 ++ (L_6 ++ ([])))))) := h
    refine r_new h fun b10 _ h => ?_
    have h : At w _ ([(b10, #[(.slice none 0 0)], ty_impl_Store), (b9, r38, ty_impl_Store), (b8, r36, ty_impl_Store), (b_4, x_5, ty_impl_Store), (b3, x1, ty_laws_Store), (b2, x0, ty_laws_Store)] ++ (L_13 ++ (L_11 ++ (L_9 ++ (L_6 ++ ([])))))) := h
    refine r_stA h 0 rfl rfl (hO_14.sz) (rfl) (hO_14.one) fun _ h => ?_
    have h : At w _ ([(b10, r42.1, ty_impl_Store), (b9, r38, ty_impl_Store), (b8, r36, ty_impl_Store), (b_4, x_5, ty_impl_Store), (b3, x1, ty_laws_Store), (b2, x0, ty_laws_Store)] ++ (L_13 ++ (L_11 ++ (L_9 ++ (L_6 ++ ([])))))) := h
    refine r_joinI ?_
    refine r_ldA h 0 rfl rfl (hO_14.sz) ?_
    refine r_ldA h 3 rfl rfl (hO_7.sz) ?_
    refine r_call h (c_eqStoreV (hO_14.rd h.pl1) (hO_7.rd h.pl4) (by omega)) fun r47 _ h _ hr => ?_
    subst hr
    refine r_false rfl ?_
    refine r_ne (fun hh => absurd (hc_15.trans hc_8.symm) hh) fun _ => ?_
    refine ⟨(), rfl, ?_⟩
    refine r_any fun _ => ?_
    try dsimp only
    refine r_joinI ?_
    refine r_draw h fun _ h => ?_
    refine r_ldA h 2 rfl rfl (hO_10.sz) ?_
    refine r_ldA h 5 rfl rfl (a0.sz) ?_
    refine r_call h (c_toStoreV (a0.rd.at h) (by omega)) fun r56 _ _ _ ⟨L_16, hL, hO_17⟩ => ?_
    have h := (h.join hL).rot
    have h : At w _ ([(b10, r42.1, ty_impl_Store), (b9, r38, ty_impl_Store), (b8, r36, ty_impl_Store), (b_4, x_5, ty_impl_Store), (b3, x1, ty_laws_Store), (b2, x0, ty_laws_Store)] ++ (L_16 ++ (L_13 ++ (L_11 ++ (L_9 ++ (L_6 ++ ([]))))))) := h
    refine r_chk1 ?_ ?_
    · exact ldOk_blk h 2 rfl (hO_10.sz)
    refine r_call h (c_eqStoreV (hO_10.rd h.pl4) (hO_17.rd h.pl1) (by omega)) fun r57 _ h _ hr => ?_
    subst hr
    refine r_false rfl ?_
    refine ⟨(), rfl, ?_⟩
    refine r_any fun _ => ?_
    try dsimp only
    refine r_joinI ?_
    refine r_draw h fun _ h => ?_
    refine r_ldA h 1 rfl rfl (hO_12.sz) ?_
    refine r_ldA h 4 rfl rfl (a1.sz) ?_
    refine r_call h (c_toStoreV (a1.rd.at h) (by omega)) fun r61 _ _ _ ⟨L_18, hL, hO_19⟩ => ?_
    have h := (h.join hL).rot
    have h : At w _ ([(b10, r42.1, ty_impl_Store), (b9, r38, ty_impl_Store), (b8, r36, ty_impl_Store), (b_4, x_5, ty_impl_Store), (b3, x1, ty_laws_Store), (b2, x0, ty_laws_Store)] ++ (L_18 ++ (L_16 ++ (L_13 ++ (L_11 ++ (L_9 ++ (L_6 ++ ([])))))))) := h
    refine r_chk1 ?_ ?_
    · exact ldOk_blk h 1 rfl (hO_12.sz)
    refine r_call h (c_eqStoreV (hO_12.rd h.pl4) (hO_19.rd h.pl1) (by omega)) fun r62 _ h _ hr => ?_
    subst hr
    refine r_false rfl ?_
    refine ⟨(), rfl, ?_⟩
    refine r_any fun _ => ?_
    try dsimp only
    refine r_ldA h 2 rfl rfl (hO_10.sz) ?_
    refine r_callR (c_markStoreV h.pl5 hO_10 (1) (by omega) (by omega)) ?_
    rintro _ _ ⟨rfl, L_20, h, hO_21⟩
    refine ⟨_, rfl, ?_⟩
    have h := h.ps5
    have h : At w _ ([(b10, r42.1, ty_impl_Store), (b9, r38, ty_impl_Store), (b8, r36, ty_impl_Store), (b_4, x_5, ty_impl_Store), (b3, x1, ty_laws_Store), (b2, x0, ty_laws_Store)] ++ (L_18 ++ (L_16 ++ (L_13 ++ (L_11 ++ (L_20 ++ (L_6 ++ ([])))))))) := h
    refine r_ldA h 1 rfl rfl (hO_12.sz) ?_
    refine r_callR (c_markStoreV h.pl4 hO_12 (1 + (sizeBs d0 : Int)) (by omega) (by omega)) ?_
    rintro _ _ ⟨rfl, L_22, h, hO_23⟩
    refine ⟨_, rfl, ?_⟩
    have h := h.ps4
    have h : At w _ ([(b10, r42.1, ty_impl_Store), (b9, r38, ty_impl_Store), (b8, r36, ty_impl_Store), (b_4, x_5, ty_impl_Store), (b3, x1, ty_laws_Store), (b2, x0, ty_laws_Store)] ++ (L_18 ++ (L_16 ++ (L_13 ++ (L_22 ++ (L_20 ++ (L_6 ++ ([])))))))) := h
    refine r_joinI ?_
    refine r_if (1 + (sizeBs d0 : Int) + (sizeBs d1 : Int) < 0) rfl (fun hh => by omega) (fun _ => ?_)
    refine r_ldA h 0 rfl rfl (hO_14.sz) ?_
    refine r_ldA h 3 rfl rfl (hO_7.sz) ?_
    refine r_call h (c_eqStoreV (hO_14.rd h.pl3) (hO_7.rd h.pl6) (by omega)) fun r75 _ h _ hr => ?_
    subst hr
    refine r_false rfl ?_
    refine r_ne (fun hh => absurd (hc_15.trans hc_8.symm) hh) fun _ => ?_
    refine ⟨(), rfl, ?_⟩
    refine r_any fun _ => ?_
    try dsimp only
    refine r_ldA h 0 rfl rfl (hO_14.sz) ?_
    refine r_callR (c_markStoreV h.pl3 hO_14 (1) (by omega) (by omega)) ?_
    rintro _ _ ⟨rfl, L_24, h, hO_25⟩
    refine ⟨_, rfl, ?_⟩
    have h := h.ps3
    have h : At w _ ([(b10, r42.1, ty_impl_Store), (b9, r38, ty_impl_Store), (b8, r36, ty_impl_Store), (b_4, x_5, ty_impl_Store), (b3, x1, ty_laws_Store), (b2, x0, ty_laws_Store)] ++ (L_18 ++ (L_16 ++ (L_24 ++ (L_22 ++ (L_20 ++ (L_6 ++ ([])))))))) := h
    refine r_ldA h 0 rfl rfl (hO_25.sz) ?_
    refine r_call h (c_heldStoreV (1) (hO_25.rd h.pl3) (by omega) (by omega)) fun r88 _ h _ hr => ?_
    subst hr
    refine r_if (1 + (sizeBs (joinAns d0 d1).1 : Int) < 0) rfl (fun hh => by omega) (fun _ => ?_)
    refine r_ne (fun hh => absurd rfl hh) fun _ => ?_
    refine r_join (σ := Addr × Int) (fun s74 w' => ∃ (b_27 : Nat) (x_28 : Array Value) (L_29 : List Blk), s74.1 = (⟨b_27, 0, none⟩ : Addr) ∧ OwnStore x_28 (joinAns d0 d1).1 L_29 ∧ s74.2 = (joinAns d0 d1).2 ∧ At w w' ([(b_27, x_28, ty_impl_Store), (b10, r42.1, ty_impl_Store), (b9, r38, ty_impl_Store), (b8, r36, ty_impl_Store), (b_4, x_5, ty_impl_Store), (b3, x1, ty_laws_Store), (b2, x0, ty_laws_Store)] ++ (L_29 ++ (L_18 ++ (L_16 ++ (L_24 ++ (L_22 ++ (L_20 ++ (L_6 ++ ([])))))))))) (fun s74 _ hJ => ?_) ?_
    ·
      skip
      obtain ⟨b_27, x_28, L_29, eb_27, hO_30, hc_31, h⟩ := hJ
      refine r_any fun _ => ?_
      rw [eb_27]
      refine r_joinI ?_
      refine r_ldA h 0 rfl rfl (hO_30.sz) ?_
      refine r_ldA h 4 rfl rfl (hO_7.sz) ?_
      refine r_call h (c_eqStoreV (hO_30.rd h.pl1) (hO_7.rd h.pl7) (by omega)) fun r104 _ h _ hr => ?_
      subst hr
      refine r_false rfl ?_
      refine r_ne (fun hh => absurd (hc_31.trans hc_8.symm) hh) fun _ => ?_
      refine ⟨(), rfl, ?_⟩
      refine r_any fun _ => ?_
      try dsimp only
      refine r_ldA h 1 rfl rfl (hO_25.sz) ?_
      refine r_call h (c_heldStoreV (1) (hO_25.rd h.pl4) (by omega) (by omega)) fun r113 _ h _ hr => ?_
      subst hr
      refine r_if (1 + (sizeBs (joinAns d0 d1).1 : Int) < 0) rfl (fun hh => by omega) (fun _ => ?_)
      refine r_ne (fun hh => absurd rfl hh) fun _ => ?_
      exact r_ret h.nil true rfl rfl
    refine r_draw h fun _ h => ?_
    refine r_ldA h 5 rfl rfl (a0.sz) ?_
    refine r_ldA h 4 rfl rfl (a1.sz) ?_
    refine ⟨?_, ?_⟩
    ·
      skip
      refine r_call h (c_toStoreV (a0.rd.at h) (by omega)) fun r96 _ _ _ ⟨L_32, hL, hO_33⟩ => ?_
      have h := (h.join hL).rot
      have h : At w _ ([(b10, r42.1, ty_impl_Store), (b9, r38, ty_impl_Store), (b8, r36, ty_impl_Store), (b_4, x_5, ty_impl_Store), (b3, x1, ty_laws_Store), (b2, x0, ty_laws_Store)] ++ (L_32 ++ (L_18 ++ (L_16 ++ (L_24 ++ (L_22 ++ (L_20 ++ (L_6 ++ ([]))))))))) := h
      refine r_chk1 ?_ ?_
      · exact ldOk_blk h 4 rfl (a1.sz)
      refine ⟨?_, ?_⟩
      ·
        skip
        refine r_call h (c_toStoreV (a1.rd.at h) (by omega)) fun r98 _ _ _ ⟨L_34, hL, hO_35⟩ => ?_
        have h := (h.join hL).rot
        have h : At w _ ([(b10, r42.1, ty_impl_Store), (b9, r38, ty_impl_Store), (b8, r36, ty_impl_Store), (b_4, x_5, ty_impl_Store), (b3, x1, ty_laws_Store), (b2, x0, ty_laws_Store)] ++ (L_34 ++ (L_32 ++ (L_18 ++ (L_16 ++ (L_24 ++ (L_22 ++ (L_20 ++ (L_6 ++ ([])))))))))) := h
        refine ⟨?_, ?_⟩
        ·
          skip
          refine r_call h (c_impl_JoinStores (hO_33.rd h.pl2) (hO_35.rd h.pl1) (by omega) (by omega)) fun r99 _ h2 _ ⟨L_36, hL, hO_37, hc_38⟩ => ?_
          have h := (h.join hL).rot
          have h : At w _ ([(b10, r42.1, ty_impl_Store), (b9, r38, ty_impl_Store), (b8, r36, ty_impl_Store), (b_4, x_5, ty_impl_Store), (b3, x1, ty_laws_Store), (b2, x0, ty_laws_Store)] ++ (L_36 ++ (L_34 ++ (L_32 ++ (L_18 ++ (L_16 ++ (L_24 ++ (L_22 ++ (L_20 ++ (L_6 ++ ([]))))))))))) := h
          refine r_new h fun b15 _ h => ?_
          have h : At w _ ([(b15, #[(.slice none 0 0)], ty_impl_Store), (b10, r42.1, ty_impl_Store), (b9, r38, ty_impl_Store), (b8, r36, ty_impl_Store), (b_4, x_5, ty_impl_Store), (b3, x1, ty_laws_Store), (b2, x0, ty_laws_Store)] ++ (L_36 ++ (L_34 ++ (L_32 ++ (L_18 ++ (L_16 ++ (L_24 ++ (L_22 ++ (L_20 ++ (L_6 ++ ([]))))))))))) := h
          refine r_stA h 0 rfl rfl (hO_37.sz) (rfl) (hO_37.one) fun _ h => ?_
          have h : At w _ ([(b15, r99.1, ty_impl_Store), (b10, r42.1, ty_impl_Store), (b9, r38, ty_impl_Store), (b8, r36, ty_impl_Store), (b_4, x_5, ty_impl_Store), (b3, x1, ty_laws_Store), (b2, x0, ty_laws_Store)] ++ (L_36 ++ (L_34 ++ (L_32 ++ (L_18 ++ (L_16 ++ (L_24 ++ (L_22 ++ (L_20 ++ (L_6 ++ ([]))))))))))) := h
          have h := h.dr2
          have h := h.dr2
          have h : At w _ ([(b15, r99.1, ty_impl_Store), (b10, r42.1, ty_impl_Store), (b9, r38, ty_impl_Store), (b8, r36, ty_impl_Store), (b_4, x_5, ty_impl_Store), (b3, x1, ty_laws_Store), (b2, x0, ty_laws_Store)] ++ (L_36 ++ (L_18 ++ (L_16 ++ (L_24 ++ (L_22 ++ (L_20 ++ (L_6 ++ ([]))))))))) := h
          exact ⟨(⟨b15, 0, none⟩, r99.2), rfl, b15, r99.1, L_36, rfl, hO_37, hc_38, h⟩
        refine r_new h fun b15 _ h => ?_
        have h : At w _ ([(b15, #[(.slice none 0 0)], ty_impl_Store), (b10, r42.1, ty_impl_Store), (b9, r38, ty_impl_Store), (b8, r36, ty_impl_Store), (b_4, x_5, ty_impl_Store), (b3, x1, ty_laws_Store), (b2, x0, ty_laws_Store)] ++ (L_34 ++ (L_32 ++ (L_18 ++ (L_16 ++ (L_24 ++ (L_22 ++ (L_20 ++ (L_6 ++ ([])))))))))) := h
        refine r_call h (c_impl_JoinStores (hO_33.rd h.pl2) (hO_35.rd h.pl1) (by omega) (by omega)) fun r99 _ h2 _ ⟨L_39, hL, hO_40, hc_41⟩ => ?_
        have h := (h.join hL).rot
        have h : At w _ ([(b15, #[(.slice none 0 0)], ty_impl_Store), (b10, r42.1, ty_impl_Store), (b9, r38, ty_impl_Store), (b8, r36, ty_impl_Store), (b_4, x_5, ty_impl_Store), (b3, x1, ty_laws_Store), (b2, x0, ty_laws_Store)] ++ (L_39 ++ (L_34 ++ (L_32 ++ (L_18 ++ (L_16 ++ (L_24 ++ (L_22 ++ (L_20 ++ (L_6 ++ ([]))))))))))) := h
        refine r_stA h 0 rfl rfl (hO_40.sz) (rfl) (hO_40.one) fun _ h => ?_
        have h : At w _ ([(b15, r99.1, ty_impl_Store), (b10, r42.1, ty_impl_Store), (b9, r38, ty_impl_Store), (b8, r36, ty_impl_Store), (b_4, x_5, ty_impl_Store), (b3, x1, ty_laws_Store), (b2, x0, ty_laws_Store)] ++ (L_39 ++ (L_34 ++ (L_32 ++ (L_18 ++ (L_16 ++ (L_24 ++ (L_22 ++ (L_20 ++ (L_6 ++ ([]))))))))))) := h
        have h := h.dr2
        have h := h.dr2
        have h : At w _ ([(b15, r99.1, ty_impl_Store), (b10, r42.1, ty_impl_Store), (b9, r38, ty_impl_Store), (b8, r36, ty_impl_Store), (b_4, x_5, ty_impl_Store), (b3, x1, ty_laws_Store), (b2, x0, ty_laws_Store)] ++ (L_39 ++ (L_18 ++ (L_16 ++ (L_24 ++ (L_22 ++ (L_20 ++ (L_6 ++ ([]))))))))) := h
        exact ⟨(⟨b15, 0, none⟩, r99.2), rfl, b15, r99.1, L_39, rfl, hO_40, hc_41, h⟩
      refine r_new h fun b15 _ h => ?_
      have h : At w _ ([(b15, #[(.slice none 0 0)], ty_impl_Store), (b10, r42.1, ty_impl_Store), (b9, r38, ty_impl_Store), (b8, r36, ty_impl_Store), (b_4, x_5, ty_impl_Store), (b3, x1, ty_laws_Store), (b2, x0, ty_laws_Store)] ++ (L_32 ++ (L_18 ++ (L_16 ++ (L_24 ++ (L_22 ++ (L_20 ++ (L_6 ++ ([]))))))))) := h
      refine r_chk1 ?_ ?_
      · exact ldOk_blk h 5 rfl (a1.sz)
      refine r_call h (c_toStoreV (a1.rd.at h) (by omega)) fun r98 _ _ _ ⟨L_42, hL, hO_43⟩ => ?_
      have h := (h.join hL).rot
      have h : At w _ ([(b15, #[(.slice none 0 0)], ty_impl_Store), (b10, r42.1, ty_impl_Store), (b9, r38, ty_impl_Store), (b8, r36, ty_impl_Store), (b_4, x_5, ty_impl_Store), (b3, x1, ty_laws_Store), (b2, x0, ty_laws_Store)] ++ (L_42 ++ (L_32 ++ (L_18 ++ (L_16 ++ (L_24 ++ (L_22 ++ (L_20 ++ (L_6 ++ ([])))))))))) := h
      refine r_call h (c_impl_JoinStores (hO_33.rd h.pl2) (hO_43.rd h.pl1) (by omega) (by omega)) fun r99 _ h2 _ ⟨L_44, hL, hO_45, hc_46⟩ => ?_
      have h := (h.join hL).rot
      have h : At w _ ([(b15, #[(.slice none 0 0)], ty_impl_Store), (b10, r42.1, ty_impl_Store), (b9, r38, ty_impl_Store), (b8, r36, ty_impl_Store), (b_4, x_5, ty_impl_Store), (b3, x1, ty_laws_Store), (b2, x0, ty_laws_Store)] ++ (L_44 ++ (L_42 ++ (L_32 ++ (L_18 ++ (L_16 ++ (L_24 ++ (L_22 ++ (L_20 ++ (L_6 ++ ([]))))))))))) := h
      refine r_stA h 0 rfl rfl (hO_45.sz) (rfl) (hO_45.one) fun _ h => ?_
      have h : At w _ ([(b15, r99.1, ty_impl_Store), (b10, r42.1, ty_impl_Store), (b9, r38, ty_impl_Store), (b8, r36, ty_impl_Store), (b_4, x_5, ty_impl_Store), (b3, x1, ty_laws_Store), (b2, x0, ty_laws_Store)] ++ (L_44 ++ (L_42 ++ (L_32 ++ (L_18 ++ (L_16 ++ (L_24 ++ (L_22 ++ (L_20 ++ (L_6 ++ ([]))))))))))) := h
      have h := h.dr2
      have h := h.dr2
      have h : At w _ ([(b15, r99.1, ty_impl_Store), (b10, r42.1, ty_impl_Store), (b9, r38, ty_impl_Store), (b8, r36, ty_impl_Store), (b_4, x_5, ty_impl_Store), (b3, x1, ty_laws_Store), (b2, x0, ty_laws_Store)] ++ (L_44 ++ (L_18 ++ (L_16 ++ (L_24 ++ (L_22 ++ (L_20 ++ (L_6 ++ ([]))))))))) := h
      exact ⟨(⟨b15, 0, none⟩, r99.2), rfl, b15, r99.1, L_44, rfl, hO_45, hc_46, h⟩
    refine r_new h fun b15 _ h => ?_
    have h : At w _ ([(b15, #[(.slice none 0 0)], ty_impl_Store), (b10, r42.1, ty_impl_Store), (b9, r38, ty_impl_Store), (b8, r36, ty_impl_Store), (b_4, x_5, ty_impl_Store), (b3, x1, ty_laws_Store), (b2, x0, ty_laws_Store)] ++ (L_18 ++ (L_16 ++ (L_24 ++ (L_22 ++ (L_20 ++ (L_6 ++ ([])))))))) := h
    refine r_chk2 ?_ ?_ ?_
    · exact ldOk_blk h 5 rfl (a1.sz)
    · exact ldOk_blk h 6 rfl (a0.sz)
    refine r_call h (c_toStoreV (a0.rd.at h) (by omega)) fun r96 _ _ _ ⟨L_47, hL, hO_48⟩ => ?_
    have h := (h.join hL).rot
    have h : At w _ ([(b15, #[(.slice none 0 0)], ty_impl_Store), (b10, r42.1, ty_impl_Store), (b9, r38, ty_impl_Store), (b8, r36, ty_impl_Store), (b_4, x_5, ty_impl_Store), (b3, x1, ty_laws_Store), (b2, x0, ty_laws_Store)] ++ (L_47 ++ (L_18 ++ (L_16 ++ (L_24 ++ (L_22 ++ (L_20 ++ (L_6 ++ ([]))))))))) := h
    refine r_chk1 ?_ ?_
    · exact ldOk_blk h 5 rfl (a1.sz)
    refine r_call h (c_toStoreV (a1.rd.at h) (by omega)) fun r98 _ _ _ ⟨L_49, hL, hO_50⟩ => ?_
    have h := (h.join hL).rot
    have h : At w _ ([(b15, #[(.slice none 0 0)], ty_impl_Store), (b10, r42.1, ty_impl_Store), (b9, r38, ty_impl_Store), (b8, r36, ty_impl_Store), (b_4, x_5, ty_impl_Store), (b3, x1, ty_laws_Store), (b2, x0, ty_laws_Store)] ++ (L_49 ++ (L_47 ++ (L_18 ++ (L_16 ++ (L_24 ++ (L_22 ++ (L_20 ++ (L_6 ++ ([])))))))))) := h
    refine r_call h (c_impl_JoinStores (hO_48.rd h.pl2) (hO_50.rd h.pl1) (by omega) (by omega)) fun r99 _ h2 _ ⟨L_51, hL, hO_52, hc_53⟩ => ?_
    have h := (h.join hL).rot
    have h : At w _ ([(b15, #[(.slice none 0 0)], ty_impl_Store), (b10, r42.1, ty_impl_Store), (b9, r38, ty_impl_Store), (b8, r36, ty_impl_Store), (b_4, x_5, ty_impl_Store), (b3, x1, ty_laws_Store), (b2, x0, ty_laws_Store)] ++ (L_51 ++ (L_49 ++ (L_47 ++ (L_18 ++ (L_16 ++ (L_24 ++ (L_22 ++ (L_20 ++ (L_6 ++ ([]))))))))))) := h
    refine r_stA h 0 rfl rfl (hO_52.sz) (rfl) (hO_52.one) fun _ h => ?_
    have h : At w _ ([(b15, r99.1, ty_impl_Store), (b10, r42.1, ty_impl_Store), (b9, r38, ty_impl_Store), (b8, r36, ty_impl_Store), (b_4, x_5, ty_impl_Store), (b3, x1, ty_laws_Store), (b2, x0, ty_laws_Store)] ++ (L_51 ++ (L_49 ++ (L_47 ++ (L_18 ++ (L_16 ++ (L_24 ++ (L_22 ++ (L_20 ++ (L_6 ++ ([]))))))))))) := h
    have h := h.dr2
    have h := h.dr2
    have h : At w _ ([(b15, r99.1, ty_impl_Store), (b10, r42.1, ty_impl_Store), (b9, r38, ty_impl_Store), (b8, r36, ty_impl_Store), (b_4, x_5, ty_impl_Store), (b3, x1, ty_laws_Store), (b2, x0, ty_laws_Store)] ++ (L_51 ++ (L_18 ++ (L_16 ++ (L_24 ++ (L_22 ++ (L_20 ++ (L_6 ++ ([]))))))))) := h
    exact ⟨(⟨b15, 0, none⟩, r99.2), rfl, b15, r99.1, L_51, rfl, hO_52, hc_53, h⟩
  refine r_draw h fun _ h => ?_
  refine r_ldA h 1 rfl rfl (a0.sz) ?_
  refine r_ldA h 0 rfl rfl (a1.sz) ?_
  refine ⟨?_, ?_⟩
  ·
    skip
    refine r_call h (c_toStoreV (a0.rd.at h) (by omega)) fun r29 _ _ _ ⟨L_54, hL, hO_55⟩ => ?_
    have h := (h.join hL).rot
    have h : At w _ ([(b3, x1, ty_laws_Store), (b2, x0, ty_laws_Store)] ++ (L_54 ++ ([]))) := h
    refine r_chk1 ?_ ?_
    · exact ldOk_blk h 0 rfl (a1.sz)
    refine ⟨?_, ?_⟩
    ·
      skip
      refine r_call h (c_toStoreV (a1.rd.at h) (by omega)) fun r31 _ _ _ ⟨L_56, hL, hO_57⟩ => ?_
      have h := (h.join hL).rot
      have h : At w _ ([(b3, x1, ty_laws_Store), (b2, x0, ty_laws_Store)] ++ (L_56 ++ (L_54 ++ ([])))) := h
      refine ⟨?_, ?_⟩
      ·
        skip
        refine r_call h (c_spec_JoinStores (hO_55.rd h.pl2) (hO_57.rd h.pl1) (by omega) (by omega)) fun r32 _ h2 _ ⟨L_58, hL, hO_59, hc_60⟩ => ?_
        have h := (h.join hL).rot
        have h : At w _ ([(b3, x1, ty_laws_Store), (b2, x0, ty_laws_Store)] ++ (L_58 ++ (L_56 ++ (L_54 ++ ([]))))) := h
        refine r_new h fun b6 _ h => ?_
        have h : At w _ ([(b6, #[(.slice none 0 0)], ty_impl_Store), (b3, x1, ty_laws_Store), (b2, x0, ty_laws_Store)] ++ (L_58 ++ (L_56 ++ (L_54 ++ ([]))))) := h
        refine r_stA h 0 rfl rfl (hO_59.sz) (rfl) (hO_59.one) fun _ h => ?_
        have h : At w _ ([(b6, r32.1, ty_impl_Store), (b3, x1, ty_laws_Store), (b2, x0, ty_laws_Store)] ++ (L_58 ++ (L_56 ++ (L_54 ++ ([]))))) := h
        have h := h.dr2
        have h := h.dr2
        have h : At w _ ([(b6, r32.1, ty_impl_Store), (b3, x1, ty_laws_Store), (b2, x0, ty_laws_Store)] ++ (L_58 ++ ([]))) := h
        exact ⟨(⟨b6, 0, none⟩, r32.2), rfl, b6, r32.1, L_58, rfl, hO_59, hc_60, h⟩
      refine r_new h fun b6 _ h => ?_
      have h : At w _ ([(b6, #[(.slice none 0 0)], ty_impl_Store), (b3, x1, ty_laws_Store), (b2, x0, ty_laws_Store)] ++ (L_56 ++ (L_54 ++ ([])))) := h
      refine r_call h (c_spec_JoinStores (hO_55.rd h.pl2) (hO_57.rd h.pl1) (by omega) (by omega)) fun r32 _ h2 _ ⟨L_61, hL, hO_62, hc_63⟩ => ?_
      have h := (h.join hL).rot
      have h : At w _ ([(b6, #[(.slice none 0 0)], ty_impl_Store), (b3, x1, ty_laws_Store), (b2, x0, ty_laws_Store)] ++ (L_61 ++ (L_56 ++ (L_54 ++ ([]))))) := h
      refine r_stA h 0 rfl rfl (hO_62.sz) (rfl) (hO_62.one) fun _ h => ?_
      have h : At w _ ([(b6, r32.1, ty_impl_Store), (b3, x1, ty_laws_Store), (b2, x0, ty_laws_Store)] ++ (L_61 ++ (L_56 ++ (L_54 ++ ([]))))) := h
      have h := h.dr2
      have h := h.dr2
      have h : At w _ ([(b6, r32.1, ty_impl_Store), (b3, x1, ty_laws_Store), (b2, x0, ty_laws_Store)] ++ (L_61 ++ ([]))) := h
      exact ⟨(⟨b6, 0, none⟩, r32.2), rfl, b6, r32.1, L_61, rfl, hO_62, hc_63, h⟩
    refine r_new h fun b6 _ h => ?_
    have h : At w _ ([(b6, #[(.slice none 0 0)], ty_impl_Store), (b3, x1, ty_laws_Store), (b2, x0, ty_laws_Store)] ++ (L_54 ++ ([]))) := h
    refine r_chk1 ?_ ?_
    · exact ldOk_blk h 1 rfl (a1.sz)
    refine r_call h (c_toStoreV (a1.rd.at h) (by omega)) fun r31 _ _ _ ⟨L_64, hL, hO_65⟩ => ?_
    have h := (h.join hL).rot
    have h : At w _ ([(b6, #[(.slice none 0 0)], ty_impl_Store), (b3, x1, ty_laws_Store), (b2, x0, ty_laws_Store)] ++ (L_64 ++ (L_54 ++ ([])))) := h
    refine r_call h (c_spec_JoinStores (hO_55.rd h.pl2) (hO_65.rd h.pl1) (by omega) (by omega)) fun r32 _ h2 _ ⟨L_66, hL, hO_67, hc_68⟩ => ?_
    have h := (h.join hL).rot
    have h : At w _ ([(b6, #[(.slice none 0 0)], ty_impl_Store), (b3, x1, ty_laws_Store), (b2, x0, ty_laws_Store)] ++ (L_66 ++ (L_64 ++ (L_54 ++ ([]))))) := h
    refine r_stA h 0 rfl rfl (hO_67.sz) (rfl) (hO_67.one) fun _ h => ?_
    have h : At w _ ([(b6, r32.1, ty_impl_Store), (b3, x1, ty_laws_Store), (b2, x0, ty_laws_Store)] ++ (L_66 ++ (L_64 ++ (L_54 ++ ([]))))) := h
    have h := h.dr2
    have h := h.dr2
    have h : At w _ ([(b6, r32.1, ty_impl_Store), (b3, x1, ty_laws_Store), (b2, x0, ty_laws_Store)] ++ (L_66 ++ ([]))) := h
    exact ⟨(⟨b6, 0, none⟩, r32.2), rfl, b6, r32.1, L_66, rfl, hO_67, hc_68, h⟩
  refine r_new h fun b6 _ h => ?_
  have h : At w _ ([(b6, #[(.slice none 0 0)], ty_impl_Store), (b3, x1, ty_laws_Store), (b2, x0, ty_laws_Store)] ++ ([])) := h
  refine r_chk2 ?_ ?_ ?_
  · exact ldOk_blk h 1 rfl (a1.sz)
  · exact ldOk_blk h 2 rfl (a0.sz)
  refine r_call h (c_toStoreV (a0.rd.at h) (by omega)) fun r29 _ _ _ ⟨L_69, hL, hO_70⟩ => ?_
  have h := (h.join hL).rot
  have h : At w _ ([(b6, #[(.slice none 0 0)], ty_impl_Store), (b3, x1, ty_laws_Store), (b2, x0, ty_laws_Store)] ++ (L_69 ++ ([]))) := h
  refine r_chk1 ?_ ?_
  · exact ldOk_blk h 1 rfl (a1.sz)
  refine r_call h (c_toStoreV (a1.rd.at h) (by omega)) fun r31 _ _ _ ⟨L_71, hL, hO_72⟩ => ?_
  have h := (h.join hL).rot
  have h : At w _ ([(b6, #[(.slice none 0 0)], ty_impl_Store), (b3, x1, ty_laws_Store), (b2, x0, ty_laws_Store)] ++ (L_71 ++ (L_69 ++ ([])))) := h
  refine r_call h (c_spec_JoinStores (hO_70.rd h.pl2) (hO_72.rd h.pl1) (by omega) (by omega)) fun r32 _ h2 _ ⟨L_73, hL, hO_74, hc_75⟩ => ?_
  have h := (h.join hL).rot
  have h : At w _ ([(b6, #[(.slice none 0 0)], ty_impl_Store), (b3, x1, ty_laws_Store), (b2, x0, ty_laws_Store)] ++ (L_73 ++ (L_71 ++ (L_69 ++ ([]))))) := h
  refine r_stA h 0 rfl rfl (hO_74.sz) (rfl) (hO_74.one) fun _ h => ?_
  have h : At w _ ([(b6, r32.1, ty_impl_Store), (b3, x1, ty_laws_Store), (b2, x0, ty_laws_Store)] ++ (L_73 ++ (L_71 ++ (L_69 ++ ([]))))) := h
  have h := h.dr2
  have h := h.dr2
  have h : At w _ ([(b6, r32.1, ty_impl_Store), (b3, x1, ty_laws_Store), (b2, x0, ty_laws_Store)] ++ (L_73 ++ ([]))) := h
  exact ⟨(⟨b6, 0, none⟩, r32.2), rfl, b6, r32.1, L_73, rfl, hO_74, hc_75, h⟩)

set_option maxRecDepth 100000 in
theorem lifted_FnExactJoinStores (os : Os) (started : os.Started) (H : Type) (enc : TypeId × Value → H) :
    ReturnsInHanded {} Tryz.checked os 6 .any (Rows.fnExactJoinStoresSpec.pre6 enc Tryz.prog Tryz.f6 Rows.fnExactJoinStoresRow.domain false) (Rows.fnExactJoinStoresSpec.post enc Tryz.prog Tryz.f6 false true false false) := by
  refine law_lifted (C := Tryz.checked) (tb := ty_bool) (by kernel_rfl) started (by kernel_rfl) Tryz.func6 (by kernel_rfl) (by kernel_rfl) (by kernel_rfl) (by kernel_rfl) rfl
    (fun ds hd => by
      rw [Tryz.params6] at hd
      match ds, hd with
      | [_, _], _ => exact ⟨rfl, rfl, rfl⟩)
    (ChangeSpec.witness6 (enc := enc) (C := Tryz.checked) false ⟨#[], #[.agg #[.slice none 0 0], .agg #[.slice none 0 0]], []⟩ 8 (by kernel_rfl) (by kernel_rfl) (by kernel_rfl) (by kernel_rfl)) ?_
  intro W base args ds p hval0 hA0
  have hval : ∀ (j : Nat) t v, Tryz.f6.params[j]? = some t → args[j]? = some v → Value.okWide Tryz.prog W .any base t v := hval0
  have hA : DataW.TrodAll enc Tryz.prog W 0 (fun _ => true) true Tryz.f6.params.toList args.toList ds p := hA0
  rw [Tryz.params6] at hA hval
  obtain ⟨v0, vs0, d0, ds0, p0, q0, hargs, rfl, rfl, h0, r0⟩ := ChangeShapes.trodAll_cons hA
  obtain ⟨v1, vs1, d1, ds1, p1, q1, rfl, rfl, rfl, h1, r1⟩ := ChangeShapes.trodAll_cons r0
  obtain ⟨rfl, rfl, rfl⟩ := ChangeShapes.trodAll_nil r1
  obtain rfl : args = #[v0, v1] := by cases args; simp_all
  obtain ⟨x0, D0, rfl, a0⟩ := open_Store (hval 0 _ _ rfl rfl) h0
  obtain ⟨x1, D1, rfl, a1⟩ := open_Store (hval 1 _ _ rfl rfl) h1
  exact c_law_FnExactJoinStores a0 a1

theorem over_FnExactJoinStores : Rows.fnExactJoinStoresRow.holds Tryz.pinned (OpenSpec.ofChange Rows.fnExactJoinStoresSpec) :=
  OpenClaim.holds_of_wide 6 Tryz.f6 rfl rfl rfl rfl rfl rfl rfl ⟨rfl, rfl, rfl, rfl, rfl⟩ rfl rfl rfl rfl rfl (by kernel_rfl) Tryz.func6 (by kernel_rfl)
    (of_decide_eq_true (by kernel_rfl)) (by unfold Func.isWrapper; first | (rw [if_pos (by decide +kernel)]; kernel_rfl) | (rw [if_neg (by decide +kernel)]; exact ⟨rfl, rfl⟩))
    (fun os started H enc _ => lifted_FnExactJoinStores os started H enc)

/-- The given statement. -/
theorem fnExactJoinStores_holds : Rows.FnExactJoinStoresSaid := over_FnExactJoinStores
#print axioms fnExactJoinStores_holds
end Go.Proofs.YtcebkinkbelcnaaGreat
