/- For every input the law FnExactUndoCommit returns true, and its arguments read behind the call as before it. Printed by lawgen.py. -/
import Derived.Test.YtaadgdbegpmlmaaGreatRows
import Derived.Test.YtaadgdbegpmlmaaGreatPkLUC36
import Derived.Test.YtaadgdbegpmlmaaGreatPkLUC15
namespace Go.Proofs.YtaadgdbegpmlmaaGreat
open Go.Sx Go.RowKit

theorem c_law_FnExactUndoCommit {w : World} {x0 : Array Value} {d0 : PBk} (a0 : RawBook w x0 d0) {x1 : Array Value} {d1 : List Int} (a1 : RdKey w x1 d1) {x2 : Array Value} {d2 : List Int} (a2 : RdKey w x2 d2) (x3 : ByteArray) (a3 : x3.size ≤ maxLen) : Ret Tryz.prog n_laws_FnExactUndoCommit [.agg x0, .agg x1, .agg x2, .string x3] w [.bool] (fun r _ => r = true) := laws_FnExactUndoCommit_calls _ _ _ _ (by
  unfold laws_FnExactUndoCommit
  have h := At.refl w
  have hsz0 := undoAns_size d0 d1 d2 x3
  have hsz1 := msizeBook_le d0
  have hsz2 := msizeBook_le (undoAns d0 d1 d2 x3).1
  refine r_new h fun b4 _ h => ?_
  have h : At w _ ([_] ++ ([])) := h
  refine r_new h fun b5 _ h => ?_
  have h : At w _ ([_, _] ++ ([])) := h
  refine r_new h fun b6 _ h => ?_
  have h : At w _ ([_, _, _] ++ ([])) := h
  refine r_if ((x3.size : Int) > 1048576) rfl (fun _ => r_ret h.nil true rfl rfl) (fun _ => ?_)
  refine r_ldA h 2 rfl rfl (a0.sz) ?_
  refine r_call h (c_szBookV a0 h.below (1048576) (by omega)) fun r28 _ h _ hr => ?_
  subst hr
  by_cases hz_1 : (sizeBook d0 : Int) ≤ 1048576
  rotate_left
  · rw [if_neg hz_1]
    exact r_true rfl (r_ret h.nil true rfl rfl)
  rw [if_pos hz_1]
  refine r_if (1048576 - (sizeBook d0 : Int) < 0) rfl (fun hh => by omega) (fun _ => ?_)
  refine r_join (σ := Addr × Addr × Int) (fun s113 w' => ∃ (b_3 : Nat) (x_4 : Array Value) (L_5 : List Blk) (b_7 : Nat) (x_8 : Array Value), s113.1 = (⟨b_3, 0, none⟩ : Addr) ∧ OwnBook x_4 (undoAns d0 d1 d2 x3).1 L_5 ∧ s113.2.1 = (⟨b_7, 0, none⟩ : Addr) ∧ RdKey w x_8 (undoAns d0 d1 d2 x3).2.1 ∧ s113.2.2 = (undoAns d0 d1 d2 x3).2.2 ∧ At w w' ([(b_3, x_4, ty_impl_Book), (b_7, x_8, ty_impl_Key), (b6, x2, ty_arr32_uint8), (b5, x1, ty_arr32_uint8), (b4, x0, ty_laws_Book)] ++ (L_5 ++ ([])))) (fun s113 _ hJ => ?_) ?_
  ·
    skip
    obtain ⟨b_3, x_4, L_5, b_7, x_8, eb_3, hO_6, eb_7, hO_9, hc_10, h⟩ := hJ
    refine r_any fun _ => ?_
    rw [eb_3]
    rw [eb_7]
    refine r_ldA h 4 rfl rfl (a0.sz) ?_
    refine r_call h (c_toBookV (a0.rd.at h) (by omega)) fun r44 _ _ _ ⟨L_11, hL, hO_12⟩ => ?_
    have h := (h.join hL).rot
    have h : At w _ ([_, _, _, _, _] ++ (L_11 ++ (L_5 ++ ([])))) := h
    refine r_new h fun b13 _ h => ?_
    have h : At w _ ([_, _, _, _, _, _] ++ (L_11 ++ (L_5 ++ ([])))) := h
    refine r_stA h 0 rfl rfl (hO_12.sz) (rfl) (hO_12.one) fun _ h => ?_
    have h : At w _ ([_, _, _, _, _, _] ++ (L_11 ++ (L_5 ++ ([])))) := h
    refine r_join (σ := Addr × Addr × Int) (fun s183 w' => ∃ (b_14 : Nat) (x_15 : Array Value) (L_16 : List Blk) (b_18 : Nat) (x_19 : Array Value), s183.1 = (⟨b_14, 0, none⟩ : Addr) ∧ OwnBook x_15 (undoAns d0 d1 d2 x3).1 L_16 ∧ s183.2.1 = (⟨b_18, 0, none⟩ : Addr) ∧ RdKey w x_19 (undoAns d0 d1 d2 x3).2.1 ∧ s183.2.2 = (undoAns d0 d1 d2 x3).2.2 ∧ At w w' ([(b_14, x_15, ty_impl_Book), (b_18, x_19, ty_impl_Key), (b13, r44, ty_impl_Book), (b_3, x_4, ty_impl_Book), (b_7, x_8, ty_impl_Key), (b6, x2, ty_arr32_uint8), (b5, x1, ty_arr32_uint8), (b4, x0, ty_laws_Book)] ++ (L_16 ++ (L_11 ++ (L_5 ++ ([])))))) (fun s183 _ hJ => ?_) ?_
    ·
      skip
      obtain ⟨b_14, x_15, L_16, b_18, x_19, eb_14, hO_17, eb_18, hO_20, hc_21, h⟩ := hJ
      refine r_any fun _ => ?_
      rw [eb_14]
      rw [eb_18]
      refine r_joinI ?_
      refine r_ldA h 0 rfl rfl (hO_17.sz) ?_
      refine r_ldA h 3 rfl rfl (hO_6.sz) ?_
      refine r_call h (c_eqBookV (hO_17.rd h.pl1) (hO_6.rd h.pl3) (by omega)) fun r58 _ h _ hr => ?_
      subst hr
      refine r_false rfl ?_
      refine r_ldA h 1 rfl rfl (hO_20.sz) ?_
      refine r_ldA h 4 rfl rfl (hO_9.sz) ?_
      refine r_call h (c_eqKeyV (hO_20.at h) (hO_9.at h)) fun r63 _ h _ hr => ?_
      subst hr
      refine r_false rfl ?_
      refine r_ne (fun hh => absurd (hc_21.trans hc_10.symm) hh) fun _ => ?_
      refine ⟨(), rfl, ?_⟩
      refine r_any fun _ => ?_
      try dsimp only
      refine r_joinI ?_
      refine r_draw h fun _ h => ?_
      refine r_ldA h 2 rfl rfl (hO_12.sz) ?_
      refine r_ldA h 7 rfl rfl (a0.sz) ?_
      refine r_call h (c_toBookV (a0.rd.at h) (by omega)) fun r73 _ _ _ ⟨L_22, hL, hO_23⟩ => ?_
      have h := (h.join hL).rot
      have h : At w _ ([_, _, _, _, _, _, _, _] ++ (L_22 ++ (L_16 ++ (L_11 ++ (L_5 ++ ([])))))) := h
      refine r_chk1 ?_ ?_
      · exact ldOk_blk h 2 rfl (hO_12.sz)
      refine r_call h (c_eqBookV (hO_12.rd h.pl3) (hO_23.rd h.pl1) (by omega)) fun r74 _ h _ hr => ?_
      subst hr
      refine r_false rfl ?_
      refine ⟨(), rfl, ?_⟩
      refine r_any fun _ => ?_
      try dsimp only
      refine r_ldA h 2 rfl rfl (hO_12.sz) ?_
      refine r_callR (c_markBookV h.pl3 hO_12 (1) (by omega) (by omega) (by omega)) ?_
      rintro _ _ ⟨rfl, L_24, h, hO_25⟩
      refine ⟨_, rfl, ?_⟩
      have h := h.ps3
      have h : At w _ ([_, _, _, _, _, _, _, _] ++ (L_22 ++ (L_16 ++ (L_24 ++ (L_5 ++ ([])))))) := h
      refine r_joinI ?_
      refine r_if (1 + (msizeBook d0 : Int) < 0) rfl (fun hh => by omega) (fun _ => ?_)
      refine r_ldA h 0 rfl rfl (hO_17.sz) ?_
      refine r_ldA h 3 rfl rfl (hO_6.sz) ?_
      refine r_call h (c_eqBookV (hO_17.rd h.pl2) (hO_6.rd h.pl4) (by omega)) fun r84 _ h _ hr => ?_
      subst hr
      refine r_false rfl ?_
      refine r_ldA h 1 rfl rfl (hO_20.sz) ?_
      refine r_ldA h 4 rfl rfl (hO_9.sz) ?_
      refine r_call h (c_eqKeyV (hO_20.at h) (hO_9.at h)) fun r90 _ h _ hr => ?_
      subst hr
      refine r_false rfl ?_
      refine r_ne (fun hh => absurd (hc_21.trans hc_10.symm) hh) fun _ => ?_
      refine ⟨(), rfl, ?_⟩
      refine r_any fun _ => ?_
      try dsimp only
      refine r_ldA h 0 rfl rfl (hO_17.sz) ?_
      refine r_callR (c_markBookV h.pl2 hO_17 (1) (by omega) (by omega) (by omega)) ?_
      rintro _ _ ⟨rfl, L_26, h, hO_27⟩
      refine ⟨_, rfl, ?_⟩
      have h := h.ps2
      have h : At w _ ([_, _, _, _, _, _, _, _] ++ (L_22 ++ (L_26 ++ (L_24 ++ (L_5 ++ ([])))))) := h
      refine r_ldA h 0 rfl rfl (hO_27.sz) ?_
      refine r_call h (c_heldBookV (1) (hO_27.rd h.pl2) (by omega) (by omega) (by omega)) fun r103 _ h _ hr => ?_
      subst hr
      refine r_if (1 + (msizeBook (undoAns d0 d1 d2 x3).1 : Int) < 0) rfl (fun hh => by omega) (fun _ => ?_)
      refine r_ne (fun hh => absurd rfl hh) fun _ => ?_
      refine r_join (σ := Addr × Addr × Int) (fun s316 w' => ∃ (b_29 : Nat) (x_30 : Array Value) (L_31 : List Blk) (b_33 : Nat) (x_34 : Array Value), s316.1 = (⟨b_29, 0, none⟩ : Addr) ∧ OwnBook x_30 (undoAns d0 d1 d2 x3).1 L_31 ∧ s316.2.1 = (⟨b_33, 0, none⟩ : Addr) ∧ RdKey w x_34 (undoAns d0 d1 d2 x3).2.1 ∧ s316.2.2 = (undoAns d0 d1 d2 x3).2.2 ∧ At w w' ([(b_29, x_30, ty_impl_Book), (b_33, x_34, ty_impl_Key), (b_14, x_15, ty_impl_Book), (b_18, x_19, ty_impl_Key), (b13, r44, ty_impl_Book), (b_3, x_4, ty_impl_Book), (b_7, x_8, ty_impl_Key), (b6, x2, ty_arr32_uint8), (b5, x1, ty_arr32_uint8), (b4, x0, ty_laws_Book)] ++ (L_31 ++ (L_22 ++ (L_26 ++ (L_24 ++ (L_5 ++ ([])))))))) (fun s316 _ hJ => ?_) ?_
      ·
        skip
        obtain ⟨b_29, x_30, L_31, b_33, x_34, eb_29, hO_32, eb_33, hO_35, hc_36, h⟩ := hJ
        refine r_any fun _ => ?_
        rw [eb_29]
        rw [eb_33]
        refine r_joinI ?_
        refine r_ldA h 0 rfl rfl (hO_32.sz) ?_
        refine r_ldA h 5 rfl rfl (hO_6.sz) ?_
        refine r_call h (c_eqBookV (hO_32.rd h.pl1) (hO_6.rd h.pl5) (by omega)) fun r123 _ h _ hr => ?_
        subst hr
        refine r_false rfl ?_
        refine r_ldA h 1 rfl rfl (hO_35.sz) ?_
        refine r_ldA h 6 rfl rfl (hO_9.sz) ?_
        refine r_call h (c_eqKeyV (hO_35.at h) (hO_9.at h)) fun r128 _ h _ hr => ?_
        subst hr
        refine r_false rfl ?_
        refine r_ne (fun hh => absurd (hc_36.trans hc_10.symm) hh) fun _ => ?_
        refine ⟨(), rfl, ?_⟩
        refine r_any fun _ => ?_
        try dsimp only
        refine r_ldA h 2 rfl rfl (hO_27.sz) ?_
        refine r_call h (c_heldBookV (1) (hO_27.rd h.pl3) (by omega) (by omega) (by omega)) fun r138 _ h _ hr => ?_
        subst hr
        refine r_if (1 + (msizeBook (undoAns d0 d1 d2 x3).1 : Int) < 0) rfl (fun hh => by omega) (fun _ => ?_)
        refine r_ne (fun hh => absurd rfl hh) fun _ => ?_
        exact r_ret h.nil true rfl rfl
      refine r_draw h fun _ h => ?_
      refine r_ldA h 7 rfl rfl (a0.sz) ?_
      refine r_ldA h 6 rfl rfl (a1.sz) ?_
      refine r_ldA h 5 rfl rfl (a2.sz) ?_
      refine ⟨?_, ?_⟩
      ·
        skip
        refine r_call h (c_toBookV (a0.rd.at h) (by omega)) fun r111 _ _ _ ⟨L_37, hL, hO_38⟩ => ?_
        have h := (h.join hL).rot
        have h : At w _ ([_, _, _, _, _, _, _, _] ++ (L_37 ++ (L_22 ++ (L_26 ++ (L_24 ++ (L_5 ++ ([]))))))) := h
        refine r_chk2 ?_ ?_ ?_
        · exact ldOk_blk h 5 rfl (a2.sz)
        · exact ldOk_blk h 6 rfl (a1.sz)
        refine ⟨?_, ?_⟩
        ·
          skip
          refine r_call h (c_toKeyV (a1.at h)) fun r113 _ _ _ ⟨L_39, hL, hO_40⟩ => ?_
          have h := (h.join hL).rot
          have h : At w _ ([_, _, _, _, _, _, _, _] ++ (L_39 ++ (L_37 ++ (L_22 ++ (L_26 ++ (L_24 ++ (L_5 ++ ([])))))))) := h
          refine r_chk1 ?_ ?_
          · exact ldOk_blk h 5 rfl (a2.sz)
          refine ⟨?_, ?_⟩
          ·
            skip
            refine r_call h (c_toKeyV (a2.at h)) fun r115 _ _ _ ⟨L_41, hL, hO_42⟩ => ?_
            have h := (h.join hL).rot
            have h : At w _ ([_, _, _, _, _, _, _, _] ++ (L_41 ++ (L_39 ++ (L_37 ++ (L_22 ++ (L_26 ++ (L_24 ++ (L_5 ++ ([]))))))))) := h
            refine ⟨?_, ?_⟩
            ·
              skip
              refine r_call h (c_impl_UndoCommit (hO_38.rd h.pl3) (hO_40.rd h.pl2) (hO_42.rd h.pl1) (by omega)) fun r117 _ h2 _ ⟨L_43, hL, hO_44, hc_45, hc_46⟩ => ?_
              have h := (h.join hL).rot
              have hc_45 : RdKey w r117.2.1 (undoAns d0 d1 d2 x3).2.1 := hc_45
              have h : At w _ ([_, _, _, _, _, _, _, _] ++ (L_43 ++ (L_41 ++ (L_39 ++ (L_37 ++ (L_22 ++ (L_26 ++ (L_24 ++ (L_5 ++ ([])))))))))) := h
              refine ⟨?_, ?_⟩
              ·
                skip
                refine r_new h fun b20 _ h => ?_
                have h : At w _ ([_, _, _, _, _, _, _, _, _] ++ (L_43 ++ (L_41 ++ (L_39 ++ (L_37 ++ (L_22 ++ (L_26 ++ (L_24 ++ (L_5 ++ ([])))))))))) := h
                refine r_new h fun b21 _ h => ?_
                have h : At w _ ([_, _, _, _, _, _, _, _, _, _] ++ (L_43 ++ (L_41 ++ (L_39 ++ (L_37 ++ (L_22 ++ (L_26 ++ (L_24 ++ (L_5 ++ ([])))))))))) := h
                refine r_stA h 1 rfl rfl (hO_44.sz) (rfl) (hO_44.one) fun _ h => ?_
                have h : At w _ ([_, _, _, _, _, _, _, _, _, _] ++ (L_43 ++ (L_41 ++ (L_39 ++ (L_37 ++ (L_22 ++ (L_26 ++ (L_24 ++ (L_5 ++ ([])))))))))) := h
                refine r_stA h 0 rfl rfl (hc_45.sz) (rfl) (hc_45.one) fun _ h => ?_
                have h : At w _ ([_, _, _, _, _, _, _, _, _, _] ++ (L_43 ++ (L_41 ++ (L_39 ++ (L_37 ++ (L_22 ++ (L_26 ++ (L_24 ++ (L_5 ++ ([])))))))))) := h
                have h := h.dr2
                have h := h.dr2
                have h := h.dr2
                have h : At w _ ([_, _, _, _, _, _, _, _, _, _] ++ (L_43 ++ (L_22 ++ (L_26 ++ (L_24 ++ (L_5 ++ ([]))))))) := h
                have h := At.sw2 h
                have h : At w _ ([_, _, _, _, _, _, _, _, _, _] ++ (L_43 ++ (L_22 ++ (L_26 ++ (L_24 ++ (L_5 ++ ([]))))))) := h
                exact ⟨(⟨b20, 0, none⟩, ⟨b21, 0, none⟩, r117.2.2), rfl, b20, r117.1, L_43, b21, r117.2.1, rfl, hO_44, rfl, hc_45, hc_46, h⟩
              refine r_new h fun b21 _ h => ?_
              have h : At w _ ([_, _, _, _, _, _, _, _, _] ++ (L_43 ++ (L_41 ++ (L_39 ++ (L_37 ++ (L_22 ++ (L_26 ++ (L_24 ++ (L_5 ++ ([])))))))))) := h
              refine r_new h fun b20 _ h => ?_
              have h : At w _ ([_, _, _, _, _, _, _, _, _, _] ++ (L_43 ++ (L_41 ++ (L_39 ++ (L_37 ++ (L_22 ++ (L_26 ++ (L_24 ++ (L_5 ++ ([])))))))))) := h
              refine r_stA h 0 rfl rfl (hO_44.sz) (rfl) (hO_44.one) fun _ h => ?_
              have h : At w _ ([_, _, _, _, _, _, _, _, _, _] ++ (L_43 ++ (L_41 ++ (L_39 ++ (L_37 ++ (L_22 ++ (L_26 ++ (L_24 ++ (L_5 ++ ([])))))))))) := h
              refine r_stA h 1 rfl rfl (hc_45.sz) (rfl) (hc_45.one) fun _ h => ?_
              have h : At w _ ([_, _, _, _, _, _, _, _, _, _] ++ (L_43 ++ (L_41 ++ (L_39 ++ (L_37 ++ (L_22 ++ (L_26 ++ (L_24 ++ (L_5 ++ ([])))))))))) := h
              have h := h.dr2
              have h := h.dr2
              have h := h.dr2
              have h : At w _ ([_, _, _, _, _, _, _, _, _, _] ++ (L_43 ++ (L_22 ++ (L_26 ++ (L_24 ++ (L_5 ++ ([]))))))) := h
              exact ⟨(⟨b20, 0, none⟩, ⟨b21, 0, none⟩, r117.2.2), rfl, b20, r117.1, L_43, b21, r117.2.1, rfl, hO_44, rfl, hc_45, hc_46, h⟩
            refine ⟨?_, ?_⟩
            ·
              skip
              refine r_new h fun b20 _ h => ?_
              have h : At w _ ([_, _, _, _, _, _, _, _, _] ++ (L_41 ++ (L_39 ++ (L_37 ++ (L_22 ++ (L_26 ++ (L_24 ++ (L_5 ++ ([]))))))))) := h
              refine ⟨?_, ?_⟩
              ·
                skip
                refine r_call h (c_impl_UndoCommit (hO_38.rd h.pl3) (hO_40.rd h.pl2) (hO_42.rd h.pl1) (by omega)) fun r117 _ h2 _ ⟨L_47, hL, hO_48, hc_49, hc_50⟩ => ?_
                have h := (h.join hL).rot
                have hc_49 : RdKey w r117.2.1 (undoAns d0 d1 d2 x3).2.1 := hc_49
                have h : At w _ ([_, _, _, _, _, _, _, _, _] ++ (L_47 ++ (L_41 ++ (L_39 ++ (L_37 ++ (L_22 ++ (L_26 ++ (L_24 ++ (L_5 ++ ([])))))))))) := h
                refine r_new h fun b21 _ h => ?_
                have h : At w _ ([_, _, _, _, _, _, _, _, _, _] ++ (L_47 ++ (L_41 ++ (L_39 ++ (L_37 ++ (L_22 ++ (L_26 ++ (L_24 ++ (L_5 ++ ([])))))))))) := h
                refine r_stA h 1 rfl rfl (hO_48.sz) (rfl) (hO_48.one) fun _ h => ?_
                have h : At w _ ([_, _, _, _, _, _, _, _, _, _] ++ (L_47 ++ (L_41 ++ (L_39 ++ (L_37 ++ (L_22 ++ (L_26 ++ (L_24 ++ (L_5 ++ ([])))))))))) := h
                refine r_stA h 0 rfl rfl (hc_49.sz) (rfl) (hc_49.one) fun _ h => ?_
                have h : At w _ ([_, _, _, _, _, _, _, _, _, _] ++ (L_47 ++ (L_41 ++ (L_39 ++ (L_37 ++ (L_22 ++ (L_26 ++ (L_24 ++ (L_5 ++ ([])))))))))) := h
                have h := h.dr2
                have h := h.dr2
                have h := h.dr2
                have h : At w _ ([_, _, _, _, _, _, _, _, _, _] ++ (L_47 ++ (L_22 ++ (L_26 ++ (L_24 ++ (L_5 ++ ([]))))))) := h
                have h := At.sw2 h
                have h : At w _ ([_, _, _, _, _, _, _, _, _, _] ++ (L_47 ++ (L_22 ++ (L_26 ++ (L_24 ++ (L_5 ++ ([]))))))) := h
                exact ⟨(⟨b20, 0, none⟩, ⟨b21, 0, none⟩, r117.2.2), rfl, b20, r117.1, L_47, b21, r117.2.1, rfl, hO_48, rfl, hc_49, hc_50, h⟩
              refine r_new h fun b21 _ h => ?_
              have h : At w _ ([_, _, _, _, _, _, _, _, _, _] ++ (L_41 ++ (L_39 ++ (L_37 ++ (L_22 ++ (L_26 ++ (L_24 ++ (L_5 ++ ([]))))))))) := h
              refine r_call h (c_impl_UndoCommit (hO_38.rd h.pl3) (hO_40.rd h.pl2) (hO_42.rd h.pl1) (by omega)) fun r117 _ h2 _ ⟨L_51, hL, hO_52, hc_53, hc_54⟩ => ?_
              have h := (h.join hL).rot
              have hc_53 : RdKey w r117.2.1 (undoAns d0 d1 d2 x3).2.1 := hc_53
              have h : At w _ ([_, _, _, _, _, _, _, _, _, _] ++ (L_51 ++ (L_41 ++ (L_39 ++ (L_37 ++ (L_22 ++ (L_26 ++ (L_24 ++ (L_5 ++ ([])))))))))) := h
              refine r_stA h 1 rfl rfl (hO_52.sz) (rfl) (hO_52.one) fun _ h => ?_
              have h : At w _ ([_, _, _, _, _, _, _, _, _, _] ++ (L_51 ++ (L_41 ++ (L_39 ++ (L_37 ++ (L_22 ++ (L_26 ++ (L_24 ++ (L_5 ++ ([])))))))))) := h
              refine r_stA h 0 rfl rfl (hc_53.sz) (rfl) (hc_53.one) fun _ h => ?_
              have h : At w _ ([_, _, _, _, _, _, _, _, _, _] ++ (L_51 ++ (L_41 ++ (L_39 ++ (L_37 ++ (L_22 ++ (L_26 ++ (L_24 ++ (L_5 ++ ([])))))))))) := h
              have h := h.dr2
              have h := h.dr2
              have h := h.dr2
              have h : At w _ ([_, _, _, _, _, _, _, _, _, _] ++ (L_51 ++ (L_22 ++ (L_26 ++ (L_24 ++ (L_5 ++ ([]))))))) := h
              have h := At.sw2 h
              have h : At w _ ([_, _, _, _, _, _, _, _, _, _] ++ (L_51 ++ (L_22 ++ (L_26 ++ (L_24 ++ (L_5 ++ ([]))))))) := h
              exact ⟨(⟨b20, 0, none⟩, ⟨b21, 0, none⟩, r117.2.2), rfl, b20, r117.1, L_51, b21, r117.2.1, rfl, hO_52, rfl, hc_53, hc_54, h⟩
            refine r_new h fun b21 _ h => ?_
            have h : At w _ ([_, _, _, _, _, _, _, _, _] ++ (L_41 ++ (L_39 ++ (L_37 ++ (L_22 ++ (L_26 ++ (L_24 ++ (L_5 ++ ([]))))))))) := h
            refine ⟨?_, ?_⟩
            ·
              skip
              refine r_call h (c_impl_UndoCommit (hO_38.rd h.pl3) (hO_40.rd h.pl2) (hO_42.rd h.pl1) (by omega)) fun r117 _ h2 _ ⟨L_55, hL, hO_56, hc_57, hc_58⟩ => ?_
              have h := (h.join hL).rot
              have hc_57 : RdKey w r117.2.1 (undoAns d0 d1 d2 x3).2.1 := hc_57
              have h : At w _ ([_, _, _, _, _, _, _, _, _] ++ (L_55 ++ (L_41 ++ (L_39 ++ (L_37 ++ (L_22 ++ (L_26 ++ (L_24 ++ (L_5 ++ ([])))))))))) := h
              refine r_new h fun b20 _ h => ?_
              have h : At w _ ([_, _, _, _, _, _, _, _, _, _] ++ (L_55 ++ (L_41 ++ (L_39 ++ (L_37 ++ (L_22 ++ (L_26 ++ (L_24 ++ (L_5 ++ ([])))))))))) := h
              refine r_stA h 0 rfl rfl (hO_56.sz) (rfl) (hO_56.one) fun _ h => ?_
              have h : At w _ ([_, _, _, _, _, _, _, _, _, _] ++ (L_55 ++ (L_41 ++ (L_39 ++ (L_37 ++ (L_22 ++ (L_26 ++ (L_24 ++ (L_5 ++ ([])))))))))) := h
              refine r_stA h 1 rfl rfl (hc_57.sz) (rfl) (hc_57.one) fun _ h => ?_
              have h : At w _ ([_, _, _, _, _, _, _, _, _, _] ++ (L_55 ++ (L_41 ++ (L_39 ++ (L_37 ++ (L_22 ++ (L_26 ++ (L_24 ++ (L_5 ++ ([])))))))))) := h
              have h := h.dr2
              have h := h.dr2
              have h := h.dr2
              have h : At w _ ([_, _, _, _, _, _, _, _, _, _] ++ (L_55 ++ (L_22 ++ (L_26 ++ (L_24 ++ (L_5 ++ ([]))))))) := h
              exact ⟨(⟨b20, 0, none⟩, ⟨b21, 0, none⟩, r117.2.2), rfl, b20, r117.1, L_55, b21, r117.2.1, rfl, hO_56, rfl, hc_57, hc_58, h⟩
            refine r_new h fun b20 _ h => ?_
            have h : At w _ ([_, _, _, _, _, _, _, _, _, _] ++ (L_41 ++ (L_39 ++ (L_37 ++ (L_22 ++ (L_26 ++ (L_24 ++ (L_5 ++ ([]))))))))) := h
            refine r_call h (c_impl_UndoCommit (hO_38.rd h.pl3) (hO_40.rd h.pl2) (hO_42.rd h.pl1) (by omega)) fun r117 _ h2 _ ⟨L_59, hL, hO_60, hc_61, hc_62⟩ => ?_
            have h := (h.join hL).rot
            have hc_61 : RdKey w r117.2.1 (undoAns d0 d1 d2 x3).2.1 := hc_61
            have h : At w _ ([_, _, _, _, _, _, _, _, _, _] ++ (L_59 ++ (L_41 ++ (L_39 ++ (L_37 ++ (L_22 ++ (L_26 ++ (L_24 ++ (L_5 ++ ([])))))))))) := h
            refine r_stA h 0 rfl rfl (hO_60.sz) (rfl) (hO_60.one) fun _ h => ?_
            have h : At w _ ([_, _, _, _, _, _, _, _, _, _] ++ (L_59 ++ (L_41 ++ (L_39 ++ (L_37 ++ (L_22 ++ (L_26 ++ (L_24 ++ (L_5 ++ ([])))))))))) := h
            refine r_stA h 1 rfl rfl (hc_61.sz) (rfl) (hc_61.one) fun _ h => ?_
            have h : At w _ ([_, _, _, _, _, _, _, _, _, _] ++ (L_59 ++ (L_41 ++ (L_39 ++ (L_37 ++ (L_22 ++ (L_26 ++ (L_24 ++ (L_5 ++ ([])))))))))) := h
            have h := h.dr2
            have h := h.dr2
            have h := h.dr2
            have h : At w _ ([_, _, _, _, _, _, _, _, _, _] ++ (L_59 ++ (L_22 ++ (L_26 ++ (L_24 ++ (L_5 ++ ([]))))))) := h
            exact ⟨(⟨b20, 0, none⟩, ⟨b21, 0, none⟩, r117.2.2), rfl, b20, r117.1, L_59, b21, r117.2.1, rfl, hO_60, rfl, hc_61, hc_62, h⟩
          refine ⟨?_, ?_⟩
          ·
            skip
            refine r_new h fun b20 _ h => ?_
            have h : At w _ ([_, _, _, _, _, _, _, _, _] ++ (L_39 ++ (L_37 ++ (L_22 ++ (L_26 ++ (L_24 ++ (L_5 ++ ([])))))))) := h
            refine r_chk1 ?_ ?_
            · exact ldOk_blk h 6 rfl (a2.sz)
            refine ⟨?_, ?_⟩
            ·
              skip
              refine r_call h (c_toKeyV (a2.at h)) fun r115 _ _ _ ⟨L_63, hL, hO_64⟩ => ?_
              have h := (h.join hL).rot
              have h : At w _ ([_, _, _, _, _, _, _, _, _] ++ (L_63 ++ (L_39 ++ (L_37 ++ (L_22 ++ (L_26 ++ (L_24 ++ (L_5 ++ ([]))))))))) := h
              refine ⟨?_, ?_⟩
              ·
                skip
                refine r_call h (c_impl_UndoCommit (hO_38.rd h.pl3) (hO_40.rd h.pl2) (hO_64.rd h.pl1) (by omega)) fun r117 _ h2 _ ⟨L_65, hL, hO_66, hc_67, hc_68⟩ => ?_
                have h := (h.join hL).rot
                have hc_67 : RdKey w r117.2.1 (undoAns d0 d1 d2 x3).2.1 := hc_67
                have h : At w _ ([_, _, _, _, _, _, _, _, _] ++ (L_65 ++ (L_63 ++ (L_39 ++ (L_37 ++ (L_22 ++ (L_26 ++ (L_24 ++ (L_5 ++ ([])))))))))) := h
                refine r_new h fun b21 _ h => ?_
                have h : At w _ ([_, _, _, _, _, _, _, _, _, _] ++ (L_65 ++ (L_63 ++ (L_39 ++ (L_37 ++ (L_22 ++ (L_26 ++ (L_24 ++ (L_5 ++ ([])))))))))) := h
                refine r_stA h 1 rfl rfl (hO_66.sz) (rfl) (hO_66.one) fun _ h => ?_
                have h : At w _ ([_, _, _, _, _, _, _, _, _, _] ++ (L_65 ++ (L_63 ++ (L_39 ++ (L_37 ++ (L_22 ++ (L_26 ++ (L_24 ++ (L_5 ++ ([])))))))))) := h
                refine r_stA h 0 rfl rfl (hc_67.sz) (rfl) (hc_67.one) fun _ h => ?_
                have h : At w _ ([_, _, _, _, _, _, _, _, _, _] ++ (L_65 ++ (L_63 ++ (L_39 ++ (L_37 ++ (L_22 ++ (L_26 ++ (L_24 ++ (L_5 ++ ([])))))))))) := h
                have h := h.dr2
                have h := h.dr2
                have h := h.dr2
                have h : At w _ ([_, _, _, _, _, _, _, _, _, _] ++ (L_65 ++ (L_22 ++ (L_26 ++ (L_24 ++ (L_5 ++ ([]))))))) := h
                have h := At.sw2 h
                have h : At w _ ([_, _, _, _, _, _, _, _, _, _] ++ (L_65 ++ (L_22 ++ (L_26 ++ (L_24 ++ (L_5 ++ ([]))))))) := h
                exact ⟨(⟨b20, 0, none⟩, ⟨b21, 0, none⟩, r117.2.2), rfl, b20, r117.1, L_65, b21, r117.2.1, rfl, hO_66, rfl, hc_67, hc_68, h⟩
              refine r_new h fun b21 _ h => ?_
              have h : At w _ ([_, _, _, _, _, _, _, _, _, _] ++ (L_63 ++ (L_39 ++ (L_37 ++ (L_22 ++ (L_26 ++ (L_24 ++ (L_5 ++ ([]))))))))) := h
              refine r_call h (c_impl_UndoCommit (hO_38.rd h.pl3) (hO_40.rd h.pl2) (hO_64.rd h.pl1) (by omega)) fun r117 _ h2 _ ⟨L_69, hL, hO_70, hc_71, hc_72⟩ => ?_
              have h := (h.join hL).rot
              have hc_71 : RdKey w r117.2.1 (undoAns d0 d1 d2 x3).2.1 := hc_71
              have h : At w _ ([_, _, _, _, _, _, _, _, _, _] ++ (L_69 ++ (L_63 ++ (L_39 ++ (L_37 ++ (L_22 ++ (L_26 ++ (L_24 ++ (L_5 ++ ([])))))))))) := h
              refine r_stA h 1 rfl rfl (hO_70.sz) (rfl) (hO_70.one) fun _ h => ?_
              have h : At w _ ([_, _, _, _, _, _, _, _, _, _] ++ (L_69 ++ (L_63 ++ (L_39 ++ (L_37 ++ (L_22 ++ (L_26 ++ (L_24 ++ (L_5 ++ ([])))))))))) := h
              refine r_stA h 0 rfl rfl (hc_71.sz) (rfl) (hc_71.one) fun _ h => ?_
              have h : At w _ ([_, _, _, _, _, _, _, _, _, _] ++ (L_69 ++ (L_63 ++ (L_39 ++ (L_37 ++ (L_22 ++ (L_26 ++ (L_24 ++ (L_5 ++ ([])))))))))) := h
              have h := h.dr2
              have h := h.dr2
              have h := h.dr2
              have h : At w _ ([_, _, _, _, _, _, _, _, _, _] ++ (L_69 ++ (L_22 ++ (L_26 ++ (L_24 ++ (L_5 ++ ([]))))))) := h
              have h := At.sw2 h
              have h : At w _ ([_, _, _, _, _, _, _, _, _, _] ++ (L_69 ++ (L_22 ++ (L_26 ++ (L_24 ++ (L_5 ++ ([]))))))) := h
              exact ⟨(⟨b20, 0, none⟩, ⟨b21, 0, none⟩, r117.2.2), rfl, b20, r117.1, L_69, b21, r117.2.1, rfl, hO_70, rfl, hc_71, hc_72, h⟩
            refine r_new h fun b21 _ h => ?_
            have h : At w _ ([_, _, _, _, _, _, _, _, _, _] ++ (L_39 ++ (L_37 ++ (L_22 ++ (L_26 ++ (L_24 ++ (L_5 ++ ([])))))))) := h
            refine r_chk1 ?_ ?_
            · exact ldOk_blk h 7 rfl (a2.sz)
            refine r_call h (c_toKeyV (a2.at h)) fun r115 _ _ _ ⟨L_73, hL, hO_74⟩ => ?_
            have h := (h.join hL).rot
            have h : At w _ ([_, _, _, _, _, _, _, _, _, _] ++ (L_73 ++ (L_39 ++ (L_37 ++ (L_22 ++ (L_26 ++ (L_24 ++ (L_5 ++ ([]))))))))) := h
            refine r_call h (c_impl_UndoCommit (hO_38.rd h.pl3) (hO_40.rd h.pl2) (hO_74.rd h.pl1) (by omega)) fun r117 _ h2 _ ⟨L_75, hL, hO_76, hc_77, hc_78⟩ => ?_
            have h := (h.join hL).rot
            have hc_77 : RdKey w r117.2.1 (undoAns d0 d1 d2 x3).2.1 := hc_77
            have h : At w _ ([_, _, _, _, _, _, _, _, _, _] ++ (L_75 ++ (L_73 ++ (L_39 ++ (L_37 ++ (L_22 ++ (L_26 ++ (L_24 ++ (L_5 ++ ([])))))))))) := h
            refine r_stA h 1 rfl rfl (hO_76.sz) (rfl) (hO_76.one) fun _ h => ?_
            have h : At w _ ([_, _, _, _, _, _, _, _, _, _] ++ (L_75 ++ (L_73 ++ (L_39 ++ (L_37 ++ (L_22 ++ (L_26 ++ (L_24 ++ (L_5 ++ ([])))))))))) := h
            refine r_stA h 0 rfl rfl (hc_77.sz) (rfl) (hc_77.one) fun _ h => ?_
            have h : At w _ ([_, _, _, _, _, _, _, _, _, _] ++ (L_75 ++ (L_73 ++ (L_39 ++ (L_37 ++ (L_22 ++ (L_26 ++ (L_24 ++ (L_5 ++ ([])))))))))) := h
            have h := h.dr2
            have h := h.dr2
            have h := h.dr2
            have h : At w _ ([_, _, _, _, _, _, _, _, _, _] ++ (L_75 ++ (L_22 ++ (L_26 ++ (L_24 ++ (L_5 ++ ([]))))))) := h
            have h := At.sw2 h
            have h : At w _ ([_, _, _, _, _, _, _, _, _, _] ++ (L_75 ++ (L_22 ++ (L_26 ++ (L_24 ++ (L_5 ++ ([]))))))) := h
            exact ⟨(⟨b20, 0, none⟩, ⟨b21, 0, none⟩, r117.2.2), rfl, b20, r117.1, L_75, b21, r117.2.1, rfl, hO_76, rfl, hc_77, hc_78, h⟩
          refine r_new h fun b21 _ h => ?_
          have h : At w _ ([_, _, _, _, _, _, _, _, _] ++ (L_39 ++ (L_37 ++ (L_22 ++ (L_26 ++ (L_24 ++ (L_5 ++ ([])))))))) := h
          refine r_chk1 ?_ ?_
          · exact ldOk_blk h 6 rfl (a2.sz)
          refine ⟨?_, ?_⟩
          ·
            skip
            refine r_call h (c_toKeyV (a2.at h)) fun r115 _ _ _ ⟨L_79, hL, hO_80⟩ => ?_
            have h := (h.join hL).rot
            have h : At w _ ([_, _, _, _, _, _, _, _, _] ++ (L_79 ++ (L_39 ++ (L_37 ++ (L_22 ++ (L_26 ++ (L_24 ++ (L_5 ++ ([]))))))))) := h
            refine ⟨?_, ?_⟩
            ·
              skip
              refine r_call h (c_impl_UndoCommit (hO_38.rd h.pl3) (hO_40.rd h.pl2) (hO_80.rd h.pl1) (by omega)) fun r117 _ h2 _ ⟨L_81, hL, hO_82, hc_83, hc_84⟩ => ?_
              have h := (h.join hL).rot
              have hc_83 : RdKey w r117.2.1 (undoAns d0 d1 d2 x3).2.1 := hc_83
              have h : At w _ ([_, _, _, _, _, _, _, _, _] ++ (L_81 ++ (L_79 ++ (L_39 ++ (L_37 ++ (L_22 ++ (L_26 ++ (L_24 ++ (L_5 ++ ([])))))))))) := h
              refine r_new h fun b20 _ h => ?_
              have h : At w _ ([_, _, _, _, _, _, _, _, _, _] ++ (L_81 ++ (L_79 ++ (L_39 ++ (L_37 ++ (L_22 ++ (L_26 ++ (L_24 ++ (L_5 ++ ([])))))))))) := h
              refine r_stA h 0 rfl rfl (hO_82.sz) (rfl) (hO_82.one) fun _ h => ?_
              have h : At w _ ([_, _, _, _, _, _, _, _, _, _] ++ (L_81 ++ (L_79 ++ (L_39 ++ (L_37 ++ (L_22 ++ (L_26 ++ (L_24 ++ (L_5 ++ ([])))))))))) := h
              refine r_stA h 1 rfl rfl (hc_83.sz) (rfl) (hc_83.one) fun _ h => ?_
              have h : At w _ ([_, _, _, _, _, _, _, _, _, _] ++ (L_81 ++ (L_79 ++ (L_39 ++ (L_37 ++ (L_22 ++ (L_26 ++ (L_24 ++ (L_5 ++ ([])))))))))) := h
              have h := h.dr2
              have h := h.dr2
              have h := h.dr2
              have h : At w _ ([_, _, _, _, _, _, _, _, _, _] ++ (L_81 ++ (L_22 ++ (L_26 ++ (L_24 ++ (L_5 ++ ([]))))))) := h
              exact ⟨(⟨b20, 0, none⟩, ⟨b21, 0, none⟩, r117.2.2), rfl, b20, r117.1, L_81, b21, r117.2.1, rfl, hO_82, rfl, hc_83, hc_84, h⟩
            refine r_new h fun b20 _ h => ?_
            have h : At w _ ([_, _, _, _, _, _, _, _, _, _] ++ (L_79 ++ (L_39 ++ (L_37 ++ (L_22 ++ (L_26 ++ (L_24 ++ (L_5 ++ ([]))))))))) := h
            refine r_call h (c_impl_UndoCommit (hO_38.rd h.pl3) (hO_40.rd h.pl2) (hO_80.rd h.pl1) (by omega)) fun r117 _ h2 _ ⟨L_85, hL, hO_86, hc_87, hc_88⟩ => ?_
            have h := (h.join hL).rot
            have hc_87 : RdKey w r117.2.1 (undoAns d0 d1 d2 x3).2.1 := hc_87
            have h : At w _ ([_, _, _, _, _, _, _, _, _, _] ++ (L_85 ++ (L_79 ++ (L_39 ++ (L_37 ++ (L_22 ++ (L_26 ++ (L_24 ++ (L_5 ++ ([])))))))))) := h
            refine r_stA h 0 rfl rfl (hO_86.sz) (rfl) (hO_86.one) fun _ h => ?_
            have h : At w _ ([_, _, _, _, _, _, _, _, _, _] ++ (L_85 ++ (L_79 ++ (L_39 ++ (L_37 ++ (L_22 ++ (L_26 ++ (L_24 ++ (L_5 ++ ([])))))))))) := h
            refine r_stA h 1 rfl rfl (hc_87.sz) (rfl) (hc_87.one) fun _ h => ?_
            have h : At w _ ([_, _, _, _, _, _, _, _, _, _] ++ (L_85 ++ (L_79 ++ (L_39 ++ (L_37 ++ (L_22 ++ (L_26 ++ (L_24 ++ (L_5 ++ ([])))))))))) := h
            have h := h.dr2
            have h := h.dr2
            have h := h.dr2
            have h : At w _ ([_, _, _, _, _, _, _, _, _, _] ++ (L_85 ++ (L_22 ++ (L_26 ++ (L_24 ++ (L_5 ++ ([]))))))) := h
            exact ⟨(⟨b20, 0, none⟩, ⟨b21, 0, none⟩, r117.2.2), rfl, b20, r117.1, L_85, b21, r117.2.1, rfl, hO_86, rfl, hc_87, hc_88, h⟩
          refine r_new h fun b20 _ h => ?_
          have h : At w _ ([_, _, _, _, _, _, _, _, _, _] ++ (L_39 ++ (L_37 ++ (L_22 ++ (L_26 ++ (L_24 ++ (L_5 ++ ([])))))))) := h
          refine r_chk1 ?_ ?_
          · exact ldOk_blk h 7 rfl (a2.sz)
          refine r_call h (c_toKeyV (a2.at h)) fun r115 _ _ _ ⟨L_89, hL, hO_90⟩ => ?_
          have h := (h.join hL).rot
          have h : At w _ ([_, _, _, _, _, _, _, _, _, _] ++ (L_89 ++ (L_39 ++ (L_37 ++ (L_22 ++ (L_26 ++ (L_24 ++ (L_5 ++ ([]))))))))) := h
          refine r_call h (c_impl_UndoCommit (hO_38.rd h.pl3) (hO_40.rd h.pl2) (hO_90.rd h.pl1) (by omega)) fun r117 _ h2 _ ⟨L_91, hL, hO_92, hc_93, hc_94⟩ => ?_
          have h := (h.join hL).rot
          have hc_93 : RdKey w r117.2.1 (undoAns d0 d1 d2 x3).2.1 := hc_93
          have h : At w _ ([_, _, _, _, _, _, _, _, _, _] ++ (L_91 ++ (L_89 ++ (L_39 ++ (L_37 ++ (L_22 ++ (L_26 ++ (L_24 ++ (L_5 ++ ([])))))))))) := h
          refine r_stA h 0 rfl rfl (hO_92.sz) (rfl) (hO_92.one) fun _ h => ?_
          have h : At w _ ([_, _, _, _, _, _, _, _, _, _] ++ (L_91 ++ (L_89 ++ (L_39 ++ (L_37 ++ (L_22 ++ (L_26 ++ (L_24 ++ (L_5 ++ ([])))))))))) := h
          refine r_stA h 1 rfl rfl (hc_93.sz) (rfl) (hc_93.one) fun _ h => ?_
          have h : At w _ ([_, _, _, _, _, _, _, _, _, _] ++ (L_91 ++ (L_89 ++ (L_39 ++ (L_37 ++ (L_22 ++ (L_26 ++ (L_24 ++ (L_5 ++ ([])))))))))) := h
          have h := h.dr2
          have h := h.dr2
          have h := h.dr2
          have h : At w _ ([_, _, _, _, _, _, _, _, _, _] ++ (L_91 ++ (L_22 ++ (L_26 ++ (L_24 ++ (L_5 ++ ([]))))))) := h
          exact ⟨(⟨b20, 0, none⟩, ⟨b21, 0, none⟩, r117.2.2), rfl, b20, r117.1, L_91, b21, r117.2.1, rfl, hO_92, rfl, hc_93, hc_94, h⟩
        refine ⟨?_, ?_⟩
        ·
          skip
          refine r_new h fun b20 _ h => ?_
          have h : At w _ ([_, _, _, _, _, _, _, _, _] ++ (L_37 ++ (L_22 ++ (L_26 ++ (L_24 ++ (L_5 ++ ([]))))))) := h
          refine r_chk2 ?_ ?_ ?_
          · exact ldOk_blk h 6 rfl (a2.sz)
          · exact ldOk_blk h 7 rfl (a1.sz)
          refine ⟨?_, ?_⟩
          ·
            skip
            refine r_call h (c_toKeyV (a1.at h)) fun r113 _ _ _ ⟨L_95, hL, hO_96⟩ => ?_
            have h := (h.join hL).rot
            have h : At w _ ([_, _, _, _, _, _, _, _, _] ++ (L_95 ++ (L_37 ++ (L_22 ++ (L_26 ++ (L_24 ++ (L_5 ++ ([])))))))) := h
            refine r_chk1 ?_ ?_
            · exact ldOk_blk h 6 rfl (a2.sz)
            refine ⟨?_, ?_⟩
            ·
              skip
              refine r_call h (c_toKeyV (a2.at h)) fun r115 _ _ _ ⟨L_97, hL, hO_98⟩ => ?_
              have h := (h.join hL).rot
              have h : At w _ ([_, _, _, _, _, _, _, _, _] ++ (L_97 ++ (L_95 ++ (L_37 ++ (L_22 ++ (L_26 ++ (L_24 ++ (L_5 ++ ([]))))))))) := h
              refine ⟨?_, ?_⟩
              ·
                skip
                refine r_call h (c_impl_UndoCommit (hO_38.rd h.pl3) (hO_96.rd h.pl2) (hO_98.rd h.pl1) (by omega)) fun r117 _ h2 _ ⟨L_99, hL, hO_100, hc_101, hc_102⟩ => ?_
                have h := (h.join hL).rot
                have hc_101 : RdKey w r117.2.1 (undoAns d0 d1 d2 x3).2.1 := hc_101
                have h : At w _ ([_, _, _, _, _, _, _, _, _] ++ (L_99 ++ (L_97 ++ (L_95 ++ (L_37 ++ (L_22 ++ (L_26 ++ (L_24 ++ (L_5 ++ ([])))))))))) := h
                refine r_new h fun b21 _ h => ?_
                have h : At w _ ([_, _, _, _, _, _, _, _, _, _] ++ (L_99 ++ (L_97 ++ (L_95 ++ (L_37 ++ (L_22 ++ (L_26 ++ (L_24 ++ (L_5 ++ ([])))))))))) := h
                refine r_stA h 1 rfl rfl (hO_100.sz) (rfl) (hO_100.one) fun _ h => ?_
                have h : At w _ ([_, _, _, _, _, _, _, _, _, _] ++ (L_99 ++ (L_97 ++ (L_95 ++ (L_37 ++ (L_22 ++ (L_26 ++ (L_24 ++ (L_5 ++ ([])))))))))) := h
                refine r_stA h 0 rfl rfl (hc_101.sz) (rfl) (hc_101.one) fun _ h => ?_
                have h : At w _ ([_, _, _, _, _, _, _, _, _, _] ++ (L_99 ++ (L_97 ++ (L_95 ++ (L_37 ++ (L_22 ++ (L_26 ++ (L_24 ++ (L_5 ++ ([])))))))))) := h
                have h := h.dr2
                have h := h.dr2
                have h := h.dr2
                have h : At w _ ([_, _, _, _, _, _, _, _, _, _] ++ (L_99 ++ (L_22 ++ (L_26 ++ (L_24 ++ (L_5 ++ ([]))))))) := h
                have h := At.sw2 h
                have h : At w _ ([_, _, _, _, _, _, _, _, _, _] ++ (L_99 ++ (L_22 ++ (L_26 ++ (L_24 ++ (L_5 ++ ([]))))))) := h
                exact ⟨(⟨b20, 0, none⟩, ⟨b21, 0, none⟩, r117.2.2), rfl, b20, r117.1, L_99, b21, r117.2.1, rfl, hO_100, rfl, hc_101, hc_102, h⟩
              refine r_new h fun b21 _ h => ?_
              have h : At w _ ([_, _, _, _, _, _, _, _, _, _] ++ (L_97 ++ (L_95 ++ (L_37 ++ (L_22 ++ (L_26 ++ (L_24 ++ (L_5 ++ ([]))))))))) := h
              refine r_call h (c_impl_UndoCommit (hO_38.rd h.pl3) (hO_96.rd h.pl2) (hO_98.rd h.pl1) (by omega)) fun r117 _ h2 _ ⟨L_103, hL, hO_104, hc_105, hc_106⟩ => ?_
              have h := (h.join hL).rot
              have hc_105 : RdKey w r117.2.1 (undoAns d0 d1 d2 x3).2.1 := hc_105
              have h : At w _ ([_, _, _, _, _, _, _, _, _, _] ++ (L_103 ++ (L_97 ++ (L_95 ++ (L_37 ++ (L_22 ++ (L_26 ++ (L_24 ++ (L_5 ++ ([])))))))))) := h
              refine r_stA h 1 rfl rfl (hO_104.sz) (rfl) (hO_104.one) fun _ h => ?_
              have h : At w _ ([_, _, _, _, _, _, _, _, _, _] ++ (L_103 ++ (L_97 ++ (L_95 ++ (L_37 ++ (L_22 ++ (L_26 ++ (L_24 ++ (L_5 ++ ([])))))))))) := h
              refine r_stA h 0 rfl rfl (hc_105.sz) (rfl) (hc_105.one) fun _ h => ?_
              have h : At w _ ([_, _, _, _, _, _, _, _, _, _] ++ (L_103 ++ (L_97 ++ (L_95 ++ (L_37 ++ (L_22 ++ (L_26 ++ (L_24 ++ (L_5 ++ ([])))))))))) := h
              have h := h.dr2
              have h := h.dr2
              have h := h.dr2
              have h : At w _ ([_, _, _, _, _, _, _, _, _, _] ++ (L_103 ++ (L_22 ++ (L_26 ++ (L_24 ++ (L_5 ++ ([]))))))) := h
              have h := At.sw2 h
              have h : At w _ ([_, _, _, _, _, _, _, _, _, _] ++ (L_103 ++ (L_22 ++ (L_26 ++ (L_24 ++ (L_5 ++ ([]))))))) := h
              exact ⟨(⟨b20, 0, none⟩, ⟨b21, 0, none⟩, r117.2.2), rfl, b20, r117.1, L_103, b21, r117.2.1, rfl, hO_104, rfl, hc_105, hc_106, h⟩
            refine r_new h fun b21 _ h => ?_
            have h : At w _ ([_, _, _, _, _, _, _, _, _, _] ++ (L_95 ++ (L_37 ++ (L_22 ++ (L_26 ++ (L_24 ++ (L_5 ++ ([])))))))) := h
            refine r_chk1 ?_ ?_
            · exact ldOk_blk h 7 rfl (a2.sz)
            refine r_call h (c_toKeyV (a2.at h)) fun r115 _ _ _ ⟨L_107, hL, hO_108⟩ => ?_
            have h := (h.join hL).rot
            have h : At w _ ([_, _, _, _, _, _, _, _, _, _] ++ (L_107 ++ (L_95 ++ (L_37 ++ (L_22 ++ (L_26 ++ (L_24 ++ (L_5 ++ ([]))))))))) := h
            refine r_call h (c_impl_UndoCommit (hO_38.rd h.pl3) (hO_96.rd h.pl2) (hO_108.rd h.pl1) (by omega)) fun r117 _ h2 _ ⟨L_109, hL, hO_110, hc_111, hc_112⟩ => ?_
            have h := (h.join hL).rot
            have hc_111 : RdKey w r117.2.1 (undoAns d0 d1 d2 x3).2.1 := hc_111
            have h : At w _ ([_, _, _, _, _, _, _, _, _, _] ++ (L_109 ++ (L_107 ++ (L_95 ++ (L_37 ++ (L_22 ++ (L_26 ++ (L_24 ++ (L_5 ++ ([])))))))))) := h
            refine r_stA h 1 rfl rfl (hO_110.sz) (rfl) (hO_110.one) fun _ h => ?_
            have h : At w _ ([_, _, _, _, _, _, _, _, _, _] ++ (L_109 ++ (L_107 ++ (L_95 ++ (L_37 ++ (L_22 ++ (L_26 ++ (L_24 ++ (L_5 ++ ([])))))))))) := h
            refine r_stA h 0 rfl rfl (hc_111.sz) (rfl) (hc_111.one) fun _ h => ?_
            have h : At w _ ([_, _, _, _, _, _, _, _, _, _] ++ (L_109 ++ (L_107 ++ (L_95 ++ (L_37 ++ (L_22 ++ (L_26 ++ (L_24 ++ (L_5 ++ ([])))))))))) := h
            have h := h.dr2
            have h := h.dr2
            have h := h.dr2
            have h : At w _ ([_, _, _, _, _, _, _, _, _, _] ++ (L_109 ++ (L_22 ++ (L_26 ++ (L_24 ++ (L_5 ++ ([]))))))) := h
            have h := At.sw2 h
            have h : At w _ ([_, _, _, _, _, _, _, _, _, _] ++ (L_109 ++ (L_22 ++ (L_26 ++ (L_24 ++ (L_5 ++ ([]))))))) := h
            exact ⟨(⟨b20, 0, none⟩, ⟨b21, 0, none⟩, r117.2.2), rfl, b20, r117.1, L_109, b21, r117.2.1, rfl, hO_110, rfl, hc_111, hc_112, h⟩
          refine r_new h fun b21 _ h => ?_
          have h : At w _ ([_, _, _, _, _, _, _, _, _, _] ++ (L_37 ++ (L_22 ++ (L_26 ++ (L_24 ++ (L_5 ++ ([]))))))) := h
          refine r_chk2 ?_ ?_ ?_
          · exact ldOk_blk h 7 rfl (a2.sz)
          · exact ldOk_blk h 8 rfl (a1.sz)
          refine r_call h (c_toKeyV (a1.at h)) fun r113 _ _ _ ⟨L_113, hL, hO_114⟩ => ?_
          have h := (h.join hL).rot
          have h : At w _ ([_, _, _, _, _, _, _, _, _, _] ++ (L_113 ++ (L_37 ++ (L_22 ++ (L_26 ++ (L_24 ++ (L_5 ++ ([])))))))) := h
          refine r_chk1 ?_ ?_
          · exact ldOk_blk h 7 rfl (a2.sz)
          refine r_call h (c_toKeyV (a2.at h)) fun r115 _ _ _ ⟨L_115, hL, hO_116⟩ => ?_
          have h := (h.join hL).rot
          have h : At w _ ([_, _, _, _, _, _, _, _, _, _] ++ (L_115 ++ (L_113 ++ (L_37 ++ (L_22 ++ (L_26 ++ (L_24 ++ (L_5 ++ ([]))))))))) := h
          refine r_call h (c_impl_UndoCommit (hO_38.rd h.pl3) (hO_114.rd h.pl2) (hO_116.rd h.pl1) (by omega)) fun r117 _ h2 _ ⟨L_117, hL, hO_118, hc_119, hc_120⟩ => ?_
          have h := (h.join hL).rot
          have hc_119 : RdKey w r117.2.1 (undoAns d0 d1 d2 x3).2.1 := hc_119
          have h : At w _ ([_, _, _, _, _, _, _, _, _, _] ++ (L_117 ++ (L_115 ++ (L_113 ++ (L_37 ++ (L_22 ++ (L_26 ++ (L_24 ++ (L_5 ++ ([])))))))))) := h
          refine r_stA h 1 rfl rfl (hO_118.sz) (rfl) (hO_118.one) fun _ h => ?_
          have h : At w _ ([_, _, _, _, _, _, _, _, _, _] ++ (L_117 ++ (L_115 ++ (L_113 ++ (L_37 ++ (L_22 ++ (L_26 ++ (L_24 ++ (L_5 ++ ([])))))))))) := h
          refine r_stA h 0 rfl rfl (hc_119.sz) (rfl) (hc_119.one) fun _ h => ?_
          have h : At w _ ([_, _, _, _, _, _, _, _, _, _] ++ (L_117 ++ (L_115 ++ (L_113 ++ (L_37 ++ (L_22 ++ (L_26 ++ (L_24 ++ (L_5 ++ ([])))))))))) := h
          have h := h.dr2
          have h := h.dr2
          have h := h.dr2
          have h : At w _ ([_, _, _, _, _, _, _, _, _, _] ++ (L_117 ++ (L_22 ++ (L_26 ++ (L_24 ++ (L_5 ++ ([]))))))) := h
          have h := At.sw2 h
          have h : At w _ ([_, _, _, _, _, _, _, _, _, _] ++ (L_117 ++ (L_22 ++ (L_26 ++ (L_24 ++ (L_5 ++ ([]))))))) := h
          exact ⟨(⟨b20, 0, none⟩, ⟨b21, 0, none⟩, r117.2.2), rfl, b20, r117.1, L_117, b21, r117.2.1, rfl, hO_118, rfl, hc_119, hc_120, h⟩
        refine r_new h fun b21 _ h => ?_
        have h : At w _ ([_, _, _, _, _, _, _, _, _] ++ (L_37 ++ (L_22 ++ (L_26 ++ (L_24 ++ (L_5 ++ ([]))))))) := h
        refine r_chk2 ?_ ?_ ?_
        · exact ldOk_blk h 6 rfl (a2.sz)
        · exact ldOk_blk h 7 rfl (a1.sz)
        refine ⟨?_, ?_⟩
        ·
          skip
          refine r_call h (c_toKeyV (a1.at h)) fun r113 _ _ _ ⟨L_121, hL, hO_122⟩ => ?_
          have h := (h.join hL).rot
          have h : At w _ ([_, _, _, _, _, _, _, _, _] ++ (L_121 ++ (L_37 ++ (L_22 ++ (L_26 ++ (L_24 ++ (L_5 ++ ([])))))))) := h
          refine r_chk1 ?_ ?_
          · exact ldOk_blk h 6 rfl (a2.sz)
          refine ⟨?_, ?_⟩
          ·
            skip
            refine r_call h (c_toKeyV (a2.at h)) fun r115 _ _ _ ⟨L_123, hL, hO_124⟩ => ?_
            have h := (h.join hL).rot
            have h : At w _ ([_, _, _, _, _, _, _, _, _] ++ (L_123 ++ (L_121 ++ (L_37 ++ (L_22 ++ (L_26 ++ (L_24 ++ (L_5 ++ ([]))))))))) := h
            refine ⟨?_, ?_⟩
            ·
              skip
              refine r_call h (c_impl_UndoCommit (hO_38.rd h.pl3) (hO_122.rd h.pl2) (hO_124.rd h.pl1) (by omega)) fun r117 _ h2 _ ⟨L_125, hL, hO_126, hc_127, hc_128⟩ => ?_
              have h := (h.join hL).rot
              have hc_127 : RdKey w r117.2.1 (undoAns d0 d1 d2 x3).2.1 := hc_127
              have h : At w _ ([_, _, _, _, _, _, _, _, _] ++ (L_125 ++ (L_123 ++ (L_121 ++ (L_37 ++ (L_22 ++ (L_26 ++ (L_24 ++ (L_5 ++ ([])))))))))) := h
              refine r_new h fun b20 _ h => ?_
              have h : At w _ ([_, _, _, _, _, _, _, _, _, _] ++ (L_125 ++ (L_123 ++ (L_121 ++ (L_37 ++ (L_22 ++ (L_26 ++ (L_24 ++ (L_5 ++ ([])))))))))) := h
              refine r_stA h 0 rfl rfl (hO_126.sz) (rfl) (hO_126.one) fun _ h => ?_
              have h : At w _ ([_, _, _, _, _, _, _, _, _, _] ++ (L_125 ++ (L_123 ++ (L_121 ++ (L_37 ++ (L_22 ++ (L_26 ++ (L_24 ++ (L_5 ++ ([])))))))))) := h
              refine r_stA h 1 rfl rfl (hc_127.sz) (rfl) (hc_127.one) fun _ h => ?_
              have h : At w _ ([_, _, _, _, _, _, _, _, _, _] ++ (L_125 ++ (L_123 ++ (L_121 ++ (L_37 ++ (L_22 ++ (L_26 ++ (L_24 ++ (L_5 ++ ([])))))))))) := h
              have h := h.dr2
              have h := h.dr2
              have h := h.dr2
              have h : At w _ ([_, _, _, _, _, _, _, _, _, _] ++ (L_125 ++ (L_22 ++ (L_26 ++ (L_24 ++ (L_5 ++ ([]))))))) := h
              exact ⟨(⟨b20, 0, none⟩, ⟨b21, 0, none⟩, r117.2.2), rfl, b20, r117.1, L_125, b21, r117.2.1, rfl, hO_126, rfl, hc_127, hc_128, h⟩
            refine r_new h fun b20 _ h => ?_
            have h : At w _ ([_, _, _, _, _, _, _, _, _, _] ++ (L_123 ++ (L_121 ++ (L_37 ++ (L_22 ++ (L_26 ++ (L_24 ++ (L_5 ++ ([]))))))))) := h
            refine r_call h (c_impl_UndoCommit (hO_38.rd h.pl3) (hO_122.rd h.pl2) (hO_124.rd h.pl1) (by omega)) fun r117 _ h2 _ ⟨L_129, hL, hO_130, hc_131, hc_132⟩ => ?_
            have h := (h.join hL).rot
            have hc_131 : RdKey w r117.2.1 (undoAns d0 d1 d2 x3).2.1 := hc_131
            have h : At w _ ([_, _, _, _, _, _, _, _, _, _] ++ (L_129 ++ (L_123 ++ (L_121 ++ (L_37 ++ (L_22 ++ (L_26 ++ (L_24 ++ (L_5 ++ ([])))))))))) := h
            refine r_stA h 0 rfl rfl (hO_130.sz) (rfl) (hO_130.one) fun _ h => ?_
            have h : At w _ ([_, _, _, _, _, _, _, _, _, _] ++ (L_129 ++ (L_123 ++ (L_121 ++ (L_37 ++ (L_22 ++ (L_26 ++ (L_24 ++ (L_5 ++ ([])))))))))) := h
            refine r_stA h 1 rfl rfl (hc_131.sz) (rfl) (hc_131.one) fun _ h => ?_
            have h : At w _ ([_, _, _, _, _, _, _, _, _, _] ++ (L_129 ++ (L_123 ++ (L_121 ++ (L_37 ++ (L_22 ++ (L_26 ++ (L_24 ++ (L_5 ++ ([])))))))))) := h
            have h := h.dr2
            have h := h.dr2
            have h := h.dr2
            have h : At w _ ([_, _, _, _, _, _, _, _, _, _] ++ (L_129 ++ (L_22 ++ (L_26 ++ (L_24 ++ (L_5 ++ ([]))))))) := h
            exact ⟨(⟨b20, 0, none⟩, ⟨b21, 0, none⟩, r117.2.2), rfl, b20, r117.1, L_129, b21, r117.2.1, rfl, hO_130, rfl, hc_131, hc_132, h⟩
          refine r_new h fun b20 _ h => ?_
          have h : At w _ ([_, _, _, _, _, _, _, _, _, _] ++ (L_121 ++ (L_37 ++ (L_22 ++ (L_26 ++ (L_24 ++ (L_5 ++ ([])))))))) := h
          refine r_chk1 ?_ ?_
          · exact ldOk_blk h 7 rfl (a2.sz)
          refine r_call h (c_toKeyV (a2.at h)) fun r115 _ _ _ ⟨L_133, hL, hO_134⟩ => ?_
          have h := (h.join hL).rot
          have h : At w _ ([_, _, _, _, _, _, _, _, _, _] ++ (L_133 ++ (L_121 ++ (L_37 ++ (L_22 ++ (L_26 ++ (L_24 ++ (L_5 ++ ([]))))))))) := h
          refine r_call h (c_impl_UndoCommit (hO_38.rd h.pl3) (hO_122.rd h.pl2) (hO_134.rd h.pl1) (by omega)) fun r117 _ h2 _ ⟨L_135, hL, hO_136, hc_137, hc_138⟩ => ?_
          have h := (h.join hL).rot
          have hc_137 : RdKey w r117.2.1 (undoAns d0 d1 d2 x3).2.1 := hc_137
          have h : At w _ ([_, _, _, _, _, _, _, _, _, _] ++ (L_135 ++ (L_133 ++ (L_121 ++ (L_37 ++ (L_22 ++ (L_26 ++ (L_24 ++ (L_5 ++ ([])))))))))) := h
          refine r_stA h 0 rfl rfl (hO_136.sz) (rfl) (hO_136.one) fun _ h => ?_
          have h : At w _ ([_, _, _, _, _, _, _, _, _, _] ++ (L_135 ++ (L_133 ++ (L_121 ++ (L_37 ++ (L_22 ++ (L_26 ++ (L_24 ++ (L_5 ++ ([])))))))))) := h
          refine r_stA h 1 rfl rfl (hc_137.sz) (rfl) (hc_137.one) fun _ h => ?_
          have h : At w _ ([_, _, _, _, _, _, _, _, _, _] ++ (L_135 ++ (L_133 ++ (L_121 ++ (L_37 ++ (L_22 ++ (L_26 ++ (L_24 ++ (L_5 ++ ([])))))))))) := h
          have h := h.dr2
          have h := h.dr2
          have h := h.dr2
          have h : At w _ ([_, _, _, _, _, _, _, _, _, _] ++ (L_135 ++ (L_22 ++ (L_26 ++ (L_24 ++ (L_5 ++ ([]))))))) := h
          exact ⟨(⟨b20, 0, none⟩, ⟨b21, 0, none⟩, r117.2.2), rfl, b20, r117.1, L_135, b21, r117.2.1, rfl, hO_136, rfl, hc_137, hc_138, h⟩
        refine r_new h fun b20 _ h => ?_
        have h : At w _ ([_, _, _, _, _, _, _, _, _, _] ++ (L_37 ++ (L_22 ++ (L_26 ++ (L_24 ++ (L_5 ++ ([]))))))) := h
        refine r_chk2 ?_ ?_ ?_
        · exact ldOk_blk h 7 rfl (a2.sz)
        · exact ldOk_blk h 8 rfl (a1.sz)
        refine r_call h (c_toKeyV (a1.at h)) fun r113 _ _ _ ⟨L_139, hL, hO_140⟩ => ?_
        have h := (h.join hL).rot
        have h : At w _ ([_, _, _, _, _, _, _, _, _, _] ++ (L_139 ++ (L_37 ++ (L_22 ++ (L_26 ++ (L_24 ++ (L_5 ++ ([])))))))) := h
        refine r_chk1 ?_ ?_
        · exact ldOk_blk h 7 rfl (a2.sz)
        refine r_call h (c_toKeyV (a2.at h)) fun r115 _ _ _ ⟨L_141, hL, hO_142⟩ => ?_
        have h := (h.join hL).rot
        have h : At w _ ([_, _, _, _, _, _, _, _, _, _] ++ (L_141 ++ (L_139 ++ (L_37 ++ (L_22 ++ (L_26 ++ (L_24 ++ (L_5 ++ ([]))))))))) := h
        refine r_call h (c_impl_UndoCommit (hO_38.rd h.pl3) (hO_140.rd h.pl2) (hO_142.rd h.pl1) (by omega)) fun r117 _ h2 _ ⟨L_143, hL, hO_144, hc_145, hc_146⟩ => ?_
        have h := (h.join hL).rot
        have hc_145 : RdKey w r117.2.1 (undoAns d0 d1 d2 x3).2.1 := hc_145
        have h : At w _ ([_, _, _, _, _, _, _, _, _, _] ++ (L_143 ++ (L_141 ++ (L_139 ++ (L_37 ++ (L_22 ++ (L_26 ++ (L_24 ++ (L_5 ++ ([])))))))))) := h
        refine r_stA h 0 rfl rfl (hO_144.sz) (rfl) (hO_144.one) fun _ h => ?_
        have h : At w _ ([_, _, _, _, _, _, _, _, _, _] ++ (L_143 ++ (L_141 ++ (L_139 ++ (L_37 ++ (L_22 ++ (L_26 ++ (L_24 ++ (L_5 ++ ([])))))))))) := h
        refine r_stA h 1 rfl rfl (hc_145.sz) (rfl) (hc_145.one) fun _ h => ?_
        have h : At w _ ([_, _, _, _, _, _, _, _, _, _] ++ (L_143 ++ (L_141 ++ (L_139 ++ (L_37 ++ (L_22 ++ (L_26 ++ (L_24 ++ (L_5 ++ ([])))))))))) := h
        have h := h.dr2
        have h := h.dr2
        have h := h.dr2
        have h : At w _ ([_, _, _, _, _, _, _, _, _, _] ++ (L_143 ++ (L_22 ++ (L_26 ++ (L_24 ++ (L_5 ++ ([]))))))) := h
        exact ⟨(⟨b20, 0, none⟩, ⟨b21, 0, none⟩, r117.2.2), rfl, b20, r117.1, L_143, b21, r117.2.1, rfl, hO_144, rfl, hc_145, hc_146, h⟩
      refine ⟨?_, ?_⟩
      ·
        skip
        refine r_new h fun b20 _ h => ?_
        have h : At w _ ([_, _, _, _, _, _, _, _, _] ++ (L_22 ++ (L_26 ++ (L_24 ++ (L_5 ++ ([])))))) := h
        refine r_chk3 ?_ ?_ ?_ ?_
        · exact ldOk_blk h 6 rfl (a2.sz)
        · exact ldOk_blk h 7 rfl (a1.sz)
        · exact ldOk_blk h 8 rfl (a0.sz)
        refine ⟨?_, ?_⟩
        ·
          skip
          refine r_call h (c_toBookV (a0.rd.at h) (by omega)) fun r111 _ _ _ ⟨L_147, hL, hO_148⟩ => ?_
          have h := (h.join hL).rot
          have h : At w _ ([_, _, _, _, _, _, _, _, _] ++ (L_147 ++ (L_22 ++ (L_26 ++ (L_24 ++ (L_5 ++ ([]))))))) := h
          refine r_chk2 ?_ ?_ ?_
          · exact ldOk_blk h 6 rfl (a2.sz)
          · exact ldOk_blk h 7 rfl (a1.sz)
          refine ⟨?_, ?_⟩
          ·
            skip
            refine r_call h (c_toKeyV (a1.at h)) fun r113 _ _ _ ⟨L_149, hL, hO_150⟩ => ?_
            have h := (h.join hL).rot
            have h : At w _ ([_, _, _, _, _, _, _, _, _] ++ (L_149 ++ (L_147 ++ (L_22 ++ (L_26 ++ (L_24 ++ (L_5 ++ ([])))))))) := h
            refine r_chk1 ?_ ?_
            · exact ldOk_blk h 6 rfl (a2.sz)
            refine ⟨?_, ?_⟩
            ·
              skip
              refine r_call h (c_toKeyV (a2.at h)) fun r115 _ _ _ ⟨L_151, hL, hO_152⟩ => ?_
              have h := (h.join hL).rot
              have h : At w _ ([_, _, _, _, _, _, _, _, _] ++ (L_151 ++ (L_149 ++ (L_147 ++ (L_22 ++ (L_26 ++ (L_24 ++ (L_5 ++ ([]))))))))) := h
              refine ⟨?_, ?_⟩
              ·
                skip
                refine r_call h (c_impl_UndoCommit (hO_148.rd h.pl3) (hO_150.rd h.pl2) (hO_152.rd h.pl1) (by omega)) fun r117 _ h2 _ ⟨L_153, hL, hO_154, hc_155, hc_156⟩ => ?_
                have h := (h.join hL).rot
                have hc_155 : RdKey w r117.2.1 (undoAns d0 d1 d2 x3).2.1 := hc_155
                have h : At w _ ([_, _, _, _, _, _, _, _, _] ++ (L_153 ++ (L_151 ++ (L_149 ++ (L_147 ++ (L_22 ++ (L_26 ++ (L_24 ++ (L_5 ++ ([])))))))))) := h
                refine r_new h fun b21 _ h => ?_
                have h : At w _ ([_, _, _, _, _, _, _, _, _, _] ++ (L_153 ++ (L_151 ++ (L_149 ++ (L_147 ++ (L_22 ++ (L_26 ++ (L_24 ++ (L_5 ++ ([])))))))))) := h
                refine r_stA h 1 rfl rfl (hO_154.sz) (rfl) (hO_154.one) fun _ h => ?_
                have h : At w _ ([_, _, _, _, _, _, _, _, _, _] ++ (L_153 ++ (L_151 ++ (L_149 ++ (L_147 ++ (L_22 ++ (L_26 ++ (L_24 ++ (L_5 ++ ([])))))))))) := h
                refine r_stA h 0 rfl rfl (hc_155.sz) (rfl) (hc_155.one) fun _ h => ?_
                have h : At w _ ([_, _, _, _, _, _, _, _, _, _] ++ (L_153 ++ (L_151 ++ (L_149 ++ (L_147 ++ (L_22 ++ (L_26 ++ (L_24 ++ (L_5 ++ ([])))))))))) := h
                have h := h.dr2
                have h := h.dr2
                have h := h.dr2
                have h : At w _ ([_, _, _, _, _, _, _, _, _, _] ++ (L_153 ++ (L_22 ++ (L_26 ++ (L_24 ++ (L_5 ++ ([]))))))) := h
                have h := At.sw2 h
                have h : At w _ ([_, _, _, _, _, _, _, _, _, _] ++ (L_153 ++ (L_22 ++ (L_26 ++ (L_24 ++ (L_5 ++ ([]))))))) := h
                exact ⟨(⟨b20, 0, none⟩, ⟨b21, 0, none⟩, r117.2.2), rfl, b20, r117.1, L_153, b21, r117.2.1, rfl, hO_154, rfl, hc_155, hc_156, h⟩
              refine r_new h fun b21 _ h => ?_
              have h : At w _ ([_, _, _, _, _, _, _, _, _, _] ++ (L_151 ++ (L_149 ++ (L_147 ++ (L_22 ++ (L_26 ++ (L_24 ++ (L_5 ++ ([]))))))))) := h
              refine r_call h (c_impl_UndoCommit (hO_148.rd h.pl3) (hO_150.rd h.pl2) (hO_152.rd h.pl1) (by omega)) fun r117 _ h2 _ ⟨L_157, hL, hO_158, hc_159, hc_160⟩ => ?_
              have h := (h.join hL).rot
              have hc_159 : RdKey w r117.2.1 (undoAns d0 d1 d2 x3).2.1 := hc_159
              have h : At w _ ([_, _, _, _, _, _, _, _, _, _] ++ (L_157 ++ (L_151 ++ (L_149 ++ (L_147 ++ (L_22 ++ (L_26 ++ (L_24 ++ (L_5 ++ ([])))))))))) := h
              refine r_stA h 1 rfl rfl (hO_158.sz) (rfl) (hO_158.one) fun _ h => ?_
              have h : At w _ ([_, _, _, _, _, _, _, _, _, _] ++ (L_157 ++ (L_151 ++ (L_149 ++ (L_147 ++ (L_22 ++ (L_26 ++ (L_24 ++ (L_5 ++ ([])))))))))) := h
              refine r_stA h 0 rfl rfl (hc_159.sz) (rfl) (hc_159.one) fun _ h => ?_
              have h : At w _ ([_, _, _, _, _, _, _, _, _, _] ++ (L_157 ++ (L_151 ++ (L_149 ++ (L_147 ++ (L_22 ++ (L_26 ++ (L_24 ++ (L_5 ++ ([])))))))))) := h
              have h := h.dr2
              have h := h.dr2
              have h := h.dr2
              have h : At w _ ([_, _, _, _, _, _, _, _, _, _] ++ (L_157 ++ (L_22 ++ (L_26 ++ (L_24 ++ (L_5 ++ ([]))))))) := h
              have h := At.sw2 h
              have h : At w _ ([_, _, _, _, _, _, _, _, _, _] ++ (L_157 ++ (L_22 ++ (L_26 ++ (L_24 ++ (L_5 ++ ([]))))))) := h
              exact ⟨(⟨b20, 0, none⟩, ⟨b21, 0, none⟩, r117.2.2), rfl, b20, r117.1, L_157, b21, r117.2.1, rfl, hO_158, rfl, hc_159, hc_160, h⟩
            refine r_new h fun b21 _ h => ?_
            have h : At w _ ([_, _, _, _, _, _, _, _, _, _] ++ (L_149 ++ (L_147 ++ (L_22 ++ (L_26 ++ (L_24 ++ (L_5 ++ ([])))))))) := h
            refine r_chk1 ?_ ?_
            · exact ldOk_blk h 7 rfl (a2.sz)
            refine r_call h (c_toKeyV (a2.at h)) fun r115 _ _ _ ⟨L_161, hL, hO_162⟩ => ?_
            have h := (h.join hL).rot
            have h : At w _ ([_, _, _, _, _, _, _, _, _, _] ++ (L_161 ++ (L_149 ++ (L_147 ++ (L_22 ++ (L_26 ++ (L_24 ++ (L_5 ++ ([]))))))))) := h
            refine r_call h (c_impl_UndoCommit (hO_148.rd h.pl3) (hO_150.rd h.pl2) (hO_162.rd h.pl1) (by omega)) fun r117 _ h2 _ ⟨L_163, hL, hO_164, hc_165, hc_166⟩ => ?_
            have h := (h.join hL).rot
            have hc_165 : RdKey w r117.2.1 (undoAns d0 d1 d2 x3).2.1 := hc_165
            have h : At w _ ([_, _, _, _, _, _, _, _, _, _] ++ (L_163 ++ (L_161 ++ (L_149 ++ (L_147 ++ (L_22 ++ (L_26 ++ (L_24 ++ (L_5 ++ ([])))))))))) := h
            refine r_stA h 1 rfl rfl (hO_164.sz) (rfl) (hO_164.one) fun _ h => ?_
            have h : At w _ ([_, _, _, _, _, _, _, _, _, _] ++ (L_163 ++ (L_161 ++ (L_149 ++ (L_147 ++ (L_22 ++ (L_26 ++ (L_24 ++ (L_5 ++ ([])))))))))) := h
            refine r_stA h 0 rfl rfl (hc_165.sz) (rfl) (hc_165.one) fun _ h => ?_
            have h : At w _ ([_, _, _, _, _, _, _, _, _, _] ++ (L_163 ++ (L_161 ++ (L_149 ++ (L_147 ++ (L_22 ++ (L_26 ++ (L_24 ++ (L_5 ++ ([])))))))))) := h
            have h := h.dr2
            have h := h.dr2
            have h := h.dr2
            have h : At w _ ([_, _, _, _, _, _, _, _, _, _] ++ (L_163 ++ (L_22 ++ (L_26 ++ (L_24 ++ (L_5 ++ ([]))))))) := h
            have h := At.sw2 h
            have h : At w _ ([_, _, _, _, _, _, _, _, _, _] ++ (L_163 ++ (L_22 ++ (L_26 ++ (L_24 ++ (L_5 ++ ([]))))))) := h
            exact ⟨(⟨b20, 0, none⟩, ⟨b21, 0, none⟩, r117.2.2), rfl, b20, r117.1, L_163, b21, r117.2.1, rfl, hO_164, rfl, hc_165, hc_166, h⟩
          refine r_new h fun b21 _ h => ?_
          have h : At w _ ([_, _, _, _, _, _, _, _, _, _] ++ (L_147 ++ (L_22 ++ (L_26 ++ (L_24 ++ (L_5 ++ ([]))))))) := h
          refine r_chk2 ?_ ?_ ?_
          · exact ldOk_blk h 7 rfl (a2.sz)
          · exact ldOk_blk h 8 rfl (a1.sz)
          refine r_call h (c_toKeyV (a1.at h)) fun r113 _ _ _ ⟨L_167, hL, hO_168⟩ => ?_
          have h := (h.join hL).rot
          have h : At w _ ([_, _, _, _, _, _, _, _, _, _] ++ (L_167 ++ (L_147 ++ (L_22 ++ (L_26 ++ (L_24 ++ (L_5 ++ ([])))))))) := h
          refine r_chk1 ?_ ?_
          · exact ldOk_blk h 7 rfl (a2.sz)
          refine r_call h (c_toKeyV (a2.at h)) fun r115 _ _ _ ⟨L_169, hL, hO_170⟩ => ?_
          have h := (h.join hL).rot
          have h : At w _ ([_, _, _, _, _, _, _, _, _, _] ++ (L_169 ++ (L_167 ++ (L_147 ++ (L_22 ++ (L_26 ++ (L_24 ++ (L_5 ++ ([]))))))))) := h
          refine r_call h (c_impl_UndoCommit (hO_148.rd h.pl3) (hO_168.rd h.pl2) (hO_170.rd h.pl1) (by omega)) fun r117 _ h2 _ ⟨L_171, hL, hO_172, hc_173, hc_174⟩ => ?_
          have h := (h.join hL).rot
          have hc_173 : RdKey w r117.2.1 (undoAns d0 d1 d2 x3).2.1 := hc_173
          have h : At w _ ([_, _, _, _, _, _, _, _, _, _] ++ (L_171 ++ (L_169 ++ (L_167 ++ (L_147 ++ (L_22 ++ (L_26 ++ (L_24 ++ (L_5 ++ ([])))))))))) := h
          refine r_stA h 1 rfl rfl (hO_172.sz) (rfl) (hO_172.one) fun _ h => ?_
          have h : At w _ ([_, _, _, _, _, _, _, _, _, _] ++ (L_171 ++ (L_169 ++ (L_167 ++ (L_147 ++ (L_22 ++ (L_26 ++ (L_24 ++ (L_5 ++ ([])))))))))) := h
          refine r_stA h 0 rfl rfl (hc_173.sz) (rfl) (hc_173.one) fun _ h => ?_
          have h : At w _ ([_, _, _, _, _, _, _, _, _, _] ++ (L_171 ++ (L_169 ++ (L_167 ++ (L_147 ++ (L_22 ++ (L_26 ++ (L_24 ++ (L_5 ++ ([])))))))))) := h
          have h := h.dr2
          have h := h.dr2
          have h := h.dr2
          have h : At w _ ([_, _, _, _, _, _, _, _, _, _] ++ (L_171 ++ (L_22 ++ (L_26 ++ (L_24 ++ (L_5 ++ ([]))))))) := h
          have h := At.sw2 h
          have h : At w _ ([_, _, _, _, _, _, _, _, _, _] ++ (L_171 ++ (L_22 ++ (L_26 ++ (L_24 ++ (L_5 ++ ([]))))))) := h
          exact ⟨(⟨b20, 0, none⟩, ⟨b21, 0, none⟩, r117.2.2), rfl, b20, r117.1, L_171, b21, r117.2.1, rfl, hO_172, rfl, hc_173, hc_174, h⟩
        refine r_new h fun b21 _ h => ?_
        have h : At w _ ([_, _, _, _, _, _, _, _, _, _] ++ (L_22 ++ (L_26 ++ (L_24 ++ (L_5 ++ ([])))))) := h
        refine r_chk3 ?_ ?_ ?_ ?_
        · exact ldOk_blk h 7 rfl (a2.sz)
        · exact ldOk_blk h 8 rfl (a1.sz)
        · exact ldOk_blk h 9 rfl (a0.sz)
        refine r_call h (c_toBookV (a0.rd.at h) (by omega)) fun r111 _ _ _ ⟨L_175, hL, hO_176⟩ => ?_
        have h := (h.join hL).rot
        have h : At w _ ([_, _, _, _, _, _, _, _, _, _] ++ (L_175 ++ (L_22 ++ (L_26 ++ (L_24 ++ (L_5 ++ ([]))))))) := h
        refine r_chk2 ?_ ?_ ?_
        · exact ldOk_blk h 7 rfl (a2.sz)
        · exact ldOk_blk h 8 rfl (a1.sz)
        refine r_call h (c_toKeyV (a1.at h)) fun r113 _ _ _ ⟨L_177, hL, hO_178⟩ => ?_
        have h := (h.join hL).rot
        have h : At w _ ([_, _, _, _, _, _, _, _, _, _] ++ (L_177 ++ (L_175 ++ (L_22 ++ (L_26 ++ (L_24 ++ (L_5 ++ ([])))))))) := h
        refine r_chk1 ?_ ?_
        · exact ldOk_blk h 7 rfl (a2.sz)
        refine r_call h (c_toKeyV (a2.at h)) fun r115 _ _ _ ⟨L_179, hL, hO_180⟩ => ?_
        have h := (h.join hL).rot
        have h : At w _ ([_, _, _, _, _, _, _, _, _, _] ++ (L_179 ++ (L_177 ++ (L_175 ++ (L_22 ++ (L_26 ++ (L_24 ++ (L_5 ++ ([]))))))))) := h
        refine r_call h (c_impl_UndoCommit (hO_176.rd h.pl3) (hO_178.rd h.pl2) (hO_180.rd h.pl1) (by omega)) fun r117 _ h2 _ ⟨L_181, hL, hO_182, hc_183, hc_184⟩ => ?_
        have h := (h.join hL).rot
        have hc_183 : RdKey w r117.2.1 (undoAns d0 d1 d2 x3).2.1 := hc_183
        have h : At w _ ([_, _, _, _, _, _, _, _, _, _] ++ (L_181 ++ (L_179 ++ (L_177 ++ (L_175 ++ (L_22 ++ (L_26 ++ (L_24 ++ (L_5 ++ ([])))))))))) := h
        refine r_stA h 1 rfl rfl (hO_182.sz) (rfl) (hO_182.one) fun _ h => ?_
        have h : At w _ ([_, _, _, _, _, _, _, _, _, _] ++ (L_181 ++ (L_179 ++ (L_177 ++ (L_175 ++ (L_22 ++ (L_26 ++ (L_24 ++ (L_5 ++ ([])))))))))) := h
        refine r_stA h 0 rfl rfl (hc_183.sz) (rfl) (hc_183.one) fun _ h => ?_
        have h : At w _ ([_, _, _, _, _, _, _, _, _, _] ++ (L_181 ++ (L_179 ++ (L_177 ++ (L_175 ++ (L_22 ++ (L_26 ++ (L_24 ++ (L_5 ++ ([])))))))))) := h
        have h := h.dr2
        have h := h.dr2
        have h := h.dr2
        have h : At w _ ([_, _, _, _, _, _, _, _, _, _] ++ (L_181 ++ (L_22 ++ (L_26 ++ (L_24 ++ (L_5 ++ ([]))))))) := h
        have h := At.sw2 h
        have h : At w _ ([_, _, _, _, _, _, _, _, _, _] ++ (L_181 ++ (L_22 ++ (L_26 ++ (L_24 ++ (L_5 ++ ([]))))))) := h
        exact ⟨(⟨b20, 0, none⟩, ⟨b21, 0, none⟩, r117.2.2), rfl, b20, r117.1, L_181, b21, r117.2.1, rfl, hO_182, rfl, hc_183, hc_184, h⟩
      refine r_new h fun b21 _ h => ?_
      have h : At w _ ([_, _, _, _, _, _, _, _, _] ++ (L_22 ++ (L_26 ++ (L_24 ++ (L_5 ++ ([])))))) := h
      refine r_chk3 ?_ ?_ ?_ ?_
      · exact ldOk_blk h 6 rfl (a2.sz)
      · exact ldOk_blk h 7 rfl (a1.sz)
      · exact ldOk_blk h 8 rfl (a0.sz)
      refine ⟨?_, ?_⟩
      ·
        skip
        refine r_call h (c_toBookV (a0.rd.at h) (by omega)) fun r111 _ _ _ ⟨L_185, hL, hO_186⟩ => ?_
        have h := (h.join hL).rot
        have h : At w _ ([_, _, _, _, _, _, _, _, _] ++ (L_185 ++ (L_22 ++ (L_26 ++ (L_24 ++ (L_5 ++ ([]))))))) := h
        refine r_chk2 ?_ ?_ ?_
        · exact ldOk_blk h 6 rfl (a2.sz)
        · exact ldOk_blk h 7 rfl (a1.sz)
        refine ⟨?_, ?_⟩
        ·
          skip
          refine r_call h (c_toKeyV (a1.at h)) fun r113 _ _ _ ⟨L_187, hL, hO_188⟩ => ?_
          have h := (h.join hL).rot
          have h : At w _ ([_, _, _, _, _, _, _, _, _] ++ (L_187 ++ (L_185 ++ (L_22 ++ (L_26 ++ (L_24 ++ (L_5 ++ ([])))))))) := h
          refine r_chk1 ?_ ?_
          · exact ldOk_blk h 6 rfl (a2.sz)
          refine ⟨?_, ?_⟩
          ·
            skip
            refine r_call h (c_toKeyV (a2.at h)) fun r115 _ _ _ ⟨L_189, hL, hO_190⟩ => ?_
            have h := (h.join hL).rot
            have h : At w _ ([_, _, _, _, _, _, _, _, _] ++ (L_189 ++ (L_187 ++ (L_185 ++ (L_22 ++ (L_26 ++ (L_24 ++ (L_5 ++ ([]))))))))) := h
            refine ⟨?_, ?_⟩
            ·
              skip
              refine r_call h (c_impl_UndoCommit (hO_186.rd h.pl3) (hO_188.rd h.pl2) (hO_190.rd h.pl1) (by omega)) fun r117 _ h2 _ ⟨L_191, hL, hO_192, hc_193, hc_194⟩ => ?_
              have h := (h.join hL).rot
              have hc_193 : RdKey w r117.2.1 (undoAns d0 d1 d2 x3).2.1 := hc_193
              have h : At w _ ([_, _, _, _, _, _, _, _, _] ++ (L_191 ++ (L_189 ++ (L_187 ++ (L_185 ++ (L_22 ++ (L_26 ++ (L_24 ++ (L_5 ++ ([])))))))))) := h
              refine r_new h fun b20 _ h => ?_
              have h : At w _ ([_, _, _, _, _, _, _, _, _, _] ++ (L_191 ++ (L_189 ++ (L_187 ++ (L_185 ++ (L_22 ++ (L_26 ++ (L_24 ++ (L_5 ++ ([])))))))))) := h
              refine r_stA h 0 rfl rfl (hO_192.sz) (rfl) (hO_192.one) fun _ h => ?_
              have h : At w _ ([_, _, _, _, _, _, _, _, _, _] ++ (L_191 ++ (L_189 ++ (L_187 ++ (L_185 ++ (L_22 ++ (L_26 ++ (L_24 ++ (L_5 ++ ([])))))))))) := h
              refine r_stA h 1 rfl rfl (hc_193.sz) (rfl) (hc_193.one) fun _ h => ?_
              have h : At w _ ([_, _, _, _, _, _, _, _, _, _] ++ (L_191 ++ (L_189 ++ (L_187 ++ (L_185 ++ (L_22 ++ (L_26 ++ (L_24 ++ (L_5 ++ ([])))))))))) := h
              have h := h.dr2
              have h := h.dr2
              have h := h.dr2
              have h : At w _ ([_, _, _, _, _, _, _, _, _, _] ++ (L_191 ++ (L_22 ++ (L_26 ++ (L_24 ++ (L_5 ++ ([]))))))) := h
              exact ⟨(⟨b20, 0, none⟩, ⟨b21, 0, none⟩, r117.2.2), rfl, b20, r117.1, L_191, b21, r117.2.1, rfl, hO_192, rfl, hc_193, hc_194, h⟩
            refine r_new h fun b20 _ h => ?_
            have h : At w _ ([_, _, _, _, _, _, _, _, _, _] ++ (L_189 ++ (L_187 ++ (L_185 ++ (L_22 ++ (L_26 ++ (L_24 ++ (L_5 ++ ([]))))))))) := h
            refine r_call h (c_impl_UndoCommit (hO_186.rd h.pl3) (hO_188.rd h.pl2) (hO_190.rd h.pl1) (by omega)) fun r117 _ h2 _ ⟨L_195, hL, hO_196, hc_197, hc_198⟩ => ?_
            have h := (h.join hL).rot
            have hc_197 : RdKey w r117.2.1 (undoAns d0 d1 d2 x3).2.1 := hc_197
            have h : At w _ ([_, _, _, _, _, _, _, _, _, _] ++ (L_195 ++ (L_189 ++ (L_187 ++ (L_185 ++ (L_22 ++ (L_26 ++ (L_24 ++ (L_5 ++ ([])))))))))) := h
            refine r_stA h 0 rfl rfl (hO_196.sz) (rfl) (hO_196.one) fun _ h => ?_
            have h : At w _ ([_, _, _, _, _, _, _, _, _, _] ++ (L_195 ++ (L_189 ++ (L_187 ++ (L_185 ++ (L_22 ++ (L_26 ++ (L_24 ++ (L_5 ++ ([])))))))))) := h
            refine r_stA h 1 rfl rfl (hc_197.sz) (rfl) (hc_197.one) fun _ h => ?_
            have h : At w _ ([_, _, _, _, _, _, _, _, _, _] ++ (L_195 ++ (L_189 ++ (L_187 ++ (L_185 ++ (L_22 ++ (L_26 ++ (L_24 ++ (L_5 ++ ([])))))))))) := h
            have h := h.dr2
            have h := h.dr2
            have h := h.dr2
            have h : At w _ ([_, _, _, _, _, _, _, _, _, _] ++ (L_195 ++ (L_22 ++ (L_26 ++ (L_24 ++ (L_5 ++ ([]))))))) := h
            exact ⟨(⟨b20, 0, none⟩, ⟨b21, 0, none⟩, r117.2.2), rfl, b20, r117.1, L_195, b21, r117.2.1, rfl, hO_196, rfl, hc_197, hc_198, h⟩
          refine r_new h fun b20 _ h => ?_
          have h : At w _ ([_, _, _, _, _, _, _, _, _, _] ++ (L_187 ++ (L_185 ++ (L_22 ++ (L_26 ++ (L_24 ++ (L_5 ++ ([])))))))) := h
          refine r_chk1 ?_ ?_
          · exact ldOk_blk h 7 rfl (a2.sz)
          refine r_call h (c_toKeyV (a2.at h)) fun r115 _ _ _ ⟨L_199, hL, hO_200⟩ => ?_
          have h := (h.join hL).rot
          have h : At w _ ([_, _, _, _, _, _, _, _, _, _] ++ (L_199 ++ (L_187 ++ (L_185 ++ (L_22 ++ (L_26 ++ (L_24 ++ (L_5 ++ ([]))))))))) := h
          refine r_call h (c_impl_UndoCommit (hO_186.rd h.pl3) (hO_188.rd h.pl2) (hO_200.rd h.pl1) (by omega)) fun r117 _ h2 _ ⟨L_201, hL, hO_202, hc_203, hc_204⟩ => ?_
          have h := (h.join hL).rot
          have hc_203 : RdKey w r117.2.1 (undoAns d0 d1 d2 x3).2.1 := hc_203
          have h : At w _ ([_, _, _, _, _, _, _, _, _, _] ++ (L_201 ++ (L_199 ++ (L_187 ++ (L_185 ++ (L_22 ++ (L_26 ++ (L_24 ++ (L_5 ++ ([])))))))))) := h
          refine r_stA h 0 rfl rfl (hO_202.sz) (rfl) (hO_202.one) fun _ h => ?_
          have h : At w _ ([_, _, _, _, _, _, _, _, _, _] ++ (L_201 ++ (L_199 ++ (L_187 ++ (L_185 ++ (L_22 ++ (L_26 ++ (L_24 ++ (L_5 ++ ([])))))))))) := h
          refine r_stA h 1 rfl rfl (hc_203.sz) (rfl) (hc_203.one) fun _ h => ?_
          have h : At w _ ([_, _, _, _, _, _, _, _, _, _] ++ (L_201 ++ (L_199 ++ (L_187 ++ (L_185 ++ (L_22 ++ (L_26 ++ (L_24 ++ (L_5 ++ ([])))))))))) := h
          have h := h.dr2
          have h := h.dr2
          have h := h.dr2
          have h : At w _ ([_, _, _, _, _, _, _, _, _, _] ++ (L_201 ++ (L_22 ++ (L_26 ++ (L_24 ++ (L_5 ++ ([]))))))) := h
          exact ⟨(⟨b20, 0, none⟩, ⟨b21, 0, none⟩, r117.2.2), rfl, b20, r117.1, L_201, b21, r117.2.1, rfl, hO_202, rfl, hc_203, hc_204, h⟩
        refine r_new h fun b20 _ h => ?_
        have h : At w _ ([_, _, _, _, _, _, _, _, _, _] ++ (L_185 ++ (L_22 ++ (L_26 ++ (L_24 ++ (L_5 ++ ([]))))))) := h
        refine r_chk2 ?_ ?_ ?_
        · exact ldOk_blk h 7 rfl (a2.sz)
        · exact ldOk_blk h 8 rfl (a1.sz)
        refine r_call h (c_toKeyV (a1.at h)) fun r113 _ _ _ ⟨L_205, hL, hO_206⟩ => ?_
        have h := (h.join hL).rot
        have h : At w _ ([_, _, _, _, _, _, _, _, _, _] ++ (L_205 ++ (L_185 ++ (L_22 ++ (L_26 ++ (L_24 ++ (L_5 ++ ([])))))))) := h
        refine r_chk1 ?_ ?_
        · exact ldOk_blk h 7 rfl (a2.sz)
        refine r_call h (c_toKeyV (a2.at h)) fun r115 _ _ _ ⟨L_207, hL, hO_208⟩ => ?_
        have h := (h.join hL).rot
        have h : At w _ ([_, _, _, _, _, _, _, _, _, _] ++ (L_207 ++ (L_205 ++ (L_185 ++ (L_22 ++ (L_26 ++ (L_24 ++ (L_5 ++ ([]))))))))) := h
        refine r_call h (c_impl_UndoCommit (hO_186.rd h.pl3) (hO_206.rd h.pl2) (hO_208.rd h.pl1) (by omega)) fun r117 _ h2 _ ⟨L_209, hL, hO_210, hc_211, hc_212⟩ => ?_
        have h := (h.join hL).rot
        have hc_211 : RdKey w r117.2.1 (undoAns d0 d1 d2 x3).2.1 := hc_211
        have h : At w _ ([_, _, _, _, _, _, _, _, _, _] ++ (L_209 ++ (L_207 ++ (L_205 ++ (L_185 ++ (L_22 ++ (L_26 ++ (L_24 ++ (L_5 ++ ([])))))))))) := h
        refine r_stA h 0 rfl rfl (hO_210.sz) (rfl) (hO_210.one) fun _ h => ?_
        have h : At w _ ([_, _, _, _, _, _, _, _, _, _] ++ (L_209 ++ (L_207 ++ (L_205 ++ (L_185 ++ (L_22 ++ (L_26 ++ (L_24 ++ (L_5 ++ ([])))))))))) := h
        refine r_stA h 1 rfl rfl (hc_211.sz) (rfl) (hc_211.one) fun _ h => ?_
        have h : At w _ ([_, _, _, _, _, _, _, _, _, _] ++ (L_209 ++ (L_207 ++ (L_205 ++ (L_185 ++ (L_22 ++ (L_26 ++ (L_24 ++ (L_5 ++ ([])))))))))) := h
        have h := h.dr2
        have h := h.dr2
        have h := h.dr2
        have h : At w _ ([_, _, _, _, _, _, _, _, _, _] ++ (L_209 ++ (L_22 ++ (L_26 ++ (L_24 ++ (L_5 ++ ([]))))))) := h
        exact ⟨(⟨b20, 0, none⟩, ⟨b21, 0, none⟩, r117.2.2), rfl, b20, r117.1, L_209, b21, r117.2.1, rfl, hO_210, rfl, hc_211, hc_212, h⟩
      refine r_new h fun b20 _ h => ?_
      have h : At w _ ([_, _, _, _, _, _, _, _, _, _] ++ (L_22 ++ (L_26 ++ (L_24 ++ (L_5 ++ ([])))))) := h
      refine r_chk3 ?_ ?_ ?_ ?_
      · exact ldOk_blk h 7 rfl (a2.sz)
      · exact ldOk_blk h 8 rfl (a1.sz)
      · exact ldOk_blk h 9 rfl (a0.sz)
      refine r_call h (c_toBookV (a0.rd.at h) (by omega)) fun r111 _ _ _ ⟨L_213, hL, hO_214⟩ => ?_
      have h := (h.join hL).rot
      have h : At w _ ([_, _, _, _, _, _, _, _, _, _] ++ (L_213 ++ (L_22 ++ (L_26 ++ (L_24 ++ (L_5 ++ ([]))))))) := h
      refine r_chk2 ?_ ?_ ?_
      · exact ldOk_blk h 7 rfl (a2.sz)
      · exact ldOk_blk h 8 rfl (a1.sz)
      refine r_call h (c_toKeyV (a1.at h)) fun r113 _ _ _ ⟨L_215, hL, hO_216⟩ => ?_
      have h := (h.join hL).rot
      have h : At w _ ([_, _, _, _, _, _, _, _, _, _] ++ (L_215 ++ (L_213 ++ (L_22 ++ (L_26 ++ (L_24 ++ (L_5 ++ ([])))))))) := h
      refine r_chk1 ?_ ?_
      · exact ldOk_blk h 7 rfl (a2.sz)
      refine r_call h (c_toKeyV (a2.at h)) fun r115 _ _ _ ⟨L_217, hL, hO_218⟩ => ?_
      have h := (h.join hL).rot
      have h : At w _ ([_, _, _, _, _, _, _, _, _, _] ++ (L_217 ++ (L_215 ++ (L_213 ++ (L_22 ++ (L_26 ++ (L_24 ++ (L_5 ++ ([]))))))))) := h
      refine r_call h (c_impl_UndoCommit (hO_214.rd h.pl3) (hO_216.rd h.pl2) (hO_218.rd h.pl1) (by omega)) fun r117 _ h2 _ ⟨L_219, hL, hO_220, hc_221, hc_222⟩ => ?_
      have h := (h.join hL).rot
      have hc_221 : RdKey w r117.2.1 (undoAns d0 d1 d2 x3).2.1 := hc_221
      have h : At w _ ([_, _, _, _, _, _, _, _, _, _] ++ (L_219 ++ (L_217 ++ (L_215 ++ (L_213 ++ (L_22 ++ (L_26 ++ (L_24 ++ (L_5 ++ ([])))))))))) := h
      refine r_stA h 0 rfl rfl (hO_220.sz) (rfl) (hO_220.one) fun _ h => ?_
      have h : At w _ ([_, _, _, _, _, _, _, _, _, _] ++ (L_219 ++ (L_217 ++ (L_215 ++ (L_213 ++ (L_22 ++ (L_26 ++ (L_24 ++ (L_5 ++ ([])))))))))) := h
      refine r_stA h 1 rfl rfl (hc_221.sz) (rfl) (hc_221.one) fun _ h => ?_
      have h : At w _ ([_, _, _, _, _, _, _, _, _, _] ++ (L_219 ++ (L_217 ++ (L_215 ++ (L_213 ++ (L_22 ++ (L_26 ++ (L_24 ++ (L_5 ++ ([])))))))))) := h
      have h := h.dr2
      have h := h.dr2
      have h := h.dr2
      have h : At w _ ([_, _, _, _, _, _, _, _, _, _] ++ (L_219 ++ (L_22 ++ (L_26 ++ (L_24 ++ (L_5 ++ ([]))))))) := h
      exact ⟨(⟨b20, 0, none⟩, ⟨b21, 0, none⟩, r117.2.2), rfl, b20, r117.1, L_219, b21, r117.2.1, rfl, hO_220, rfl, hc_221, hc_222, h⟩
    refine r_draw h fun _ h => ?_
    refine r_ldA h 0 rfl rfl (hO_12.sz) ?_
    refine r_ldA h 4 rfl rfl (a1.sz) ?_
    refine r_ldA h 3 rfl rfl (a2.sz) ?_
    refine ⟨?_, ?_⟩
    ·
      skip
      refine r_call h (c_toKeyV (a1.at h)) fun r48 _ _ _ ⟨L_223, hL, hO_224⟩ => ?_
      have h := (h.join hL).rot
      have h : At w _ ([_, _, _, _, _, _] ++ (L_223 ++ (L_11 ++ (L_5 ++ ([]))))) := h
      refine r_chk2 ?_ ?_ ?_
      · exact ldOk_blk h 3 rfl (a2.sz)
      · exact ldOk_blk h 0 rfl (hO_12.sz)
      refine ⟨?_, ?_⟩
      ·
        skip
        refine r_call h (c_toKeyV (a2.at h)) fun r50 _ _ _ ⟨L_225, hL, hO_226⟩ => ?_
        have h := (h.join hL).rot
        have h : At w _ ([_, _, _, _, _, _] ++ (L_225 ++ (L_223 ++ (L_11 ++ (L_5 ++ ([])))))) := h
        refine r_chk1 ?_ ?_
        · exact ldOk_blk h 0 rfl (hO_12.sz)
        refine ⟨?_, ?_⟩
        ·
          skip
          refine r_call h (c_impl_UndoCommit (hO_12.rd h.pl3) (hO_224.rd h.pl2) (hO_226.rd h.pl1) (by omega)) fun r52 _ h2 _ ⟨L_227, hL, hO_228, hc_229, hc_230⟩ => ?_
          have h := (h.join hL).rot
          have hc_229 : RdKey w r52.2.1 (undoAns d0 d1 d2 x3).2.1 := hc_229
          have h : At w _ ([_, _, _, _, _, _] ++ (L_227 ++ (L_225 ++ (L_223 ++ (L_11 ++ (L_5 ++ ([]))))))) := h
          refine ⟨?_, ?_⟩
          ·
            skip
            refine r_new h fun b14 _ h => ?_
            have h : At w _ ([_, _, _, _, _, _, _] ++ (L_227 ++ (L_225 ++ (L_223 ++ (L_11 ++ (L_5 ++ ([]))))))) := h
            refine r_new h fun b15 _ h => ?_
            have h : At w _ ([_, _, _, _, _, _, _, _] ++ (L_227 ++ (L_225 ++ (L_223 ++ (L_11 ++ (L_5 ++ ([]))))))) := h
            refine r_stA h 1 rfl rfl (hO_228.sz) (rfl) (hO_228.one) fun _ h => ?_
            have h : At w _ ([_, _, _, _, _, _, _, _] ++ (L_227 ++ (L_225 ++ (L_223 ++ (L_11 ++ (L_5 ++ ([]))))))) := h
            refine r_stA h 0 rfl rfl (hc_229.sz) (rfl) (hc_229.one) fun _ h => ?_
            have h : At w _ ([_, _, _, _, _, _, _, _] ++ (L_227 ++ (L_225 ++ (L_223 ++ (L_11 ++ (L_5 ++ ([]))))))) := h
            have h := h.dr2
            have h := h.dr2
            have h : At w _ ([_, _, _, _, _, _, _, _] ++ (L_227 ++ (L_11 ++ (L_5 ++ ([]))))) := h
            have h := At.sw2 h
            have h : At w _ ([_, _, _, _, _, _, _, _] ++ (L_227 ++ (L_11 ++ (L_5 ++ ([]))))) := h
            exact ⟨(⟨b14, 0, none⟩, ⟨b15, 0, none⟩, r52.2.2), rfl, b14, r52.1, L_227, b15, r52.2.1, rfl, hO_228, rfl, hc_229, hc_230, h⟩
          refine r_new h fun b15 _ h => ?_
          have h : At w _ ([_, _, _, _, _, _, _] ++ (L_227 ++ (L_225 ++ (L_223 ++ (L_11 ++ (L_5 ++ ([]))))))) := h
          refine r_new h fun b14 _ h => ?_
          have h : At w _ ([_, _, _, _, _, _, _, _] ++ (L_227 ++ (L_225 ++ (L_223 ++ (L_11 ++ (L_5 ++ ([]))))))) := h
          refine r_stA h 0 rfl rfl (hO_228.sz) (rfl) (hO_228.one) fun _ h => ?_
          have h : At w _ ([_, _, _, _, _, _, _, _] ++ (L_227 ++ (L_225 ++ (L_223 ++ (L_11 ++ (L_5 ++ ([]))))))) := h
          refine r_stA h 1 rfl rfl (hc_229.sz) (rfl) (hc_229.one) fun _ h => ?_
          have h : At w _ ([_, _, _, _, _, _, _, _] ++ (L_227 ++ (L_225 ++ (L_223 ++ (L_11 ++ (L_5 ++ ([]))))))) := h
          have h := h.dr2
          have h := h.dr2
          have h : At w _ ([_, _, _, _, _, _, _, _] ++ (L_227 ++ (L_11 ++ (L_5 ++ ([]))))) := h
          exact ⟨(⟨b14, 0, none⟩, ⟨b15, 0, none⟩, r52.2.2), rfl, b14, r52.1, L_227, b15, r52.2.1, rfl, hO_228, rfl, hc_229, hc_230, h⟩
        refine ⟨?_, ?_⟩
        ·
          skip
          refine r_new h fun b14 _ h => ?_
          have h : At w _ ([_, _, _, _, _, _, _] ++ (L_225 ++ (L_223 ++ (L_11 ++ (L_5 ++ ([])))))) := h
          refine r_chk1 ?_ ?_
          · exact ldOk_blk h 1 rfl (hO_12.sz)
          refine ⟨?_, ?_⟩
          ·
            skip
            refine r_call h (c_impl_UndoCommit (hO_12.rd h.pl3) (hO_224.rd h.pl2) (hO_226.rd h.pl1) (by omega)) fun r52 _ h2 _ ⟨L_231, hL, hO_232, hc_233, hc_234⟩ => ?_
            have h := (h.join hL).rot
            have hc_233 : RdKey w r52.2.1 (undoAns d0 d1 d2 x3).2.1 := hc_233
            have h : At w _ ([_, _, _, _, _, _, _] ++ (L_231 ++ (L_225 ++ (L_223 ++ (L_11 ++ (L_5 ++ ([]))))))) := h
            refine r_new h fun b15 _ h => ?_
            have h : At w _ ([_, _, _, _, _, _, _, _] ++ (L_231 ++ (L_225 ++ (L_223 ++ (L_11 ++ (L_5 ++ ([]))))))) := h
            refine r_stA h 1 rfl rfl (hO_232.sz) (rfl) (hO_232.one) fun _ h => ?_
            have h : At w _ ([_, _, _, _, _, _, _, _] ++ (L_231 ++ (L_225 ++ (L_223 ++ (L_11 ++ (L_5 ++ ([]))))))) := h
            refine r_stA h 0 rfl rfl (hc_233.sz) (rfl) (hc_233.one) fun _ h => ?_
            have h : At w _ ([_, _, _, _, _, _, _, _] ++ (L_231 ++ (L_225 ++ (L_223 ++ (L_11 ++ (L_5 ++ ([]))))))) := h
            have h := h.dr2
            have h := h.dr2
            have h : At w _ ([_, _, _, _, _, _, _, _] ++ (L_231 ++ (L_11 ++ (L_5 ++ ([]))))) := h
            have h := At.sw2 h
            have h : At w _ ([_, _, _, _, _, _, _, _] ++ (L_231 ++ (L_11 ++ (L_5 ++ ([]))))) := h
            exact ⟨(⟨b14, 0, none⟩, ⟨b15, 0, none⟩, r52.2.2), rfl, b14, r52.1, L_231, b15, r52.2.1, rfl, hO_232, rfl, hc_233, hc_234, h⟩
          refine r_new h fun b15 _ h => ?_
          have h : At w _ ([_, _, _, _, _, _, _, _] ++ (L_225 ++ (L_223 ++ (L_11 ++ (L_5 ++ ([])))))) := h
          refine r_chk1 ?_ ?_
          · exact ldOk_blk h 2 rfl (hO_12.sz)
          refine r_call h (c_impl_UndoCommit (hO_12.rd h.pl3) (hO_224.rd h.pl2) (hO_226.rd h.pl1) (by omega)) fun r52 _ h2 _ ⟨L_235, hL, hO_236, hc_237, hc_238⟩ => ?_
          have h := (h.join hL).rot
          have hc_237 : RdKey w r52.2.1 (undoAns d0 d1 d2 x3).2.1 := hc_237
          have h : At w _ ([_, _, _, _, _, _, _, _] ++ (L_235 ++ (L_225 ++ (L_223 ++ (L_11 ++ (L_5 ++ ([]))))))) := h
          refine r_stA h 1 rfl rfl (hO_236.sz) (rfl) (hO_236.one) fun _ h => ?_
          have h : At w _ ([_, _, _, _, _, _, _, _] ++ (L_235 ++ (L_225 ++ (L_223 ++ (L_11 ++ (L_5 ++ ([]))))))) := h
          refine r_stA h 0 rfl rfl (hc_237.sz) (rfl) (hc_237.one) fun _ h => ?_
          have h : At w _ ([_, _, _, _, _, _, _, _] ++ (L_235 ++ (L_225 ++ (L_223 ++ (L_11 ++ (L_5 ++ ([]))))))) := h
          have h := h.dr2
          have h := h.dr2
          have h : At w _ ([_, _, _, _, _, _, _, _] ++ (L_235 ++ (L_11 ++ (L_5 ++ ([]))))) := h
          have h := At.sw2 h
          have h : At w _ ([_, _, _, _, _, _, _, _] ++ (L_235 ++ (L_11 ++ (L_5 ++ ([]))))) := h
          exact ⟨(⟨b14, 0, none⟩, ⟨b15, 0, none⟩, r52.2.2), rfl, b14, r52.1, L_235, b15, r52.2.1, rfl, hO_236, rfl, hc_237, hc_238, h⟩
        refine r_new h fun b15 _ h => ?_
        have h : At w _ ([_, _, _, _, _, _, _] ++ (L_225 ++ (L_223 ++ (L_11 ++ (L_5 ++ ([])))))) := h
        refine r_chk1 ?_ ?_
        · exact ldOk_blk h 1 rfl (hO_12.sz)
        refine ⟨?_, ?_⟩
        ·
          skip
          refine r_call h (c_impl_UndoCommit (hO_12.rd h.pl3) (hO_224.rd h.pl2) (hO_226.rd h.pl1) (by omega)) fun r52 _ h2 _ ⟨L_239, hL, hO_240, hc_241, hc_242⟩ => ?_
          have h := (h.join hL).rot
          have hc_241 : RdKey w r52.2.1 (undoAns d0 d1 d2 x3).2.1 := hc_241
          have h : At w _ ([_, _, _, _, _, _, _] ++ (L_239 ++ (L_225 ++ (L_223 ++ (L_11 ++ (L_5 ++ ([]))))))) := h
          refine r_new h fun b14 _ h => ?_
          have h : At w _ ([_, _, _, _, _, _, _, _] ++ (L_239 ++ (L_225 ++ (L_223 ++ (L_11 ++ (L_5 ++ ([]))))))) := h
          refine r_stA h 0 rfl rfl (hO_240.sz) (rfl) (hO_240.one) fun _ h => ?_
          have h : At w _ ([_, _, _, _, _, _, _, _] ++ (L_239 ++ (L_225 ++ (L_223 ++ (L_11 ++ (L_5 ++ ([]))))))) := h
          refine r_stA h 1 rfl rfl (hc_241.sz) (rfl) (hc_241.one) fun _ h => ?_
          have h : At w _ ([_, _, _, _, _, _, _, _] ++ (L_239 ++ (L_225 ++ (L_223 ++ (L_11 ++ (L_5 ++ ([]))))))) := h
          have h := h.dr2
          have h := h.dr2
          have h : At w _ ([_, _, _, _, _, _, _, _] ++ (L_239 ++ (L_11 ++ (L_5 ++ ([]))))) := h
          exact ⟨(⟨b14, 0, none⟩, ⟨b15, 0, none⟩, r52.2.2), rfl, b14, r52.1, L_239, b15, r52.2.1, rfl, hO_240, rfl, hc_241, hc_242, h⟩
        refine r_new h fun b14 _ h => ?_
        have h : At w _ ([_, _, _, _, _, _, _, _] ++ (L_225 ++ (L_223 ++ (L_11 ++ (L_5 ++ ([])))))) := h
        refine r_chk1 ?_ ?_
        · exact ldOk_blk h 2 rfl (hO_12.sz)
        refine r_call h (c_impl_UndoCommit (hO_12.rd h.pl3) (hO_224.rd h.pl2) (hO_226.rd h.pl1) (by omega)) fun r52 _ h2 _ ⟨L_243, hL, hO_244, hc_245, hc_246⟩ => ?_
        have h := (h.join hL).rot
        have hc_245 : RdKey w r52.2.1 (undoAns d0 d1 d2 x3).2.1 := hc_245
        have h : At w _ ([_, _, _, _, _, _, _, _] ++ (L_243 ++ (L_225 ++ (L_223 ++ (L_11 ++ (L_5 ++ ([]))))))) := h
        refine r_stA h 0 rfl rfl (hO_244.sz) (rfl) (hO_244.one) fun _ h => ?_
        have h : At w _ ([_, _, _, _, _, _, _, _] ++ (L_243 ++ (L_225 ++ (L_223 ++ (L_11 ++ (L_5 ++ ([]))))))) := h
        refine r_stA h 1 rfl rfl (hc_245.sz) (rfl) (hc_245.one) fun _ h => ?_
        have h : At w _ ([_, _, _, _, _, _, _, _] ++ (L_243 ++ (L_225 ++ (L_223 ++ (L_11 ++ (L_5 ++ ([]))))))) := h
        have h := h.dr2
        have h := h.dr2
        have h : At w _ ([_, _, _, _, _, _, _, _] ++ (L_243 ++ (L_11 ++ (L_5 ++ ([]))))) := h
        exact ⟨(⟨b14, 0, none⟩, ⟨b15, 0, none⟩, r52.2.2), rfl, b14, r52.1, L_243, b15, r52.2.1, rfl, hO_244, rfl, hc_245, hc_246, h⟩
      refine ⟨?_, ?_⟩
      ·
        skip
        refine r_new h fun b14 _ h => ?_
        have h : At w _ ([_, _, _, _, _, _, _] ++ (L_223 ++ (L_11 ++ (L_5 ++ ([]))))) := h
        refine r_chk2 ?_ ?_ ?_
        · exact ldOk_blk h 4 rfl (a2.sz)
        · exact ldOk_blk h 1 rfl (hO_12.sz)
        refine ⟨?_, ?_⟩
        ·
          skip
          refine r_call h (c_toKeyV (a2.at h)) fun r50 _ _ _ ⟨L_247, hL, hO_248⟩ => ?_
          have h := (h.join hL).rot
          have h : At w _ ([_, _, _, _, _, _, _] ++ (L_247 ++ (L_223 ++ (L_11 ++ (L_5 ++ ([])))))) := h
          refine r_chk1 ?_ ?_
          · exact ldOk_blk h 1 rfl (hO_12.sz)
          refine ⟨?_, ?_⟩
          ·
            skip
            refine r_call h (c_impl_UndoCommit (hO_12.rd h.pl3) (hO_224.rd h.pl2) (hO_248.rd h.pl1) (by omega)) fun r52 _ h2 _ ⟨L_249, hL, hO_250, hc_251, hc_252⟩ => ?_
            have h := (h.join hL).rot
            have hc_251 : RdKey w r52.2.1 (undoAns d0 d1 d2 x3).2.1 := hc_251
            have h : At w _ ([_, _, _, _, _, _, _] ++ (L_249 ++ (L_247 ++ (L_223 ++ (L_11 ++ (L_5 ++ ([]))))))) := h
            refine r_new h fun b15 _ h => ?_
            have h : At w _ ([_, _, _, _, _, _, _, _] ++ (L_249 ++ (L_247 ++ (L_223 ++ (L_11 ++ (L_5 ++ ([]))))))) := h
            refine r_stA h 1 rfl rfl (hO_250.sz) (rfl) (hO_250.one) fun _ h => ?_
            have h : At w _ ([_, _, _, _, _, _, _, _] ++ (L_249 ++ (L_247 ++ (L_223 ++ (L_11 ++ (L_5 ++ ([]))))))) := h
            refine r_stA h 0 rfl rfl (hc_251.sz) (rfl) (hc_251.one) fun _ h => ?_
            have h : At w _ ([_, _, _, _, _, _, _, _] ++ (L_249 ++ (L_247 ++ (L_223 ++ (L_11 ++ (L_5 ++ ([]))))))) := h
            have h := h.dr2
            have h := h.dr2
            have h : At w _ ([_, _, _, _, _, _, _, _] ++ (L_249 ++ (L_11 ++ (L_5 ++ ([]))))) := h
            have h := At.sw2 h
            have h : At w _ ([_, _, _, _, _, _, _, _] ++ (L_249 ++ (L_11 ++ (L_5 ++ ([]))))) := h
            exact ⟨(⟨b14, 0, none⟩, ⟨b15, 0, none⟩, r52.2.2), rfl, b14, r52.1, L_249, b15, r52.2.1, rfl, hO_250, rfl, hc_251, hc_252, h⟩
          refine r_new h fun b15 _ h => ?_
          have h : At w _ ([_, _, _, _, _, _, _, _] ++ (L_247 ++ (L_223 ++ (L_11 ++ (L_5 ++ ([])))))) := h
          refine r_chk1 ?_ ?_
          · exact ldOk_blk h 2 rfl (hO_12.sz)
          refine r_call h (c_impl_UndoCommit (hO_12.rd h.pl3) (hO_224.rd h.pl2) (hO_248.rd h.pl1) (by omega)) fun r52 _ h2 _ ⟨L_253, hL, hO_254, hc_255, hc_256⟩ => ?_
          have h := (h.join hL).rot
          have hc_255 : RdKey w r52.2.1 (undoAns d0 d1 d2 x3).2.1 := hc_255
          have h : At w _ ([_, _, _, _, _, _, _, _] ++ (L_253 ++ (L_247 ++ (L_223 ++ (L_11 ++ (L_5 ++ ([]))))))) := h
          refine r_stA h 1 rfl rfl (hO_254.sz) (rfl) (hO_254.one) fun _ h => ?_
          have h : At w _ ([_, _, _, _, _, _, _, _] ++ (L_253 ++ (L_247 ++ (L_223 ++ (L_11 ++ (L_5 ++ ([]))))))) := h
          refine r_stA h 0 rfl rfl (hc_255.sz) (rfl) (hc_255.one) fun _ h => ?_
          have h : At w _ ([_, _, _, _, _, _, _, _] ++ (L_253 ++ (L_247 ++ (L_223 ++ (L_11 ++ (L_5 ++ ([]))))))) := h
          have h := h.dr2
          have h := h.dr2
          have h : At w _ ([_, _, _, _, _, _, _, _] ++ (L_253 ++ (L_11 ++ (L_5 ++ ([]))))) := h
          have h := At.sw2 h
          have h : At w _ ([_, _, _, _, _, _, _, _] ++ (L_253 ++ (L_11 ++ (L_5 ++ ([]))))) := h
          exact ⟨(⟨b14, 0, none⟩, ⟨b15, 0, none⟩, r52.2.2), rfl, b14, r52.1, L_253, b15, r52.2.1, rfl, hO_254, rfl, hc_255, hc_256, h⟩
        refine r_new h fun b15 _ h => ?_
        have h : At w _ ([_, _, _, _, _, _, _, _] ++ (L_223 ++ (L_11 ++ (L_5 ++ ([]))))) := h
        refine r_chk2 ?_ ?_ ?_
        · exact ldOk_blk h 5 rfl (a2.sz)
        · exact ldOk_blk h 2 rfl (hO_12.sz)
        refine r_call h (c_toKeyV (a2.at h)) fun r50 _ _ _ ⟨L_257, hL, hO_258⟩ => ?_
        have h := (h.join hL).rot
        have h : At w _ ([_, _, _, _, _, _, _, _] ++ (L_257 ++ (L_223 ++ (L_11 ++ (L_5 ++ ([])))))) := h
        refine r_chk1 ?_ ?_
        · exact ldOk_blk h 2 rfl (hO_12.sz)
        refine r_call h (c_impl_UndoCommit (hO_12.rd h.pl3) (hO_224.rd h.pl2) (hO_258.rd h.pl1) (by omega)) fun r52 _ h2 _ ⟨L_259, hL, hO_260, hc_261, hc_262⟩ => ?_
        have h := (h.join hL).rot
        have hc_261 : RdKey w r52.2.1 (undoAns d0 d1 d2 x3).2.1 := hc_261
        have h : At w _ ([_, _, _, _, _, _, _, _] ++ (L_259 ++ (L_257 ++ (L_223 ++ (L_11 ++ (L_5 ++ ([]))))))) := h
        refine r_stA h 1 rfl rfl (hO_260.sz) (rfl) (hO_260.one) fun _ h => ?_
        have h : At w _ ([_, _, _, _, _, _, _, _] ++ (L_259 ++ (L_257 ++ (L_223 ++ (L_11 ++ (L_5 ++ ([]))))))) := h
        refine r_stA h 0 rfl rfl (hc_261.sz) (rfl) (hc_261.one) fun _ h => ?_
        have h : At w _ ([_, _, _, _, _, _, _, _] ++ (L_259 ++ (L_257 ++ (L_223 ++ (L_11 ++ (L_5 ++ ([]))))))) := h
        have h := h.dr2
        have h := h.dr2
        have h : At w _ ([_, _, _, _, _, _, _, _] ++ (L_259 ++ (L_11 ++ (L_5 ++ ([]))))) := h
        have h := At.sw2 h
        have h : At w _ ([_, _, _, _, _, _, _, _] ++ (L_259 ++ (L_11 ++ (L_5 ++ ([]))))) := h
        exact ⟨(⟨b14, 0, none⟩, ⟨b15, 0, none⟩, r52.2.2), rfl, b14, r52.1, L_259, b15, r52.2.1, rfl, hO_260, rfl, hc_261, hc_262, h⟩
      refine r_new h fun b15 _ h => ?_
      have h : At w _ ([_, _, _, _, _, _, _] ++ (L_223 ++ (L_11 ++ (L_5 ++ ([]))))) := h
      refine r_chk2 ?_ ?_ ?_
      · exact ldOk_blk h 4 rfl (a2.sz)
      · exact ldOk_blk h 1 rfl (hO_12.sz)
      refine ⟨?_, ?_⟩
      ·
        skip
        refine r_call h (c_toKeyV (a2.at h)) fun r50 _ _ _ ⟨L_263, hL, hO_264⟩ => ?_
        have h := (h.join hL).rot
        have h : At w _ ([_, _, _, _, _, _, _] ++ (L_263 ++ (L_223 ++ (L_11 ++ (L_5 ++ ([])))))) := h
        refine r_chk1 ?_ ?_
        · exact ldOk_blk h 1 rfl (hO_12.sz)
        refine ⟨?_, ?_⟩
        ·
          skip
          refine r_call h (c_impl_UndoCommit (hO_12.rd h.pl3) (hO_224.rd h.pl2) (hO_264.rd h.pl1) (by omega)) fun r52 _ h2 _ ⟨L_265, hL, hO_266, hc_267, hc_268⟩ => ?_
          have h := (h.join hL).rot
          have hc_267 : RdKey w r52.2.1 (undoAns d0 d1 d2 x3).2.1 := hc_267
          have h : At w _ ([_, _, _, _, _, _, _] ++ (L_265 ++ (L_263 ++ (L_223 ++ (L_11 ++ (L_5 ++ ([]))))))) := h
          refine r_new h fun b14 _ h => ?_
          have h : At w _ ([_, _, _, _, _, _, _, _] ++ (L_265 ++ (L_263 ++ (L_223 ++ (L_11 ++ (L_5 ++ ([]))))))) := h
          refine r_stA h 0 rfl rfl (hO_266.sz) (rfl) (hO_266.one) fun _ h => ?_
          have h : At w _ ([_, _, _, _, _, _, _, _] ++ (L_265 ++ (L_263 ++ (L_223 ++ (L_11 ++ (L_5 ++ ([]))))))) := h
          refine r_stA h 1 rfl rfl (hc_267.sz) (rfl) (hc_267.one) fun _ h => ?_
          have h : At w _ ([_, _, _, _, _, _, _, _] ++ (L_265 ++ (L_263 ++ (L_223 ++ (L_11 ++ (L_5 ++ ([]))))))) := h
          have h := h.dr2
          have h := h.dr2
          have h : At w _ ([_, _, _, _, _, _, _, _] ++ (L_265 ++ (L_11 ++ (L_5 ++ ([]))))) := h
          exact ⟨(⟨b14, 0, none⟩, ⟨b15, 0, none⟩, r52.2.2), rfl, b14, r52.1, L_265, b15, r52.2.1, rfl, hO_266, rfl, hc_267, hc_268, h⟩
        refine r_new h fun b14 _ h => ?_
        have h : At w _ ([_, _, _, _, _, _, _, _] ++ (L_263 ++ (L_223 ++ (L_11 ++ (L_5 ++ ([])))))) := h
        refine r_chk1 ?_ ?_
        · exact ldOk_blk h 2 rfl (hO_12.sz)
        refine r_call h (c_impl_UndoCommit (hO_12.rd h.pl3) (hO_224.rd h.pl2) (hO_264.rd h.pl1) (by omega)) fun r52 _ h2 _ ⟨L_269, hL, hO_270, hc_271, hc_272⟩ => ?_
        have h := (h.join hL).rot
        have hc_271 : RdKey w r52.2.1 (undoAns d0 d1 d2 x3).2.1 := hc_271
        have h : At w _ ([_, _, _, _, _, _, _, _] ++ (L_269 ++ (L_263 ++ (L_223 ++ (L_11 ++ (L_5 ++ ([]))))))) := h
        refine r_stA h 0 rfl rfl (hO_270.sz) (rfl) (hO_270.one) fun _ h => ?_
        have h : At w _ ([_, _, _, _, _, _, _, _] ++ (L_269 ++ (L_263 ++ (L_223 ++ (L_11 ++ (L_5 ++ ([]))))))) := h
        refine r_stA h 1 rfl rfl (hc_271.sz) (rfl) (hc_271.one) fun _ h => ?_
        have h : At w _ ([_, _, _, _, _, _, _, _] ++ (L_269 ++ (L_263 ++ (L_223 ++ (L_11 ++ (L_5 ++ ([]))))))) := h
        have h := h.dr2
        have h := h.dr2
        have h : At w _ ([_, _, _, _, _, _, _, _] ++ (L_269 ++ (L_11 ++ (L_5 ++ ([]))))) := h
        exact ⟨(⟨b14, 0, none⟩, ⟨b15, 0, none⟩, r52.2.2), rfl, b14, r52.1, L_269, b15, r52.2.1, rfl, hO_270, rfl, hc_271, hc_272, h⟩
      refine r_new h fun b14 _ h => ?_
      have h : At w _ ([_, _, _, _, _, _, _, _] ++ (L_223 ++ (L_11 ++ (L_5 ++ ([]))))) := h
      refine r_chk2 ?_ ?_ ?_
      · exact ldOk_blk h 5 rfl (a2.sz)
      · exact ldOk_blk h 2 rfl (hO_12.sz)
      refine r_call h (c_toKeyV (a2.at h)) fun r50 _ _ _ ⟨L_273, hL, hO_274⟩ => ?_
      have h := (h.join hL).rot
      have h : At w _ ([_, _, _, _, _, _, _, _] ++ (L_273 ++ (L_223 ++ (L_11 ++ (L_5 ++ ([])))))) := h
      refine r_chk1 ?_ ?_
      · exact ldOk_blk h 2 rfl (hO_12.sz)
      refine r_call h (c_impl_UndoCommit (hO_12.rd h.pl3) (hO_224.rd h.pl2) (hO_274.rd h.pl1) (by omega)) fun r52 _ h2 _ ⟨L_275, hL, hO_276, hc_277, hc_278⟩ => ?_
      have h := (h.join hL).rot
      have hc_277 : RdKey w r52.2.1 (undoAns d0 d1 d2 x3).2.1 := hc_277
      have h : At w _ ([_, _, _, _, _, _, _, _] ++ (L_275 ++ (L_273 ++ (L_223 ++ (L_11 ++ (L_5 ++ ([]))))))) := h
      refine r_stA h 0 rfl rfl (hO_276.sz) (rfl) (hO_276.one) fun _ h => ?_
      have h : At w _ ([_, _, _, _, _, _, _, _] ++ (L_275 ++ (L_273 ++ (L_223 ++ (L_11 ++ (L_5 ++ ([]))))))) := h
      refine r_stA h 1 rfl rfl (hc_277.sz) (rfl) (hc_277.one) fun _ h => ?_
      have h : At w _ ([_, _, _, _, _, _, _, _] ++ (L_275 ++ (L_273 ++ (L_223 ++ (L_11 ++ (L_5 ++ ([]))))))) := h
      have h := h.dr2
      have h := h.dr2
      have h : At w _ ([_, _, _, _, _, _, _, _] ++ (L_275 ++ (L_11 ++ (L_5 ++ ([]))))) := h
      exact ⟨(⟨b14, 0, none⟩, ⟨b15, 0, none⟩, r52.2.2), rfl, b14, r52.1, L_275, b15, r52.2.1, rfl, hO_276, rfl, hc_277, hc_278, h⟩
    refine ⟨?_, ?_⟩
    ·
      skip
      refine r_new h fun b14 _ h => ?_
      have h : At w _ ([_, _, _, _, _, _, _] ++ (L_11 ++ (L_5 ++ ([])))) := h
      refine r_chk3 ?_ ?_ ?_ ?_
      · exact ldOk_blk h 4 rfl (a2.sz)
      · exact ldOk_blk h 5 rfl (a1.sz)
      · exact ldOk_blk h 1 rfl (hO_12.sz)
      refine ⟨?_, ?_⟩
      ·
        skip
        refine r_call h (c_toKeyV (a1.at h)) fun r48 _ _ _ ⟨L_279, hL, hO_280⟩ => ?_
        have h := (h.join hL).rot
        have h : At w _ ([_, _, _, _, _, _, _] ++ (L_279 ++ (L_11 ++ (L_5 ++ ([]))))) := h
        refine r_chk2 ?_ ?_ ?_
        · exact ldOk_blk h 4 rfl (a2.sz)
        · exact ldOk_blk h 1 rfl (hO_12.sz)
        refine ⟨?_, ?_⟩
        ·
          skip
          refine r_call h (c_toKeyV (a2.at h)) fun r50 _ _ _ ⟨L_281, hL, hO_282⟩ => ?_
          have h := (h.join hL).rot
          have h : At w _ ([_, _, _, _, _, _, _] ++ (L_281 ++ (L_279 ++ (L_11 ++ (L_5 ++ ([])))))) := h
          refine r_chk1 ?_ ?_
          · exact ldOk_blk h 1 rfl (hO_12.sz)
          refine ⟨?_, ?_⟩
          ·
            skip
            refine r_call h (c_impl_UndoCommit (hO_12.rd h.pl3) (hO_280.rd h.pl2) (hO_282.rd h.pl1) (by omega)) fun r52 _ h2 _ ⟨L_283, hL, hO_284, hc_285, hc_286⟩ => ?_
            have h := (h.join hL).rot
            have hc_285 : RdKey w r52.2.1 (undoAns d0 d1 d2 x3).2.1 := hc_285
            have h : At w _ ([_, _, _, _, _, _, _] ++ (L_283 ++ (L_281 ++ (L_279 ++ (L_11 ++ (L_5 ++ ([]))))))) := h
            refine r_new h fun b15 _ h => ?_
            have h : At w _ ([_, _, _, _, _, _, _, _] ++ (L_283 ++ (L_281 ++ (L_279 ++ (L_11 ++ (L_5 ++ ([]))))))) := h
            refine r_stA h 1 rfl rfl (hO_284.sz) (rfl) (hO_284.one) fun _ h => ?_
            have h : At w _ ([_, _, _, _, _, _, _, _] ++ (L_283 ++ (L_281 ++ (L_279 ++ (L_11 ++ (L_5 ++ ([]))))))) := h
            refine r_stA h 0 rfl rfl (hc_285.sz) (rfl) (hc_285.one) fun _ h => ?_
            have h : At w _ ([_, _, _, _, _, _, _, _] ++ (L_283 ++ (L_281 ++ (L_279 ++ (L_11 ++ (L_5 ++ ([]))))))) := h
            have h := h.dr2
            have h := h.dr2
            have h : At w _ ([_, _, _, _, _, _, _, _] ++ (L_283 ++ (L_11 ++ (L_5 ++ ([]))))) := h
            have h := At.sw2 h
            have h : At w _ ([_, _, _, _, _, _, _, _] ++ (L_283 ++ (L_11 ++ (L_5 ++ ([]))))) := h
            exact ⟨(⟨b14, 0, none⟩, ⟨b15, 0, none⟩, r52.2.2), rfl, b14, r52.1, L_283, b15, r52.2.1, rfl, hO_284, rfl, hc_285, hc_286, h⟩
          refine r_new h fun b15 _ h => ?_
          have h : At w _ ([_, _, _, _, _, _, _, _] ++ (L_281 ++ (L_279 ++ (L_11 ++ (L_5 ++ ([])))))) := h
          refine r_chk1 ?_ ?_
          · exact ldOk_blk h 2 rfl (hO_12.sz)
          refine r_call h (c_impl_UndoCommit (hO_12.rd h.pl3) (hO_280.rd h.pl2) (hO_282.rd h.pl1) (by omega)) fun r52 _ h2 _ ⟨L_287, hL, hO_288, hc_289, hc_290⟩ => ?_
          have h := (h.join hL).rot
          have hc_289 : RdKey w r52.2.1 (undoAns d0 d1 d2 x3).2.1 := hc_289
          have h : At w _ ([_, _, _, _, _, _, _, _] ++ (L_287 ++ (L_281 ++ (L_279 ++ (L_11 ++ (L_5 ++ ([]))))))) := h
          refine r_stA h 1 rfl rfl (hO_288.sz) (rfl) (hO_288.one) fun _ h => ?_
          have h : At w _ ([_, _, _, _, _, _, _, _] ++ (L_287 ++ (L_281 ++ (L_279 ++ (L_11 ++ (L_5 ++ ([]))))))) := h
          refine r_stA h 0 rfl rfl (hc_289.sz) (rfl) (hc_289.one) fun _ h => ?_
          have h : At w _ ([_, _, _, _, _, _, _, _] ++ (L_287 ++ (L_281 ++ (L_279 ++ (L_11 ++ (L_5 ++ ([]))))))) := h
          have h := h.dr2
          have h := h.dr2
          have h : At w _ ([_, _, _, _, _, _, _, _] ++ (L_287 ++ (L_11 ++ (L_5 ++ ([]))))) := h
          have h := At.sw2 h
          have h : At w _ ([_, _, _, _, _, _, _, _] ++ (L_287 ++ (L_11 ++ (L_5 ++ ([]))))) := h
          exact ⟨(⟨b14, 0, none⟩, ⟨b15, 0, none⟩, r52.2.2), rfl, b14, r52.1, L_287, b15, r52.2.1, rfl, hO_288, rfl, hc_289, hc_290, h⟩
        refine r_new h fun b15 _ h => ?_
        have h : At w _ ([_, _, _, _, _, _, _, _] ++ (L_279 ++ (L_11 ++ (L_5 ++ ([]))))) := h
        refine r_chk2 ?_ ?_ ?_
        · exact ldOk_blk h 5 rfl (a2.sz)
        · exact ldOk_blk h 2 rfl (hO_12.sz)
        refine r_call h (c_toKeyV (a2.at h)) fun r50 _ _ _ ⟨L_291, hL, hO_292⟩ => ?_
        have h := (h.join hL).rot
        have h : At w _ ([_, _, _, _, _, _, _, _] ++ (L_291 ++ (L_279 ++ (L_11 ++ (L_5 ++ ([])))))) := h
        refine r_chk1 ?_ ?_
        · exact ldOk_blk h 2 rfl (hO_12.sz)
        refine r_call h (c_impl_UndoCommit (hO_12.rd h.pl3) (hO_280.rd h.pl2) (hO_292.rd h.pl1) (by omega)) fun r52 _ h2 _ ⟨L_293, hL, hO_294, hc_295, hc_296⟩ => ?_
        have h := (h.join hL).rot
        have hc_295 : RdKey w r52.2.1 (undoAns d0 d1 d2 x3).2.1 := hc_295
        have h : At w _ ([_, _, _, _, _, _, _, _] ++ (L_293 ++ (L_291 ++ (L_279 ++ (L_11 ++ (L_5 ++ ([]))))))) := h
        refine r_stA h 1 rfl rfl (hO_294.sz) (rfl) (hO_294.one) fun _ h => ?_
        have h : At w _ ([_, _, _, _, _, _, _, _] ++ (L_293 ++ (L_291 ++ (L_279 ++ (L_11 ++ (L_5 ++ ([]))))))) := h
        refine r_stA h 0 rfl rfl (hc_295.sz) (rfl) (hc_295.one) fun _ h => ?_
        have h : At w _ ([_, _, _, _, _, _, _, _] ++ (L_293 ++ (L_291 ++ (L_279 ++ (L_11 ++ (L_5 ++ ([]))))))) := h
        have h := h.dr2
        have h := h.dr2
        have h : At w _ ([_, _, _, _, _, _, _, _] ++ (L_293 ++ (L_11 ++ (L_5 ++ ([]))))) := h
        have h := At.sw2 h
        have h : At w _ ([_, _, _, _, _, _, _, _] ++ (L_293 ++ (L_11 ++ (L_5 ++ ([]))))) := h
        exact ⟨(⟨b14, 0, none⟩, ⟨b15, 0, none⟩, r52.2.2), rfl, b14, r52.1, L_293, b15, r52.2.1, rfl, hO_294, rfl, hc_295, hc_296, h⟩
      refine r_new h fun b15 _ h => ?_
      have h : At w _ ([_, _, _, _, _, _, _, _] ++ (L_11 ++ (L_5 ++ ([])))) := h
      refine r_chk3 ?_ ?_ ?_ ?_
      · exact ldOk_blk h 5 rfl (a2.sz)
      · exact ldOk_blk h 6 rfl (a1.sz)
      · exact ldOk_blk h 2 rfl (hO_12.sz)
      refine r_call h (c_toKeyV (a1.at h)) fun r48 _ _ _ ⟨L_297, hL, hO_298⟩ => ?_
      have h := (h.join hL).rot
      have h : At w _ ([_, _, _, _, _, _, _, _] ++ (L_297 ++ (L_11 ++ (L_5 ++ ([]))))) := h
      refine r_chk2 ?_ ?_ ?_
      · exact ldOk_blk h 5 rfl (a2.sz)
      · exact ldOk_blk h 2 rfl (hO_12.sz)
      refine r_call h (c_toKeyV (a2.at h)) fun r50 _ _ _ ⟨L_299, hL, hO_300⟩ => ?_
      have h := (h.join hL).rot
      have h : At w _ ([_, _, _, _, _, _, _, _] ++ (L_299 ++ (L_297 ++ (L_11 ++ (L_5 ++ ([])))))) := h
      refine r_chk1 ?_ ?_
      · exact ldOk_blk h 2 rfl (hO_12.sz)
      refine r_call h (c_impl_UndoCommit (hO_12.rd h.pl3) (hO_298.rd h.pl2) (hO_300.rd h.pl1) (by omega)) fun r52 _ h2 _ ⟨L_301, hL, hO_302, hc_303, hc_304⟩ => ?_
      have h := (h.join hL).rot
      have hc_303 : RdKey w r52.2.1 (undoAns d0 d1 d2 x3).2.1 := hc_303
      have h : At w _ ([_, _, _, _, _, _, _, _] ++ (L_301 ++ (L_299 ++ (L_297 ++ (L_11 ++ (L_5 ++ ([]))))))) := h
      refine r_stA h 1 rfl rfl (hO_302.sz) (rfl) (hO_302.one) fun _ h => ?_
      have h : At w _ ([_, _, _, _, _, _, _, _] ++ (L_301 ++ (L_299 ++ (L_297 ++ (L_11 ++ (L_5 ++ ([]))))))) := h
      refine r_stA h 0 rfl rfl (hc_303.sz) (rfl) (hc_303.one) fun _ h => ?_
      have h : At w _ ([_, _, _, _, _, _, _, _] ++ (L_301 ++ (L_299 ++ (L_297 ++ (L_11 ++ (L_5 ++ ([]))))))) := h
      have h := h.dr2
      have h := h.dr2
      have h : At w _ ([_, _, _, _, _, _, _, _] ++ (L_301 ++ (L_11 ++ (L_5 ++ ([]))))) := h
      have h := At.sw2 h
      have h : At w _ ([_, _, _, _, _, _, _, _] ++ (L_301 ++ (L_11 ++ (L_5 ++ ([]))))) := h
      exact ⟨(⟨b14, 0, none⟩, ⟨b15, 0, none⟩, r52.2.2), rfl, b14, r52.1, L_301, b15, r52.2.1, rfl, hO_302, rfl, hc_303, hc_304, h⟩
    refine r_new h fun b15 _ h => ?_
    have h : At w _ ([_, _, _, _, _, _, _] ++ (L_11 ++ (L_5 ++ ([])))) := h
    refine r_chk3 ?_ ?_ ?_ ?_
    · exact ldOk_blk h 4 rfl (a2.sz)
    · exact ldOk_blk h 5 rfl (a1.sz)
    · exact ldOk_blk h 1 rfl (hO_12.sz)
    refine ⟨?_, ?_⟩
    ·
      skip
      refine r_call h (c_toKeyV (a1.at h)) fun r48 _ _ _ ⟨L_305, hL, hO_306⟩ => ?_
      have h := (h.join hL).rot
      have h : At w _ ([_, _, _, _, _, _, _] ++ (L_305 ++ (L_11 ++ (L_5 ++ ([]))))) := h
      refine r_chk2 ?_ ?_ ?_
      · exact ldOk_blk h 4 rfl (a2.sz)
      · exact ldOk_blk h 1 rfl (hO_12.sz)
      refine ⟨?_, ?_⟩
      ·
        skip
        refine r_call h (c_toKeyV (a2.at h)) fun r50 _ _ _ ⟨L_307, hL, hO_308⟩ => ?_
        have h := (h.join hL).rot
        have h : At w _ ([_, _, _, _, _, _, _] ++ (L_307 ++ (L_305 ++ (L_11 ++ (L_5 ++ ([])))))) := h
        refine r_chk1 ?_ ?_
        · exact ldOk_blk h 1 rfl (hO_12.sz)
        refine ⟨?_, ?_⟩
        ·
          skip
          refine r_call h (c_impl_UndoCommit (hO_12.rd h.pl3) (hO_306.rd h.pl2) (hO_308.rd h.pl1) (by omega)) fun r52 _ h2 _ ⟨L_309, hL, hO_310, hc_311, hc_312⟩ => ?_
          have h := (h.join hL).rot
          have hc_311 : RdKey w r52.2.1 (undoAns d0 d1 d2 x3).2.1 := hc_311
          have h : At w _ ([_, _, _, _, _, _, _] ++ (L_309 ++ (L_307 ++ (L_305 ++ (L_11 ++ (L_5 ++ ([]))))))) := h
          refine r_new h fun b14 _ h => ?_
          have h : At w _ ([_, _, _, _, _, _, _, _] ++ (L_309 ++ (L_307 ++ (L_305 ++ (L_11 ++ (L_5 ++ ([]))))))) := h
          refine r_stA h 0 rfl rfl (hO_310.sz) (rfl) (hO_310.one) fun _ h => ?_
          have h : At w _ ([_, _, _, _, _, _, _, _] ++ (L_309 ++ (L_307 ++ (L_305 ++ (L_11 ++ (L_5 ++ ([]))))))) := h
          refine r_stA h 1 rfl rfl (hc_311.sz) (rfl) (hc_311.one) fun _ h => ?_
          have h : At w _ ([_, _, _, _, _, _, _, _] ++ (L_309 ++ (L_307 ++ (L_305 ++ (L_11 ++ (L_5 ++ ([]))))))) := h
          have h := h.dr2
          have h := h.dr2
          have h : At w _ ([_, _, _, _, _, _, _, _] ++ (L_309 ++ (L_11 ++ (L_5 ++ ([]))))) := h
          exact ⟨(⟨b14, 0, none⟩, ⟨b15, 0, none⟩, r52.2.2), rfl, b14, r52.1, L_309, b15, r52.2.1, rfl, hO_310, rfl, hc_311, hc_312, h⟩
        refine r_new h fun b14 _ h => ?_
        have h : At w _ ([_, _, _, _, _, _, _, _] ++ (L_307 ++ (L_305 ++ (L_11 ++ (L_5 ++ ([])))))) := h
        refine r_chk1 ?_ ?_
        · exact ldOk_blk h 2 rfl (hO_12.sz)
        refine r_call h (c_impl_UndoCommit (hO_12.rd h.pl3) (hO_306.rd h.pl2) (hO_308.rd h.pl1) (by omega)) fun r52 _ h2 _ ⟨L_313, hL, hO_314, hc_315, hc_316⟩ => ?_
        have h := (h.join hL).rot
        have hc_315 : RdKey w r52.2.1 (undoAns d0 d1 d2 x3).2.1 := hc_315
        have h : At w _ ([_, _, _, _, _, _, _, _] ++ (L_313 ++ (L_307 ++ (L_305 ++ (L_11 ++ (L_5 ++ ([]))))))) := h
        refine r_stA h 0 rfl rfl (hO_314.sz) (rfl) (hO_314.one) fun _ h => ?_
        have h : At w _ ([_, _, _, _, _, _, _, _] ++ (L_313 ++ (L_307 ++ (L_305 ++ (L_11 ++ (L_5 ++ ([]))))))) := h
        refine r_stA h 1 rfl rfl (hc_315.sz) (rfl) (hc_315.one) fun _ h => ?_
        have h : At w _ ([_, _, _, _, _, _, _, _] ++ (L_313 ++ (L_307 ++ (L_305 ++ (L_11 ++ (L_5 ++ ([]))))))) := h
        have h := h.dr2
        have h := h.dr2
        have h : At w _ ([_, _, _, _, _, _, _, _] ++ (L_313 ++ (L_11 ++ (L_5 ++ ([]))))) := h
        exact ⟨(⟨b14, 0, none⟩, ⟨b15, 0, none⟩, r52.2.2), rfl, b14, r52.1, L_313, b15, r52.2.1, rfl, hO_314, rfl, hc_315, hc_316, h⟩
      refine r_new h fun b14 _ h => ?_
      have h : At w _ ([_, _, _, _, _, _, _, _] ++ (L_305 ++ (L_11 ++ (L_5 ++ ([]))))) := h
      refine r_chk2 ?_ ?_ ?_
      · exact ldOk_blk h 5 rfl (a2.sz)
      · exact ldOk_blk h 2 rfl (hO_12.sz)
      refine r_call h (c_toKeyV (a2.at h)) fun r50 _ _ _ ⟨L_317, hL, hO_318⟩ => ?_
      have h := (h.join hL).rot
      have h : At w _ ([_, _, _, _, _, _, _, _] ++ (L_317 ++ (L_305 ++ (L_11 ++ (L_5 ++ ([])))))) := h
      refine r_chk1 ?_ ?_
      · exact ldOk_blk h 2 rfl (hO_12.sz)
      refine r_call h (c_impl_UndoCommit (hO_12.rd h.pl3) (hO_306.rd h.pl2) (hO_318.rd h.pl1) (by omega)) fun r52 _ h2 _ ⟨L_319, hL, hO_320, hc_321, hc_322⟩ => ?_
      have h := (h.join hL).rot
      have hc_321 : RdKey w r52.2.1 (undoAns d0 d1 d2 x3).2.1 := hc_321
      have h : At w _ ([_, _, _, _, _, _, _, _] ++ (L_319 ++ (L_317 ++ (L_305 ++ (L_11 ++ (L_5 ++ ([]))))))) := h
      refine r_stA h 0 rfl rfl (hO_320.sz) (rfl) (hO_320.one) fun _ h => ?_
      have h : At w _ ([_, _, _, _, _, _, _, _] ++ (L_319 ++ (L_317 ++ (L_305 ++ (L_11 ++ (L_5 ++ ([]))))))) := h
      refine r_stA h 1 rfl rfl (hc_321.sz) (rfl) (hc_321.one) fun _ h => ?_
      have h : At w _ ([_, _, _, _, _, _, _, _] ++ (L_319 ++ (L_317 ++ (L_305 ++ (L_11 ++ (L_5 ++ ([]))))))) := h
      have h := h.dr2
      have h := h.dr2
      have h : At w _ ([_, _, _, _, _, _, _, _] ++ (L_319 ++ (L_11 ++ (L_5 ++ ([]))))) := h
      exact ⟨(⟨b14, 0, none⟩, ⟨b15, 0, none⟩, r52.2.2), rfl, b14, r52.1, L_319, b15, r52.2.1, rfl, hO_320, rfl, hc_321, hc_322, h⟩
    refine r_new h fun b14 _ h => ?_
    have h : At w _ ([_, _, _, _, _, _, _, _] ++ (L_11 ++ (L_5 ++ ([])))) := h
    refine r_chk3 ?_ ?_ ?_ ?_
    · exact ldOk_blk h 5 rfl (a2.sz)
    · exact ldOk_blk h 6 rfl (a1.sz)
    · exact ldOk_blk h 2 rfl (hO_12.sz)
    refine r_call h (c_toKeyV (a1.at h)) fun r48 _ _ _ ⟨L_323, hL, hO_324⟩ => ?_
    have h := (h.join hL).rot
    have h : At w _ ([_, _, _, _, _, _, _, _] ++ (L_323 ++ (L_11 ++ (L_5 ++ ([]))))) := h
    refine r_chk2 ?_ ?_ ?_
    · exact ldOk_blk h 5 rfl (a2.sz)
    · exact ldOk_blk h 2 rfl (hO_12.sz)
    refine r_call h (c_toKeyV (a2.at h)) fun r50 _ _ _ ⟨L_325, hL, hO_326⟩ => ?_
    have h := (h.join hL).rot
    have h : At w _ ([_, _, _, _, _, _, _, _] ++ (L_325 ++ (L_323 ++ (L_11 ++ (L_5 ++ ([])))))) := h
    refine r_chk1 ?_ ?_
    · exact ldOk_blk h 2 rfl (hO_12.sz)
    refine r_call h (c_impl_UndoCommit (hO_12.rd h.pl3) (hO_324.rd h.pl2) (hO_326.rd h.pl1) (by omega)) fun r52 _ h2 _ ⟨L_327, hL, hO_328, hc_329, hc_330⟩ => ?_
    have h := (h.join hL).rot
    have hc_329 : RdKey w r52.2.1 (undoAns d0 d1 d2 x3).2.1 := hc_329
    have h : At w _ ([_, _, _, _, _, _, _, _] ++ (L_327 ++ (L_325 ++ (L_323 ++ (L_11 ++ (L_5 ++ ([]))))))) := h
    refine r_stA h 0 rfl rfl (hO_328.sz) (rfl) (hO_328.one) fun _ h => ?_
    have h : At w _ ([_, _, _, _, _, _, _, _] ++ (L_327 ++ (L_325 ++ (L_323 ++ (L_11 ++ (L_5 ++ ([]))))))) := h
    refine r_stA h 1 rfl rfl (hc_329.sz) (rfl) (hc_329.one) fun _ h => ?_
    have h : At w _ ([_, _, _, _, _, _, _, _] ++ (L_327 ++ (L_325 ++ (L_323 ++ (L_11 ++ (L_5 ++ ([]))))))) := h
    have h := h.dr2
    have h := h.dr2
    have h : At w _ ([_, _, _, _, _, _, _, _] ++ (L_327 ++ (L_11 ++ (L_5 ++ ([]))))) := h
    exact ⟨(⟨b14, 0, none⟩, ⟨b15, 0, none⟩, r52.2.2), rfl, b14, r52.1, L_327, b15, r52.2.1, rfl, hO_328, rfl, hc_329, hc_330, h⟩
  refine r_draw h fun _ h => ?_
  refine r_ldA h 2 rfl rfl (a0.sz) ?_
  refine r_ldA h 1 rfl rfl (a1.sz) ?_
  refine r_ldA h 0 rfl rfl (a2.sz) ?_
  refine ⟨?_, ?_⟩
  ·
    skip
    refine r_call h (c_toBookV (a0.rd.at h) (by omega)) fun r33 _ _ _ ⟨L_331, hL, hO_332⟩ => ?_
    have h := (h.join hL).rot
    have h : At w _ ([_, _, _] ++ (L_331 ++ ([]))) := h
    refine r_chk2 ?_ ?_ ?_
    · exact ldOk_blk h 0 rfl (a2.sz)
    · exact ldOk_blk h 1 rfl (a1.sz)
    refine ⟨?_, ?_⟩
    ·
      skip
      refine r_call h (c_toKeyV (a1.at h)) fun r35 _ _ _ ⟨L_333, hL, hO_334⟩ => ?_
      have h := (h.join hL).rot
      have h : At w _ ([_, _, _] ++ (L_333 ++ (L_331 ++ ([])))) := h
      refine r_chk1 ?_ ?_
      · exact ldOk_blk h 0 rfl (a2.sz)
      refine ⟨?_, ?_⟩
      ·
        skip
        refine r_call h (c_toKeyV (a2.at h)) fun r37 _ _ _ ⟨L_335, hL, hO_336⟩ => ?_
        have h := (h.join hL).rot
        have h : At w _ ([_, _, _] ++ (L_335 ++ (L_333 ++ (L_331 ++ ([]))))) := h
        refine ⟨?_, ?_⟩
        ·
          skip
          refine r_call h (c_spec_UndoCommit (hO_332.rd h.pl3) (hO_334.rd h.pl2) (hO_336.rd h.pl1) (by omega)) fun r39 _ h2 _ ⟨L_337, hL, hO_338, hc_339, hc_340⟩ => ?_
          have h := (h.join hL).rot
          have hc_339 : RdKey w r39.2.1 (undoAns d0 d1 d2 x3).2.1 := hc_339
          have h : At w _ ([_, _, _] ++ (L_337 ++ (L_335 ++ (L_333 ++ (L_331 ++ ([])))))) := h
          refine ⟨?_, ?_⟩
          ·
            skip
            refine r_new h fun b10 _ h => ?_
            have h : At w _ ([_, _, _, _] ++ (L_337 ++ (L_335 ++ (L_333 ++ (L_331 ++ ([])))))) := h
            refine r_new h fun b11 _ h => ?_
            have h : At w _ ([_, _, _, _, _] ++ (L_337 ++ (L_335 ++ (L_333 ++ (L_331 ++ ([])))))) := h
            refine r_stA h 1 rfl rfl (hO_338.sz) (rfl) (hO_338.one) fun _ h => ?_
            have h : At w _ ([_, _, _, _, _] ++ (L_337 ++ (L_335 ++ (L_333 ++ (L_331 ++ ([])))))) := h
            refine r_stA h 0 rfl rfl (hc_339.sz) (rfl) (hc_339.one) fun _ h => ?_
            have h : At w _ ([_, _, _, _, _] ++ (L_337 ++ (L_335 ++ (L_333 ++ (L_331 ++ ([])))))) := h
            have h := h.dr2
            have h := h.dr2
            have h := h.dr2
            have h : At w _ ([_, _, _, _, _] ++ (L_337 ++ ([]))) := h
            have h := At.sw2 h
            have h : At w _ ([_, _, _, _, _] ++ (L_337 ++ ([]))) := h
            exact ⟨(⟨b10, 0, none⟩, ⟨b11, 0, none⟩, r39.2.2), rfl, b10, r39.1, L_337, b11, r39.2.1, rfl, hO_338, rfl, hc_339, hc_340, h⟩
          refine r_new h fun b11 _ h => ?_
          have h : At w _ ([_, _, _, _] ++ (L_337 ++ (L_335 ++ (L_333 ++ (L_331 ++ ([])))))) := h
          refine r_new h fun b10 _ h => ?_
          have h : At w _ ([_, _, _, _, _] ++ (L_337 ++ (L_335 ++ (L_333 ++ (L_331 ++ ([])))))) := h
          refine r_stA h 0 rfl rfl (hO_338.sz) (rfl) (hO_338.one) fun _ h => ?_
          have h : At w _ ([_, _, _, _, _] ++ (L_337 ++ (L_335 ++ (L_333 ++ (L_331 ++ ([])))))) := h
          refine r_stA h 1 rfl rfl (hc_339.sz) (rfl) (hc_339.one) fun _ h => ?_
          have h : At w _ ([_, _, _, _, _] ++ (L_337 ++ (L_335 ++ (L_333 ++ (L_331 ++ ([])))))) := h
          have h := h.dr2
          have h := h.dr2
          have h := h.dr2
          have h : At w _ ([_, _, _, _, _] ++ (L_337 ++ ([]))) := h
          exact ⟨(⟨b10, 0, none⟩, ⟨b11, 0, none⟩, r39.2.2), rfl, b10, r39.1, L_337, b11, r39.2.1, rfl, hO_338, rfl, hc_339, hc_340, h⟩
        refine ⟨?_, ?_⟩
        ·
          skip
          refine r_new h fun b10 _ h => ?_
          have h : At w _ ([_, _, _, _] ++ (L_335 ++ (L_333 ++ (L_331 ++ ([]))))) := h
          refine ⟨?_, ?_⟩
          ·
            skip
            refine r_call h (c_spec_UndoCommit (hO_332.rd h.pl3) (hO_334.rd h.pl2) (hO_336.rd h.pl1) (by omega)) fun r39 _ h2 _ ⟨L_341, hL, hO_342, hc_343, hc_344⟩ => ?_
            have h := (h.join hL).rot
            have hc_343 : RdKey w r39.2.1 (undoAns d0 d1 d2 x3).2.1 := hc_343
            have h : At w _ ([_, _, _, _] ++ (L_341 ++ (L_335 ++ (L_333 ++ (L_331 ++ ([])))))) := h
            refine r_new h fun b11 _ h => ?_
            have h : At w _ ([_, _, _, _, _] ++ (L_341 ++ (L_335 ++ (L_333 ++ (L_331 ++ ([])))))) := h
            refine r_stA h 1 rfl rfl (hO_342.sz) (rfl) (hO_342.one) fun _ h => ?_
            have h : At w _ ([_, _, _, _, _] ++ (L_341 ++ (L_335 ++ (L_333 ++ (L_331 ++ ([])))))) := h
            refine r_stA h 0 rfl rfl (hc_343.sz) (rfl) (hc_343.one) fun _ h => ?_
            have h : At w _ ([_, _, _, _, _] ++ (L_341 ++ (L_335 ++ (L_333 ++ (L_331 ++ ([])))))) := h
            have h := h.dr2
            have h := h.dr2
            have h := h.dr2
            have h : At w _ ([_, _, _, _, _] ++ (L_341 ++ ([]))) := h
            have h := At.sw2 h
            have h : At w _ ([_, _, _, _, _] ++ (L_341 ++ ([]))) := h
            exact ⟨(⟨b10, 0, none⟩, ⟨b11, 0, none⟩, r39.2.2), rfl, b10, r39.1, L_341, b11, r39.2.1, rfl, hO_342, rfl, hc_343, hc_344, h⟩
          refine r_new h fun b11 _ h => ?_
          have h : At w _ ([_, _, _, _, _] ++ (L_335 ++ (L_333 ++ (L_331 ++ ([]))))) := h
          refine r_call h (c_spec_UndoCommit (hO_332.rd h.pl3) (hO_334.rd h.pl2) (hO_336.rd h.pl1) (by omega)) fun r39 _ h2 _ ⟨L_345, hL, hO_346, hc_347, hc_348⟩ => ?_
          have h := (h.join hL).rot
          have hc_347 : RdKey w r39.2.1 (undoAns d0 d1 d2 x3).2.1 := hc_347
          have h : At w _ ([_, _, _, _, _] ++ (L_345 ++ (L_335 ++ (L_333 ++ (L_331 ++ ([])))))) := h
          refine r_stA h 1 rfl rfl (hO_346.sz) (rfl) (hO_346.one) fun _ h => ?_
          have h : At w _ ([_, _, _, _, _] ++ (L_345 ++ (L_335 ++ (L_333 ++ (L_331 ++ ([])))))) := h
          refine r_stA h 0 rfl rfl (hc_347.sz) (rfl) (hc_347.one) fun _ h => ?_
          have h : At w _ ([_, _, _, _, _] ++ (L_345 ++ (L_335 ++ (L_333 ++ (L_331 ++ ([])))))) := h
          have h := h.dr2
          have h := h.dr2
          have h := h.dr2
          have h : At w _ ([_, _, _, _, _] ++ (L_345 ++ ([]))) := h
          have h := At.sw2 h
          have h : At w _ ([_, _, _, _, _] ++ (L_345 ++ ([]))) := h
          exact ⟨(⟨b10, 0, none⟩, ⟨b11, 0, none⟩, r39.2.2), rfl, b10, r39.1, L_345, b11, r39.2.1, rfl, hO_346, rfl, hc_347, hc_348, h⟩
        refine r_new h fun b11 _ h => ?_
        have h : At w _ ([_, _, _, _] ++ (L_335 ++ (L_333 ++ (L_331 ++ ([]))))) := h
        refine ⟨?_, ?_⟩
        ·
          skip
          refine r_call h (c_spec_UndoCommit (hO_332.rd h.pl3) (hO_334.rd h.pl2) (hO_336.rd h.pl1) (by omega)) fun r39 _ h2 _ ⟨L_349, hL, hO_350, hc_351, hc_352⟩ => ?_
          have h := (h.join hL).rot
          have hc_351 : RdKey w r39.2.1 (undoAns d0 d1 d2 x3).2.1 := hc_351
          have h : At w _ ([_, _, _, _] ++ (L_349 ++ (L_335 ++ (L_333 ++ (L_331 ++ ([])))))) := h
          refine r_new h fun b10 _ h => ?_
          have h : At w _ ([_, _, _, _, _] ++ (L_349 ++ (L_335 ++ (L_333 ++ (L_331 ++ ([])))))) := h
          refine r_stA h 0 rfl rfl (hO_350.sz) (rfl) (hO_350.one) fun _ h => ?_
          have h : At w _ ([_, _, _, _, _] ++ (L_349 ++ (L_335 ++ (L_333 ++ (L_331 ++ ([])))))) := h
          refine r_stA h 1 rfl rfl (hc_351.sz) (rfl) (hc_351.one) fun _ h => ?_
          have h : At w _ ([_, _, _, _, _] ++ (L_349 ++ (L_335 ++ (L_333 ++ (L_331 ++ ([])))))) := h
          have h := h.dr2
          have h := h.dr2
          have h := h.dr2
          have h : At w _ ([_, _, _, _, _] ++ (L_349 ++ ([]))) := h
          exact ⟨(⟨b10, 0, none⟩, ⟨b11, 0, none⟩, r39.2.2), rfl, b10, r39.1, L_349, b11, r39.2.1, rfl, hO_350, rfl, hc_351, hc_352, h⟩
        refine r_new h fun b10 _ h => ?_
        have h : At w _ ([_, _, _, _, _] ++ (L_335 ++ (L_333 ++ (L_331 ++ ([]))))) := h
        refine r_call h (c_spec_UndoCommit (hO_332.rd h.pl3) (hO_334.rd h.pl2) (hO_336.rd h.pl1) (by omega)) fun r39 _ h2 _ ⟨L_353, hL, hO_354, hc_355, hc_356⟩ => ?_
        have h := (h.join hL).rot
        have hc_355 : RdKey w r39.2.1 (undoAns d0 d1 d2 x3).2.1 := hc_355
        have h : At w _ ([_, _, _, _, _] ++ (L_353 ++ (L_335 ++ (L_333 ++ (L_331 ++ ([])))))) := h
        refine r_stA h 0 rfl rfl (hO_354.sz) (rfl) (hO_354.one) fun _ h => ?_
        have h : At w _ ([_, _, _, _, _] ++ (L_353 ++ (L_335 ++ (L_333 ++ (L_331 ++ ([])))))) := h
        refine r_stA h 1 rfl rfl (hc_355.sz) (rfl) (hc_355.one) fun _ h => ?_
        have h : At w _ ([_, _, _, _, _] ++ (L_353 ++ (L_335 ++ (L_333 ++ (L_331 ++ ([])))))) := h
        have h := h.dr2
        have h := h.dr2
        have h := h.dr2
        have h : At w _ ([_, _, _, _, _] ++ (L_353 ++ ([]))) := h
        exact ⟨(⟨b10, 0, none⟩, ⟨b11, 0, none⟩, r39.2.2), rfl, b10, r39.1, L_353, b11, r39.2.1, rfl, hO_354, rfl, hc_355, hc_356, h⟩
      refine ⟨?_, ?_⟩
      ·
        skip
        refine r_new h fun b10 _ h => ?_
        have h : At w _ ([_, _, _, _] ++ (L_333 ++ (L_331 ++ ([])))) := h
        refine r_chk1 ?_ ?_
        · exact ldOk_blk h 1 rfl (a2.sz)
        refine ⟨?_, ?_⟩
        ·
          skip
          refine r_call h (c_toKeyV (a2.at h)) fun r37 _ _ _ ⟨L_357, hL, hO_358⟩ => ?_
          have h := (h.join hL).rot
          have h : At w _ ([_, _, _, _] ++ (L_357 ++ (L_333 ++ (L_331 ++ ([]))))) := h
          refine ⟨?_, ?_⟩
          ·
            skip
            refine r_call h (c_spec_UndoCommit (hO_332.rd h.pl3) (hO_334.rd h.pl2) (hO_358.rd h.pl1) (by omega)) fun r39 _ h2 _ ⟨L_359, hL, hO_360, hc_361, hc_362⟩ => ?_
            have h := (h.join hL).rot
            have hc_361 : RdKey w r39.2.1 (undoAns d0 d1 d2 x3).2.1 := hc_361
            have h : At w _ ([_, _, _, _] ++ (L_359 ++ (L_357 ++ (L_333 ++ (L_331 ++ ([])))))) := h
            refine r_new h fun b11 _ h => ?_
            have h : At w _ ([_, _, _, _, _] ++ (L_359 ++ (L_357 ++ (L_333 ++ (L_331 ++ ([])))))) := h
            refine r_stA h 1 rfl rfl (hO_360.sz) (rfl) (hO_360.one) fun _ h => ?_
            have h : At w _ ([_, _, _, _, _] ++ (L_359 ++ (L_357 ++ (L_333 ++ (L_331 ++ ([])))))) := h
            refine r_stA h 0 rfl rfl (hc_361.sz) (rfl) (hc_361.one) fun _ h => ?_
            have h : At w _ ([_, _, _, _, _] ++ (L_359 ++ (L_357 ++ (L_333 ++ (L_331 ++ ([])))))) := h
            have h := h.dr2
            have h := h.dr2
            have h := h.dr2
            have h : At w _ ([_, _, _, _, _] ++ (L_359 ++ ([]))) := h
            have h := At.sw2 h
            have h : At w _ ([_, _, _, _, _] ++ (L_359 ++ ([]))) := h
            exact ⟨(⟨b10, 0, none⟩, ⟨b11, 0, none⟩, r39.2.2), rfl, b10, r39.1, L_359, b11, r39.2.1, rfl, hO_360, rfl, hc_361, hc_362, h⟩
          refine r_new h fun b11 _ h => ?_
          have h : At w _ ([_, _, _, _, _] ++ (L_357 ++ (L_333 ++ (L_331 ++ ([]))))) := h
          refine r_call h (c_spec_UndoCommit (hO_332.rd h.pl3) (hO_334.rd h.pl2) (hO_358.rd h.pl1) (by omega)) fun r39 _ h2 _ ⟨L_363, hL, hO_364, hc_365, hc_366⟩ => ?_
          have h := (h.join hL).rot
          have hc_365 : RdKey w r39.2.1 (undoAns d0 d1 d2 x3).2.1 := hc_365
          have h : At w _ ([_, _, _, _, _] ++ (L_363 ++ (L_357 ++ (L_333 ++ (L_331 ++ ([])))))) := h
          refine r_stA h 1 rfl rfl (hO_364.sz) (rfl) (hO_364.one) fun _ h => ?_
          have h : At w _ ([_, _, _, _, _] ++ (L_363 ++ (L_357 ++ (L_333 ++ (L_331 ++ ([])))))) := h
          refine r_stA h 0 rfl rfl (hc_365.sz) (rfl) (hc_365.one) fun _ h => ?_
          have h : At w _ ([_, _, _, _, _] ++ (L_363 ++ (L_357 ++ (L_333 ++ (L_331 ++ ([])))))) := h
          have h := h.dr2
          have h := h.dr2
          have h := h.dr2
          have h : At w _ ([_, _, _, _, _] ++ (L_363 ++ ([]))) := h
          have h := At.sw2 h
          have h : At w _ ([_, _, _, _, _] ++ (L_363 ++ ([]))) := h
          exact ⟨(⟨b10, 0, none⟩, ⟨b11, 0, none⟩, r39.2.2), rfl, b10, r39.1, L_363, b11, r39.2.1, rfl, hO_364, rfl, hc_365, hc_366, h⟩
        refine r_new h fun b11 _ h => ?_
        have h : At w _ ([_, _, _, _, _] ++ (L_333 ++ (L_331 ++ ([])))) := h
        refine r_chk1 ?_ ?_
        · exact ldOk_blk h 2 rfl (a2.sz)
        refine r_call h (c_toKeyV (a2.at h)) fun r37 _ _ _ ⟨L_367, hL, hO_368⟩ => ?_
        have h := (h.join hL).rot
        have h : At w _ ([_, _, _, _, _] ++ (L_367 ++ (L_333 ++ (L_331 ++ ([]))))) := h
        refine r_call h (c_spec_UndoCommit (hO_332.rd h.pl3) (hO_334.rd h.pl2) (hO_368.rd h.pl1) (by omega)) fun r39 _ h2 _ ⟨L_369, hL, hO_370, hc_371, hc_372⟩ => ?_
        have h := (h.join hL).rot
        have hc_371 : RdKey w r39.2.1 (undoAns d0 d1 d2 x3).2.1 := hc_371
        have h : At w _ ([_, _, _, _, _] ++ (L_369 ++ (L_367 ++ (L_333 ++ (L_331 ++ ([])))))) := h
        refine r_stA h 1 rfl rfl (hO_370.sz) (rfl) (hO_370.one) fun _ h => ?_
        have h : At w _ ([_, _, _, _, _] ++ (L_369 ++ (L_367 ++ (L_333 ++ (L_331 ++ ([])))))) := h
        refine r_stA h 0 rfl rfl (hc_371.sz) (rfl) (hc_371.one) fun _ h => ?_
        have h : At w _ ([_, _, _, _, _] ++ (L_369 ++ (L_367 ++ (L_333 ++ (L_331 ++ ([])))))) := h
        have h := h.dr2
        have h := h.dr2
        have h := h.dr2
        have h : At w _ ([_, _, _, _, _] ++ (L_369 ++ ([]))) := h
        have h := At.sw2 h
        have h : At w _ ([_, _, _, _, _] ++ (L_369 ++ ([]))) := h
        exact ⟨(⟨b10, 0, none⟩, ⟨b11, 0, none⟩, r39.2.2), rfl, b10, r39.1, L_369, b11, r39.2.1, rfl, hO_370, rfl, hc_371, hc_372, h⟩
      refine r_new h fun b11 _ h => ?_
      have h : At w _ ([_, _, _, _] ++ (L_333 ++ (L_331 ++ ([])))) := h
      refine r_chk1 ?_ ?_
      · exact ldOk_blk h 1 rfl (a2.sz)
      refine ⟨?_, ?_⟩
      ·
        skip
        refine r_call h (c_toKeyV (a2.at h)) fun r37 _ _ _ ⟨L_373, hL, hO_374⟩ => ?_
        have h := (h.join hL).rot
        have h : At w _ ([_, _, _, _] ++ (L_373 ++ (L_333 ++ (L_331 ++ ([]))))) := h
        refine ⟨?_, ?_⟩
        ·
          skip
          refine r_call h (c_spec_UndoCommit (hO_332.rd h.pl3) (hO_334.rd h.pl2) (hO_374.rd h.pl1) (by omega)) fun r39 _ h2 _ ⟨L_375, hL, hO_376, hc_377, hc_378⟩ => ?_
          have h := (h.join hL).rot
          have hc_377 : RdKey w r39.2.1 (undoAns d0 d1 d2 x3).2.1 := hc_377
          have h : At w _ ([_, _, _, _] ++ (L_375 ++ (L_373 ++ (L_333 ++ (L_331 ++ ([])))))) := h
          refine r_new h fun b10 _ h => ?_
          have h : At w _ ([_, _, _, _, _] ++ (L_375 ++ (L_373 ++ (L_333 ++ (L_331 ++ ([])))))) := h
          refine r_stA h 0 rfl rfl (hO_376.sz) (rfl) (hO_376.one) fun _ h => ?_
          have h : At w _ ([_, _, _, _, _] ++ (L_375 ++ (L_373 ++ (L_333 ++ (L_331 ++ ([])))))) := h
          refine r_stA h 1 rfl rfl (hc_377.sz) (rfl) (hc_377.one) fun _ h => ?_
          have h : At w _ ([_, _, _, _, _] ++ (L_375 ++ (L_373 ++ (L_333 ++ (L_331 ++ ([])))))) := h
          have h := h.dr2
          have h := h.dr2
          have h := h.dr2
          have h : At w _ ([_, _, _, _, _] ++ (L_375 ++ ([]))) := h
          exact ⟨(⟨b10, 0, none⟩, ⟨b11, 0, none⟩, r39.2.2), rfl, b10, r39.1, L_375, b11, r39.2.1, rfl, hO_376, rfl, hc_377, hc_378, h⟩
        refine r_new h fun b10 _ h => ?_
        have h : At w _ ([_, _, _, _, _] ++ (L_373 ++ (L_333 ++ (L_331 ++ ([]))))) := h
        refine r_call h (c_spec_UndoCommit (hO_332.rd h.pl3) (hO_334.rd h.pl2) (hO_374.rd h.pl1) (by omega)) fun r39 _ h2 _ ⟨L_379, hL, hO_380, hc_381, hc_382⟩ => ?_
        have h := (h.join hL).rot
        have hc_381 : RdKey w r39.2.1 (undoAns d0 d1 d2 x3).2.1 := hc_381
        have h : At w _ ([_, _, _, _, _] ++ (L_379 ++ (L_373 ++ (L_333 ++ (L_331 ++ ([])))))) := h
        refine r_stA h 0 rfl rfl (hO_380.sz) (rfl) (hO_380.one) fun _ h => ?_
        have h : At w _ ([_, _, _, _, _] ++ (L_379 ++ (L_373 ++ (L_333 ++ (L_331 ++ ([])))))) := h
        refine r_stA h 1 rfl rfl (hc_381.sz) (rfl) (hc_381.one) fun _ h => ?_
        have h : At w _ ([_, _, _, _, _] ++ (L_379 ++ (L_373 ++ (L_333 ++ (L_331 ++ ([])))))) := h
        have h := h.dr2
        have h := h.dr2
        have h := h.dr2
        have h : At w _ ([_, _, _, _, _] ++ (L_379 ++ ([]))) := h
        exact ⟨(⟨b10, 0, none⟩, ⟨b11, 0, none⟩, r39.2.2), rfl, b10, r39.1, L_379, b11, r39.2.1, rfl, hO_380, rfl, hc_381, hc_382, h⟩
      refine r_new h fun b10 _ h => ?_
      have h : At w _ ([_, _, _, _, _] ++ (L_333 ++ (L_331 ++ ([])))) := h
      refine r_chk1 ?_ ?_
      · exact ldOk_blk h 2 rfl (a2.sz)
      refine r_call h (c_toKeyV (a2.at h)) fun r37 _ _ _ ⟨L_383, hL, hO_384⟩ => ?_
      have h := (h.join hL).rot
      have h : At w _ ([_, _, _, _, _] ++ (L_383 ++ (L_333 ++ (L_331 ++ ([]))))) := h
      refine r_call h (c_spec_UndoCommit (hO_332.rd h.pl3) (hO_334.rd h.pl2) (hO_384.rd h.pl1) (by omega)) fun r39 _ h2 _ ⟨L_385, hL, hO_386, hc_387, hc_388⟩ => ?_
      have h := (h.join hL).rot
      have hc_387 : RdKey w r39.2.1 (undoAns d0 d1 d2 x3).2.1 := hc_387
      have h : At w _ ([_, _, _, _, _] ++ (L_385 ++ (L_383 ++ (L_333 ++ (L_331 ++ ([])))))) := h
      refine r_stA h 0 rfl rfl (hO_386.sz) (rfl) (hO_386.one) fun _ h => ?_
      have h : At w _ ([_, _, _, _, _] ++ (L_385 ++ (L_383 ++ (L_333 ++ (L_331 ++ ([])))))) := h
      refine r_stA h 1 rfl rfl (hc_387.sz) (rfl) (hc_387.one) fun _ h => ?_
      have h : At w _ ([_, _, _, _, _] ++ (L_385 ++ (L_383 ++ (L_333 ++ (L_331 ++ ([])))))) := h
      have h := h.dr2
      have h := h.dr2
      have h := h.dr2
      have h : At w _ ([_, _, _, _, _] ++ (L_385 ++ ([]))) := h
      exact ⟨(⟨b10, 0, none⟩, ⟨b11, 0, none⟩, r39.2.2), rfl, b10, r39.1, L_385, b11, r39.2.1, rfl, hO_386, rfl, hc_387, hc_388, h⟩
    refine ⟨?_, ?_⟩
    ·
      skip
      refine r_new h fun b10 _ h => ?_
      have h : At w _ ([_, _, _, _] ++ (L_331 ++ ([]))) := h
      refine r_chk2 ?_ ?_ ?_
      · exact ldOk_blk h 1 rfl (a2.sz)
      · exact ldOk_blk h 2 rfl (a1.sz)
      refine ⟨?_, ?_⟩
      ·
        skip
        refine r_call h (c_toKeyV (a1.at h)) fun r35 _ _ _ ⟨L_389, hL, hO_390⟩ => ?_
        have h := (h.join hL).rot
        have h : At w _ ([_, _, _, _] ++ (L_389 ++ (L_331 ++ ([])))) := h
        refine r_chk1 ?_ ?_
        · exact ldOk_blk h 1 rfl (a2.sz)
        refine ⟨?_, ?_⟩
        ·
          skip
          refine r_call h (c_toKeyV (a2.at h)) fun r37 _ _ _ ⟨L_391, hL, hO_392⟩ => ?_
          have h := (h.join hL).rot
          have h : At w _ ([_, _, _, _] ++ (L_391 ++ (L_389 ++ (L_331 ++ ([]))))) := h
          refine ⟨?_, ?_⟩
          ·
            skip
            refine r_call h (c_spec_UndoCommit (hO_332.rd h.pl3) (hO_390.rd h.pl2) (hO_392.rd h.pl1) (by omega)) fun r39 _ h2 _ ⟨L_393, hL, hO_394, hc_395, hc_396⟩ => ?_
            have h := (h.join hL).rot
            have hc_395 : RdKey w r39.2.1 (undoAns d0 d1 d2 x3).2.1 := hc_395
            have h : At w _ ([_, _, _, _] ++ (L_393 ++ (L_391 ++ (L_389 ++ (L_331 ++ ([])))))) := h
            refine r_new h fun b11 _ h => ?_
            have h : At w _ ([_, _, _, _, _] ++ (L_393 ++ (L_391 ++ (L_389 ++ (L_331 ++ ([])))))) := h
            refine r_stA h 1 rfl rfl (hO_394.sz) (rfl) (hO_394.one) fun _ h => ?_
            have h : At w _ ([_, _, _, _, _] ++ (L_393 ++ (L_391 ++ (L_389 ++ (L_331 ++ ([])))))) := h
            refine r_stA h 0 rfl rfl (hc_395.sz) (rfl) (hc_395.one) fun _ h => ?_
            have h : At w _ ([_, _, _, _, _] ++ (L_393 ++ (L_391 ++ (L_389 ++ (L_331 ++ ([])))))) := h
            have h := h.dr2
            have h := h.dr2
            have h := h.dr2
            have h : At w _ ([_, _, _, _, _] ++ (L_393 ++ ([]))) := h
            have h := At.sw2 h
            have h : At w _ ([_, _, _, _, _] ++ (L_393 ++ ([]))) := h
            exact ⟨(⟨b10, 0, none⟩, ⟨b11, 0, none⟩, r39.2.2), rfl, b10, r39.1, L_393, b11, r39.2.1, rfl, hO_394, rfl, hc_395, hc_396, h⟩
          refine r_new h fun b11 _ h => ?_
          have h : At w _ ([_, _, _, _, _] ++ (L_391 ++ (L_389 ++ (L_331 ++ ([]))))) := h
          refine r_call h (c_spec_UndoCommit (hO_332.rd h.pl3) (hO_390.rd h.pl2) (hO_392.rd h.pl1) (by omega)) fun r39 _ h2 _ ⟨L_397, hL, hO_398, hc_399, hc_400⟩ => ?_
          have h := (h.join hL).rot
          have hc_399 : RdKey w r39.2.1 (undoAns d0 d1 d2 x3).2.1 := hc_399
          have h : At w _ ([_, _, _, _, _] ++ (L_397 ++ (L_391 ++ (L_389 ++ (L_331 ++ ([])))))) := h
          refine r_stA h 1 rfl rfl (hO_398.sz) (rfl) (hO_398.one) fun _ h => ?_
          have h : At w _ ([_, _, _, _, _] ++ (L_397 ++ (L_391 ++ (L_389 ++ (L_331 ++ ([])))))) := h
          refine r_stA h 0 rfl rfl (hc_399.sz) (rfl) (hc_399.one) fun _ h => ?_
          have h : At w _ ([_, _, _, _, _] ++ (L_397 ++ (L_391 ++ (L_389 ++ (L_331 ++ ([])))))) := h
          have h := h.dr2
          have h := h.dr2
          have h := h.dr2
          have h : At w _ ([_, _, _, _, _] ++ (L_397 ++ ([]))) := h
          have h := At.sw2 h
          have h : At w _ ([_, _, _, _, _] ++ (L_397 ++ ([]))) := h
          exact ⟨(⟨b10, 0, none⟩, ⟨b11, 0, none⟩, r39.2.2), rfl, b10, r39.1, L_397, b11, r39.2.1, rfl, hO_398, rfl, hc_399, hc_400, h⟩
        refine r_new h fun b11 _ h => ?_
        have h : At w _ ([_, _, _, _, _] ++ (L_389 ++ (L_331 ++ ([])))) := h
        refine r_chk1 ?_ ?_
        · exact ldOk_blk h 2 rfl (a2.sz)
        refine r_call h (c_toKeyV (a2.at h)) fun r37 _ _ _ ⟨L_401, hL, hO_402⟩ => ?_
        have h := (h.join hL).rot
        have h : At w _ ([_, _, _, _, _] ++ (L_401 ++ (L_389 ++ (L_331 ++ ([]))))) := h
        refine r_call h (c_spec_UndoCommit (hO_332.rd h.pl3) (hO_390.rd h.pl2) (hO_402.rd h.pl1) (by omega)) fun r39 _ h2 _ ⟨L_403, hL, hO_404, hc_405, hc_406⟩ => ?_
        have h := (h.join hL).rot
        have hc_405 : RdKey w r39.2.1 (undoAns d0 d1 d2 x3).2.1 := hc_405
        have h : At w _ ([_, _, _, _, _] ++ (L_403 ++ (L_401 ++ (L_389 ++ (L_331 ++ ([])))))) := h
        refine r_stA h 1 rfl rfl (hO_404.sz) (rfl) (hO_404.one) fun _ h => ?_
        have h : At w _ ([_, _, _, _, _] ++ (L_403 ++ (L_401 ++ (L_389 ++ (L_331 ++ ([])))))) := h
        refine r_stA h 0 rfl rfl (hc_405.sz) (rfl) (hc_405.one) fun _ h => ?_
        have h : At w _ ([_, _, _, _, _] ++ (L_403 ++ (L_401 ++ (L_389 ++ (L_331 ++ ([])))))) := h
        have h := h.dr2
        have h := h.dr2
        have h := h.dr2
        have h : At w _ ([_, _, _, _, _] ++ (L_403 ++ ([]))) := h
        have h := At.sw2 h
        have h : At w _ ([_, _, _, _, _] ++ (L_403 ++ ([]))) := h
        exact ⟨(⟨b10, 0, none⟩, ⟨b11, 0, none⟩, r39.2.2), rfl, b10, r39.1, L_403, b11, r39.2.1, rfl, hO_404, rfl, hc_405, hc_406, h⟩
      refine r_new h fun b11 _ h => ?_
      have h : At w _ ([_, _, _, _, _] ++ (L_331 ++ ([]))) := h
      refine r_chk2 ?_ ?_ ?_
      · exact ldOk_blk h 2 rfl (a2.sz)
      · exact ldOk_blk h 3 rfl (a1.sz)
      refine r_call h (c_toKeyV (a1.at h)) fun r35 _ _ _ ⟨L_407, hL, hO_408⟩ => ?_
      have h := (h.join hL).rot
      have h : At w _ ([_, _, _, _, _] ++ (L_407 ++ (L_331 ++ ([])))) := h
      refine r_chk1 ?_ ?_
      · exact ldOk_blk h 2 rfl (a2.sz)
      refine r_call h (c_toKeyV (a2.at h)) fun r37 _ _ _ ⟨L_409, hL, hO_410⟩ => ?_
      have h := (h.join hL).rot
      have h : At w _ ([_, _, _, _, _] ++ (L_409 ++ (L_407 ++ (L_331 ++ ([]))))) := h
      refine r_call h (c_spec_UndoCommit (hO_332.rd h.pl3) (hO_408.rd h.pl2) (hO_410.rd h.pl1) (by omega)) fun r39 _ h2 _ ⟨L_411, hL, hO_412, hc_413, hc_414⟩ => ?_
      have h := (h.join hL).rot
      have hc_413 : RdKey w r39.2.1 (undoAns d0 d1 d2 x3).2.1 := hc_413
      have h : At w _ ([_, _, _, _, _] ++ (L_411 ++ (L_409 ++ (L_407 ++ (L_331 ++ ([])))))) := h
      refine r_stA h 1 rfl rfl (hO_412.sz) (rfl) (hO_412.one) fun _ h => ?_
      have h : At w _ ([_, _, _, _, _] ++ (L_411 ++ (L_409 ++ (L_407 ++ (L_331 ++ ([])))))) := h
      refine r_stA h 0 rfl rfl (hc_413.sz) (rfl) (hc_413.one) fun _ h => ?_
      have h : At w _ ([_, _, _, _, _] ++ (L_411 ++ (L_409 ++ (L_407 ++ (L_331 ++ ([])))))) := h
      have h := h.dr2
      have h := h.dr2
      have h := h.dr2
      have h : At w _ ([_, _, _, _, _] ++ (L_411 ++ ([]))) := h
      have h := At.sw2 h
      have h : At w _ ([_, _, _, _, _] ++ (L_411 ++ ([]))) := h
      exact ⟨(⟨b10, 0, none⟩, ⟨b11, 0, none⟩, r39.2.2), rfl, b10, r39.1, L_411, b11, r39.2.1, rfl, hO_412, rfl, hc_413, hc_414, h⟩
    refine r_new h fun b11 _ h => ?_
    have h : At w _ ([_, _, _, _] ++ (L_331 ++ ([]))) := h
    refine r_chk2 ?_ ?_ ?_
    · exact ldOk_blk h 1 rfl (a2.sz)
    · exact ldOk_blk h 2 rfl (a1.sz)
    refine ⟨?_, ?_⟩
    ·
      skip
      refine r_call h (c_toKeyV (a1.at h)) fun r35 _ _ _ ⟨L_415, hL, hO_416⟩ => ?_
      have h := (h.join hL).rot
      have h : At w _ ([_, _, _, _] ++ (L_415 ++ (L_331 ++ ([])))) := h
      refine r_chk1 ?_ ?_
      · exact ldOk_blk h 1 rfl (a2.sz)
      refine ⟨?_, ?_⟩
      ·
        skip
        refine r_call h (c_toKeyV (a2.at h)) fun r37 _ _ _ ⟨L_417, hL, hO_418⟩ => ?_
        have h := (h.join hL).rot
        have h : At w _ ([_, _, _, _] ++ (L_417 ++ (L_415 ++ (L_331 ++ ([]))))) := h
        refine ⟨?_, ?_⟩
        ·
          skip
          refine r_call h (c_spec_UndoCommit (hO_332.rd h.pl3) (hO_416.rd h.pl2) (hO_418.rd h.pl1) (by omega)) fun r39 _ h2 _ ⟨L_419, hL, hO_420, hc_421, hc_422⟩ => ?_
          have h := (h.join hL).rot
          have hc_421 : RdKey w r39.2.1 (undoAns d0 d1 d2 x3).2.1 := hc_421
          have h : At w _ ([_, _, _, _] ++ (L_419 ++ (L_417 ++ (L_415 ++ (L_331 ++ ([])))))) := h
          refine r_new h fun b10 _ h => ?_
          have h : At w _ ([_, _, _, _, _] ++ (L_419 ++ (L_417 ++ (L_415 ++ (L_331 ++ ([])))))) := h
          refine r_stA h 0 rfl rfl (hO_420.sz) (rfl) (hO_420.one) fun _ h => ?_
          have h : At w _ ([_, _, _, _, _] ++ (L_419 ++ (L_417 ++ (L_415 ++ (L_331 ++ ([])))))) := h
          refine r_stA h 1 rfl rfl (hc_421.sz) (rfl) (hc_421.one) fun _ h => ?_
          have h : At w _ ([_, _, _, _, _] ++ (L_419 ++ (L_417 ++ (L_415 ++ (L_331 ++ ([])))))) := h
          have h := h.dr2
          have h := h.dr2
          have h := h.dr2
          have h : At w _ ([_, _, _, _, _] ++ (L_419 ++ ([]))) := h
          exact ⟨(⟨b10, 0, none⟩, ⟨b11, 0, none⟩, r39.2.2), rfl, b10, r39.1, L_419, b11, r39.2.1, rfl, hO_420, rfl, hc_421, hc_422, h⟩
        refine r_new h fun b10 _ h => ?_
        have h : At w _ ([_, _, _, _, _] ++ (L_417 ++ (L_415 ++ (L_331 ++ ([]))))) := h
        refine r_call h (c_spec_UndoCommit (hO_332.rd h.pl3) (hO_416.rd h.pl2) (hO_418.rd h.pl1) (by omega)) fun r39 _ h2 _ ⟨L_423, hL, hO_424, hc_425, hc_426⟩ => ?_
        have h := (h.join hL).rot
        have hc_425 : RdKey w r39.2.1 (undoAns d0 d1 d2 x3).2.1 := hc_425
        have h : At w _ ([_, _, _, _, _] ++ (L_423 ++ (L_417 ++ (L_415 ++ (L_331 ++ ([])))))) := h
        refine r_stA h 0 rfl rfl (hO_424.sz) (rfl) (hO_424.one) fun _ h => ?_
        have h : At w _ ([_, _, _, _, _] ++ (L_423 ++ (L_417 ++ (L_415 ++ (L_331 ++ ([])))))) := h
        refine r_stA h 1 rfl rfl (hc_425.sz) (rfl) (hc_425.one) fun _ h => ?_
        have h : At w _ ([_, _, _, _, _] ++ (L_423 ++ (L_417 ++ (L_415 ++ (L_331 ++ ([])))))) := h
        have h := h.dr2
        have h := h.dr2
        have h := h.dr2
        have h : At w _ ([_, _, _, _, _] ++ (L_423 ++ ([]))) := h
        exact ⟨(⟨b10, 0, none⟩, ⟨b11, 0, none⟩, r39.2.2), rfl, b10, r39.1, L_423, b11, r39.2.1, rfl, hO_424, rfl, hc_425, hc_426, h⟩
      refine r_new h fun b10 _ h => ?_
      have h : At w _ ([_, _, _, _, _] ++ (L_415 ++ (L_331 ++ ([])))) := h
      refine r_chk1 ?_ ?_
      · exact ldOk_blk h 2 rfl (a2.sz)
      refine r_call h (c_toKeyV (a2.at h)) fun r37 _ _ _ ⟨L_427, hL, hO_428⟩ => ?_
      have h := (h.join hL).rot
      have h : At w _ ([_, _, _, _, _] ++ (L_427 ++ (L_415 ++ (L_331 ++ ([]))))) := h
      refine r_call h (c_spec_UndoCommit (hO_332.rd h.pl3) (hO_416.rd h.pl2) (hO_428.rd h.pl1) (by omega)) fun r39 _ h2 _ ⟨L_429, hL, hO_430, hc_431, hc_432⟩ => ?_
      have h := (h.join hL).rot
      have hc_431 : RdKey w r39.2.1 (undoAns d0 d1 d2 x3).2.1 := hc_431
      have h : At w _ ([_, _, _, _, _] ++ (L_429 ++ (L_427 ++ (L_415 ++ (L_331 ++ ([])))))) := h
      refine r_stA h 0 rfl rfl (hO_430.sz) (rfl) (hO_430.one) fun _ h => ?_
      have h : At w _ ([_, _, _, _, _] ++ (L_429 ++ (L_427 ++ (L_415 ++ (L_331 ++ ([])))))) := h
      refine r_stA h 1 rfl rfl (hc_431.sz) (rfl) (hc_431.one) fun _ h => ?_
      have h : At w _ ([_, _, _, _, _] ++ (L_429 ++ (L_427 ++ (L_415 ++ (L_331 ++ ([])))))) := h
      have h := h.dr2
      have h := h.dr2
      have h := h.dr2
      have h : At w _ ([_, _, _, _, _] ++ (L_429 ++ ([]))) := h
      exact ⟨(⟨b10, 0, none⟩, ⟨b11, 0, none⟩, r39.2.2), rfl, b10, r39.1, L_429, b11, r39.2.1, rfl, hO_430, rfl, hc_431, hc_432, h⟩
    refine r_new h fun b10 _ h => ?_
    have h : At w _ ([_, _, _, _, _] ++ (L_331 ++ ([]))) := h
    refine r_chk2 ?_ ?_ ?_
    · exact ldOk_blk h 2 rfl (a2.sz)
    · exact ldOk_blk h 3 rfl (a1.sz)
    refine r_call h (c_toKeyV (a1.at h)) fun r35 _ _ _ ⟨L_433, hL, hO_434⟩ => ?_
    have h := (h.join hL).rot
    have h : At w _ ([_, _, _, _, _] ++ (L_433 ++ (L_331 ++ ([])))) := h
    refine r_chk1 ?_ ?_
    · exact ldOk_blk h 2 rfl (a2.sz)
    refine r_call h (c_toKeyV (a2.at h)) fun r37 _ _ _ ⟨L_435, hL, hO_436⟩ => ?_
    have h := (h.join hL).rot
    have h : At w _ ([_, _, _, _, _] ++ (L_435 ++ (L_433 ++ (L_331 ++ ([]))))) := h
    refine r_call h (c_spec_UndoCommit (hO_332.rd h.pl3) (hO_434.rd h.pl2) (hO_436.rd h.pl1) (by omega)) fun r39 _ h2 _ ⟨L_437, hL, hO_438, hc_439, hc_440⟩ => ?_
    have h := (h.join hL).rot
    have hc_439 : RdKey w r39.2.1 (undoAns d0 d1 d2 x3).2.1 := hc_439
    have h : At w _ ([_, _, _, _, _] ++ (L_437 ++ (L_435 ++ (L_433 ++ (L_331 ++ ([])))))) := h
    refine r_stA h 0 rfl rfl (hO_438.sz) (rfl) (hO_438.one) fun _ h => ?_
    have h : At w _ ([_, _, _, _, _] ++ (L_437 ++ (L_435 ++ (L_433 ++ (L_331 ++ ([])))))) := h
    refine r_stA h 1 rfl rfl (hc_439.sz) (rfl) (hc_439.one) fun _ h => ?_
    have h : At w _ ([_, _, _, _, _] ++ (L_437 ++ (L_435 ++ (L_433 ++ (L_331 ++ ([])))))) := h
    have h := h.dr2
    have h := h.dr2
    have h := h.dr2
    have h : At w _ ([_, _, _, _, _] ++ (L_437 ++ ([]))) := h
    exact ⟨(⟨b10, 0, none⟩, ⟨b11, 0, none⟩, r39.2.2), rfl, b10, r39.1, L_437, b11, r39.2.1, rfl, hO_438, rfl, hc_439, hc_440, h⟩
  refine ⟨?_, ?_⟩
  ·
    skip
    refine r_new h fun b10 _ h => ?_
    have h : At w _ ([_, _, _, _] ++ ([])) := h
    refine r_chk3 ?_ ?_ ?_ ?_
    · exact ldOk_blk h 1 rfl (a2.sz)
    · exact ldOk_blk h 2 rfl (a1.sz)
    · exact ldOk_blk h 3 rfl (a0.sz)
    refine ⟨?_, ?_⟩
    ·
      skip
      refine r_call h (c_toBookV (a0.rd.at h) (by omega)) fun r33 _ _ _ ⟨L_441, hL, hO_442⟩ => ?_
      have h := (h.join hL).rot
      have h : At w _ ([_, _, _, _] ++ (L_441 ++ ([]))) := h
      refine r_chk2 ?_ ?_ ?_
      · exact ldOk_blk h 1 rfl (a2.sz)
      · exact ldOk_blk h 2 rfl (a1.sz)
      refine ⟨?_, ?_⟩
      ·
        skip
        refine r_call h (c_toKeyV (a1.at h)) fun r35 _ _ _ ⟨L_443, hL, hO_444⟩ => ?_
        have h := (h.join hL).rot
        have h : At w _ ([_, _, _, _] ++ (L_443 ++ (L_441 ++ ([])))) := h
        refine r_chk1 ?_ ?_
        · exact ldOk_blk h 1 rfl (a2.sz)
        refine ⟨?_, ?_⟩
        ·
          skip
          refine r_call h (c_toKeyV (a2.at h)) fun r37 _ _ _ ⟨L_445, hL, hO_446⟩ => ?_
          have h := (h.join hL).rot
          have h : At w _ ([_, _, _, _] ++ (L_445 ++ (L_443 ++ (L_441 ++ ([]))))) := h
          refine ⟨?_, ?_⟩
          ·
            skip
            refine r_call h (c_spec_UndoCommit (hO_442.rd h.pl3) (hO_444.rd h.pl2) (hO_446.rd h.pl1) (by omega)) fun r39 _ h2 _ ⟨L_447, hL, hO_448, hc_449, hc_450⟩ => ?_
            have h := (h.join hL).rot
            have hc_449 : RdKey w r39.2.1 (undoAns d0 d1 d2 x3).2.1 := hc_449
            have h : At w _ ([_, _, _, _] ++ (L_447 ++ (L_445 ++ (L_443 ++ (L_441 ++ ([])))))) := h
            refine r_new h fun b11 _ h => ?_
            have h : At w _ ([_, _, _, _, _] ++ (L_447 ++ (L_445 ++ (L_443 ++ (L_441 ++ ([])))))) := h
            refine r_stA h 1 rfl rfl (hO_448.sz) (rfl) (hO_448.one) fun _ h => ?_
            have h : At w _ ([_, _, _, _, _] ++ (L_447 ++ (L_445 ++ (L_443 ++ (L_441 ++ ([])))))) := h
            refine r_stA h 0 rfl rfl (hc_449.sz) (rfl) (hc_449.one) fun _ h => ?_
            have h : At w _ ([_, _, _, _, _] ++ (L_447 ++ (L_445 ++ (L_443 ++ (L_441 ++ ([])))))) := h
            have h := h.dr2
            have h := h.dr2
            have h := h.dr2
            have h : At w _ ([_, _, _, _, _] ++ (L_447 ++ ([]))) := h
            have h := At.sw2 h
            have h : At w _ ([_, _, _, _, _] ++ (L_447 ++ ([]))) := h
            exact ⟨(⟨b10, 0, none⟩, ⟨b11, 0, none⟩, r39.2.2), rfl, b10, r39.1, L_447, b11, r39.2.1, rfl, hO_448, rfl, hc_449, hc_450, h⟩
          refine r_new h fun b11 _ h => ?_
          have h : At w _ ([_, _, _, _, _] ++ (L_445 ++ (L_443 ++ (L_441 ++ ([]))))) := h
          refine r_call h (c_spec_UndoCommit (hO_442.rd h.pl3) (hO_444.rd h.pl2) (hO_446.rd h.pl1) (by omega)) fun r39 _ h2 _ ⟨L_451, hL, hO_452, hc_453, hc_454⟩ => ?_
          have h := (h.join hL).rot
          have hc_453 : RdKey w r39.2.1 (undoAns d0 d1 d2 x3).2.1 := hc_453
          have h : At w _ ([_, _, _, _, _] ++ (L_451 ++ (L_445 ++ (L_443 ++ (L_441 ++ ([])))))) := h
          refine r_stA h 1 rfl rfl (hO_452.sz) (rfl) (hO_452.one) fun _ h => ?_
          have h : At w _ ([_, _, _, _, _] ++ (L_451 ++ (L_445 ++ (L_443 ++ (L_441 ++ ([])))))) := h
          refine r_stA h 0 rfl rfl (hc_453.sz) (rfl) (hc_453.one) fun _ h => ?_
          have h : At w _ ([_, _, _, _, _] ++ (L_451 ++ (L_445 ++ (L_443 ++ (L_441 ++ ([])))))) := h
          have h := h.dr2
          have h := h.dr2
          have h := h.dr2
          have h : At w _ ([_, _, _, _, _] ++ (L_451 ++ ([]))) := h
          have h := At.sw2 h
          have h : At w _ ([_, _, _, _, _] ++ (L_451 ++ ([]))) := h
          exact ⟨(⟨b10, 0, none⟩, ⟨b11, 0, none⟩, r39.2.2), rfl, b10, r39.1, L_451, b11, r39.2.1, rfl, hO_452, rfl, hc_453, hc_454, h⟩
        refine r_new h fun b11 _ h => ?_
        have h : At w _ ([_, _, _, _, _] ++ (L_443 ++ (L_441 ++ ([])))) := h
        refine r_chk1 ?_ ?_
        · exact ldOk_blk h 2 rfl (a2.sz)
        refine r_call h (c_toKeyV (a2.at h)) fun r37 _ _ _ ⟨L_455, hL, hO_456⟩ => ?_
        have h := (h.join hL).rot
        have h : At w _ ([_, _, _, _, _] ++ (L_455 ++ (L_443 ++ (L_441 ++ ([]))))) := h
        refine r_call h (c_spec_UndoCommit (hO_442.rd h.pl3) (hO_444.rd h.pl2) (hO_456.rd h.pl1) (by omega)) fun r39 _ h2 _ ⟨L_457, hL, hO_458, hc_459, hc_460⟩ => ?_
        have h := (h.join hL).rot
        have hc_459 : RdKey w r39.2.1 (undoAns d0 d1 d2 x3).2.1 := hc_459
        have h : At w _ ([_, _, _, _, _] ++ (L_457 ++ (L_455 ++ (L_443 ++ (L_441 ++ ([])))))) := h
        refine r_stA h 1 rfl rfl (hO_458.sz) (rfl) (hO_458.one) fun _ h => ?_
        have h : At w _ ([_, _, _, _, _] ++ (L_457 ++ (L_455 ++ (L_443 ++ (L_441 ++ ([])))))) := h
        refine r_stA h 0 rfl rfl (hc_459.sz) (rfl) (hc_459.one) fun _ h => ?_
        have h : At w _ ([_, _, _, _, _] ++ (L_457 ++ (L_455 ++ (L_443 ++ (L_441 ++ ([])))))) := h
        have h := h.dr2
        have h := h.dr2
        have h := h.dr2
        have h : At w _ ([_, _, _, _, _] ++ (L_457 ++ ([]))) := h
        have h := At.sw2 h
        have h : At w _ ([_, _, _, _, _] ++ (L_457 ++ ([]))) := h
        exact ⟨(⟨b10, 0, none⟩, ⟨b11, 0, none⟩, r39.2.2), rfl, b10, r39.1, L_457, b11, r39.2.1, rfl, hO_458, rfl, hc_459, hc_460, h⟩
      refine r_new h fun b11 _ h => ?_
      have h : At w _ ([_, _, _, _, _] ++ (L_441 ++ ([]))) := h
      refine r_chk2 ?_ ?_ ?_
      · exact ldOk_blk h 2 rfl (a2.sz)
      · exact ldOk_blk h 3 rfl (a1.sz)
      refine r_call h (c_toKeyV (a1.at h)) fun r35 _ _ _ ⟨L_461, hL, hO_462⟩ => ?_
      have h := (h.join hL).rot
      have h : At w _ ([_, _, _, _, _] ++ (L_461 ++ (L_441 ++ ([])))) := h
      refine r_chk1 ?_ ?_
      · exact ldOk_blk h 2 rfl (a2.sz)
      refine r_call h (c_toKeyV (a2.at h)) fun r37 _ _ _ ⟨L_463, hL, hO_464⟩ => ?_
      have h := (h.join hL).rot
      have h : At w _ ([_, _, _, _, _] ++ (L_463 ++ (L_461 ++ (L_441 ++ ([]))))) := h
      refine r_call h (c_spec_UndoCommit (hO_442.rd h.pl3) (hO_462.rd h.pl2) (hO_464.rd h.pl1) (by omega)) fun r39 _ h2 _ ⟨L_465, hL, hO_466, hc_467, hc_468⟩ => ?_
      have h := (h.join hL).rot
      have hc_467 : RdKey w r39.2.1 (undoAns d0 d1 d2 x3).2.1 := hc_467
      have h : At w _ ([_, _, _, _, _] ++ (L_465 ++ (L_463 ++ (L_461 ++ (L_441 ++ ([])))))) := h
      refine r_stA h 1 rfl rfl (hO_466.sz) (rfl) (hO_466.one) fun _ h => ?_
      have h : At w _ ([_, _, _, _, _] ++ (L_465 ++ (L_463 ++ (L_461 ++ (L_441 ++ ([])))))) := h
      refine r_stA h 0 rfl rfl (hc_467.sz) (rfl) (hc_467.one) fun _ h => ?_
      have h : At w _ ([_, _, _, _, _] ++ (L_465 ++ (L_463 ++ (L_461 ++ (L_441 ++ ([])))))) := h
      have h := h.dr2
      have h := h.dr2
      have h := h.dr2
      have h : At w _ ([_, _, _, _, _] ++ (L_465 ++ ([]))) := h
      have h := At.sw2 h
      have h : At w _ ([_, _, _, _, _] ++ (L_465 ++ ([]))) := h
      exact ⟨(⟨b10, 0, none⟩, ⟨b11, 0, none⟩, r39.2.2), rfl, b10, r39.1, L_465, b11, r39.2.1, rfl, hO_466, rfl, hc_467, hc_468, h⟩
    refine r_new h fun b11 _ h => ?_
    have h : At w _ ([_, _, _, _, _] ++ ([])) := h
    refine r_chk3 ?_ ?_ ?_ ?_
    · exact ldOk_blk h 2 rfl (a2.sz)
    · exact ldOk_blk h 3 rfl (a1.sz)
    · exact ldOk_blk h 4 rfl (a0.sz)
    refine r_call h (c_toBookV (a0.rd.at h) (by omega)) fun r33 _ _ _ ⟨L_469, hL, hO_470⟩ => ?_
    have h := (h.join hL).rot
    have h : At w _ ([_, _, _, _, _] ++ (L_469 ++ ([]))) := h
    refine r_chk2 ?_ ?_ ?_
    · exact ldOk_blk h 2 rfl (a2.sz)
    · exact ldOk_blk h 3 rfl (a1.sz)
    refine r_call h (c_toKeyV (a1.at h)) fun r35 _ _ _ ⟨L_471, hL, hO_472⟩ => ?_
    have h := (h.join hL).rot
    have h : At w _ ([_, _, _, _, _] ++ (L_471 ++ (L_469 ++ ([])))) := h
    refine r_chk1 ?_ ?_
    · exact ldOk_blk h 2 rfl (a2.sz)
    refine r_call h (c_toKeyV (a2.at h)) fun r37 _ _ _ ⟨L_473, hL, hO_474⟩ => ?_
    have h := (h.join hL).rot
    have h : At w _ ([_, _, _, _, _] ++ (L_473 ++ (L_471 ++ (L_469 ++ ([]))))) := h
    refine r_call h (c_spec_UndoCommit (hO_470.rd h.pl3) (hO_472.rd h.pl2) (hO_474.rd h.pl1) (by omega)) fun r39 _ h2 _ ⟨L_475, hL, hO_476, hc_477, hc_478⟩ => ?_
    have h := (h.join hL).rot
    have hc_477 : RdKey w r39.2.1 (undoAns d0 d1 d2 x3).2.1 := hc_477
    have h : At w _ ([_, _, _, _, _] ++ (L_475 ++ (L_473 ++ (L_471 ++ (L_469 ++ ([])))))) := h
    refine r_stA h 1 rfl rfl (hO_476.sz) (rfl) (hO_476.one) fun _ h => ?_
    have h : At w _ ([_, _, _, _, _] ++ (L_475 ++ (L_473 ++ (L_471 ++ (L_469 ++ ([])))))) := h
    refine r_stA h 0 rfl rfl (hc_477.sz) (rfl) (hc_477.one) fun _ h => ?_
    have h : At w _ ([_, _, _, _, _] ++ (L_475 ++ (L_473 ++ (L_471 ++ (L_469 ++ ([])))))) := h
    have h := h.dr2
    have h := h.dr2
    have h := h.dr2
    have h : At w _ ([_, _, _, _, _] ++ (L_475 ++ ([]))) := h
    have h := At.sw2 h
    have h : At w _ ([_, _, _, _, _] ++ (L_475 ++ ([]))) := h
    exact ⟨(⟨b10, 0, none⟩, ⟨b11, 0, none⟩, r39.2.2), rfl, b10, r39.1, L_475, b11, r39.2.1, rfl, hO_476, rfl, hc_477, hc_478, h⟩
  refine r_new h fun b11 _ h => ?_
  have h : At w _ ([_, _, _, _] ++ ([])) := h
  refine r_chk3 ?_ ?_ ?_ ?_
  · exact ldOk_blk h 1 rfl (a2.sz)
  · exact ldOk_blk h 2 rfl (a1.sz)
  · exact ldOk_blk h 3 rfl (a0.sz)
  refine ⟨?_, ?_⟩
  ·
    skip
    refine r_call h (c_toBookV (a0.rd.at h) (by omega)) fun r33 _ _ _ ⟨L_479, hL, hO_480⟩ => ?_
    have h := (h.join hL).rot
    have h : At w _ ([_, _, _, _] ++ (L_479 ++ ([]))) := h
    refine r_chk2 ?_ ?_ ?_
    · exact ldOk_blk h 1 rfl (a2.sz)
    · exact ldOk_blk h 2 rfl (a1.sz)
    refine ⟨?_, ?_⟩
    ·
      skip
      refine r_call h (c_toKeyV (a1.at h)) fun r35 _ _ _ ⟨L_481, hL, hO_482⟩ => ?_
      have h := (h.join hL).rot
      have h : At w _ ([_, _, _, _] ++ (L_481 ++ (L_479 ++ ([])))) := h
      refine r_chk1 ?_ ?_
      · exact ldOk_blk h 1 rfl (a2.sz)
      refine ⟨?_, ?_⟩
      ·
        skip
        refine r_call h (c_toKeyV (a2.at h)) fun r37 _ _ _ ⟨L_483, hL, hO_484⟩ => ?_
        have h := (h.join hL).rot
        have h : At w _ ([_, _, _, _] ++ (L_483 ++ (L_481 ++ (L_479 ++ ([]))))) := h
        refine ⟨?_, ?_⟩
        ·
          skip
          refine r_call h (c_spec_UndoCommit (hO_480.rd h.pl3) (hO_482.rd h.pl2) (hO_484.rd h.pl1) (by omega)) fun r39 _ h2 _ ⟨L_485, hL, hO_486, hc_487, hc_488⟩ => ?_
          have h := (h.join hL).rot
          have hc_487 : RdKey w r39.2.1 (undoAns d0 d1 d2 x3).2.1 := hc_487
          have h : At w _ ([_, _, _, _] ++ (L_485 ++ (L_483 ++ (L_481 ++ (L_479 ++ ([])))))) := h
          refine r_new h fun b10 _ h => ?_
          have h : At w _ ([_, _, _, _, _] ++ (L_485 ++ (L_483 ++ (L_481 ++ (L_479 ++ ([])))))) := h
          refine r_stA h 0 rfl rfl (hO_486.sz) (rfl) (hO_486.one) fun _ h => ?_
          have h : At w _ ([_, _, _, _, _] ++ (L_485 ++ (L_483 ++ (L_481 ++ (L_479 ++ ([])))))) := h
          refine r_stA h 1 rfl rfl (hc_487.sz) (rfl) (hc_487.one) fun _ h => ?_
          have h : At w _ ([_, _, _, _, _] ++ (L_485 ++ (L_483 ++ (L_481 ++ (L_479 ++ ([])))))) := h
          have h := h.dr2
          have h := h.dr2
          have h := h.dr2
          have h : At w _ ([_, _, _, _, _] ++ (L_485 ++ ([]))) := h
          exact ⟨(⟨b10, 0, none⟩, ⟨b11, 0, none⟩, r39.2.2), rfl, b10, r39.1, L_485, b11, r39.2.1, rfl, hO_486, rfl, hc_487, hc_488, h⟩
        refine r_new h fun b10 _ h => ?_
        have h : At w _ ([_, _, _, _, _] ++ (L_483 ++ (L_481 ++ (L_479 ++ ([]))))) := h
        refine r_call h (c_spec_UndoCommit (hO_480.rd h.pl3) (hO_482.rd h.pl2) (hO_484.rd h.pl1) (by omega)) fun r39 _ h2 _ ⟨L_489, hL, hO_490, hc_491, hc_492⟩ => ?_
        have h := (h.join hL).rot
        have hc_491 : RdKey w r39.2.1 (undoAns d0 d1 d2 x3).2.1 := hc_491
        have h : At w _ ([_, _, _, _, _] ++ (L_489 ++ (L_483 ++ (L_481 ++ (L_479 ++ ([])))))) := h
        refine r_stA h 0 rfl rfl (hO_490.sz) (rfl) (hO_490.one) fun _ h => ?_
        have h : At w _ ([_, _, _, _, _] ++ (L_489 ++ (L_483 ++ (L_481 ++ (L_479 ++ ([])))))) := h
        refine r_stA h 1 rfl rfl (hc_491.sz) (rfl) (hc_491.one) fun _ h => ?_
        have h : At w _ ([_, _, _, _, _] ++ (L_489 ++ (L_483 ++ (L_481 ++ (L_479 ++ ([])))))) := h
        have h := h.dr2
        have h := h.dr2
        have h := h.dr2
        have h : At w _ ([_, _, _, _, _] ++ (L_489 ++ ([]))) := h
        exact ⟨(⟨b10, 0, none⟩, ⟨b11, 0, none⟩, r39.2.2), rfl, b10, r39.1, L_489, b11, r39.2.1, rfl, hO_490, rfl, hc_491, hc_492, h⟩
      refine r_new h fun b10 _ h => ?_
      have h : At w _ ([_, _, _, _, _] ++ (L_481 ++ (L_479 ++ ([])))) := h
      refine r_chk1 ?_ ?_
      · exact ldOk_blk h 2 rfl (a2.sz)
      refine r_call h (c_toKeyV (a2.at h)) fun r37 _ _ _ ⟨L_493, hL, hO_494⟩ => ?_
      have h := (h.join hL).rot
      have h : At w _ ([_, _, _, _, _] ++ (L_493 ++ (L_481 ++ (L_479 ++ ([]))))) := h
      refine r_call h (c_spec_UndoCommit (hO_480.rd h.pl3) (hO_482.rd h.pl2) (hO_494.rd h.pl1) (by omega)) fun r39 _ h2 _ ⟨L_495, hL, hO_496, hc_497, hc_498⟩ => ?_
      have h := (h.join hL).rot
      have hc_497 : RdKey w r39.2.1 (undoAns d0 d1 d2 x3).2.1 := hc_497
      have h : At w _ ([_, _, _, _, _] ++ (L_495 ++ (L_493 ++ (L_481 ++ (L_479 ++ ([])))))) := h
      refine r_stA h 0 rfl rfl (hO_496.sz) (rfl) (hO_496.one) fun _ h => ?_
      have h : At w _ ([_, _, _, _, _] ++ (L_495 ++ (L_493 ++ (L_481 ++ (L_479 ++ ([])))))) := h
      refine r_stA h 1 rfl rfl (hc_497.sz) (rfl) (hc_497.one) fun _ h => ?_
      have h : At w _ ([_, _, _, _, _] ++ (L_495 ++ (L_493 ++ (L_481 ++ (L_479 ++ ([])))))) := h
      have h := h.dr2
      have h := h.dr2
      have h := h.dr2
      have h : At w _ ([_, _, _, _, _] ++ (L_495 ++ ([]))) := h
      exact ⟨(⟨b10, 0, none⟩, ⟨b11, 0, none⟩, r39.2.2), rfl, b10, r39.1, L_495, b11, r39.2.1, rfl, hO_496, rfl, hc_497, hc_498, h⟩
    refine r_new h fun b10 _ h => ?_
    have h : At w _ ([_, _, _, _, _] ++ (L_479 ++ ([]))) := h
    refine r_chk2 ?_ ?_ ?_
    · exact ldOk_blk h 2 rfl (a2.sz)
    · exact ldOk_blk h 3 rfl (a1.sz)
    refine r_call h (c_toKeyV (a1.at h)) fun r35 _ _ _ ⟨L_499, hL, hO_500⟩ => ?_
    have h := (h.join hL).rot
    have h : At w _ ([_, _, _, _, _] ++ (L_499 ++ (L_479 ++ ([])))) := h
    refine r_chk1 ?_ ?_
    · exact ldOk_blk h 2 rfl (a2.sz)
    refine r_call h (c_toKeyV (a2.at h)) fun r37 _ _ _ ⟨L_501, hL, hO_502⟩ => ?_
    have h := (h.join hL).rot
    have h : At w _ ([_, _, _, _, _] ++ (L_501 ++ (L_499 ++ (L_479 ++ ([]))))) := h
    refine r_call h (c_spec_UndoCommit (hO_480.rd h.pl3) (hO_500.rd h.pl2) (hO_502.rd h.pl1) (by omega)) fun r39 _ h2 _ ⟨L_503, hL, hO_504, hc_505, hc_506⟩ => ?_
    have h := (h.join hL).rot
    have hc_505 : RdKey w r39.2.1 (undoAns d0 d1 d2 x3).2.1 := hc_505
    have h : At w _ ([_, _, _, _, _] ++ (L_503 ++ (L_501 ++ (L_499 ++ (L_479 ++ ([])))))) := h
    refine r_stA h 0 rfl rfl (hO_504.sz) (rfl) (hO_504.one) fun _ h => ?_
    have h : At w _ ([_, _, _, _, _] ++ (L_503 ++ (L_501 ++ (L_499 ++ (L_479 ++ ([])))))) := h
    refine r_stA h 1 rfl rfl (hc_505.sz) (rfl) (hc_505.one) fun _ h => ?_
    have h : At w _ ([_, _, _, _, _] ++ (L_503 ++ (L_501 ++ (L_499 ++ (L_479 ++ ([])))))) := h
    have h := h.dr2
    have h := h.dr2
    have h := h.dr2
    have h : At w _ ([_, _, _, _, _] ++ (L_503 ++ ([]))) := h
    exact ⟨(⟨b10, 0, none⟩, ⟨b11, 0, none⟩, r39.2.2), rfl, b10, r39.1, L_503, b11, r39.2.1, rfl, hO_504, rfl, hc_505, hc_506, h⟩
  refine r_new h fun b10 _ h => ?_
  have h : At w _ ([_, _, _, _, _] ++ ([])) := h
  refine r_chk3 ?_ ?_ ?_ ?_
  · exact ldOk_blk h 2 rfl (a2.sz)
  · exact ldOk_blk h 3 rfl (a1.sz)
  · exact ldOk_blk h 4 rfl (a0.sz)
  refine r_call h (c_toBookV (a0.rd.at h) (by omega)) fun r33 _ _ _ ⟨L_507, hL, hO_508⟩ => ?_
  have h := (h.join hL).rot
  have h : At w _ ([_, _, _, _, _] ++ (L_507 ++ ([]))) := h
  refine r_chk2 ?_ ?_ ?_
  · exact ldOk_blk h 2 rfl (a2.sz)
  · exact ldOk_blk h 3 rfl (a1.sz)
  refine r_call h (c_toKeyV (a1.at h)) fun r35 _ _ _ ⟨L_509, hL, hO_510⟩ => ?_
  have h := (h.join hL).rot
  have h : At w _ ([_, _, _, _, _] ++ (L_509 ++ (L_507 ++ ([])))) := h
  refine r_chk1 ?_ ?_
  · exact ldOk_blk h 2 rfl (a2.sz)
  refine r_call h (c_toKeyV (a2.at h)) fun r37 _ _ _ ⟨L_511, hL, hO_512⟩ => ?_
  have h := (h.join hL).rot
  have h : At w _ ([_, _, _, _, _] ++ (L_511 ++ (L_509 ++ (L_507 ++ ([]))))) := h
  refine r_call h (c_spec_UndoCommit (hO_508.rd h.pl3) (hO_510.rd h.pl2) (hO_512.rd h.pl1) (by omega)) fun r39 _ h2 _ ⟨L_513, hL, hO_514, hc_515, hc_516⟩ => ?_
  have h := (h.join hL).rot
  have hc_515 : RdKey w r39.2.1 (undoAns d0 d1 d2 x3).2.1 := hc_515
  have h : At w _ ([_, _, _, _, _] ++ (L_513 ++ (L_511 ++ (L_509 ++ (L_507 ++ ([])))))) := h
  refine r_stA h 0 rfl rfl (hO_514.sz) (rfl) (hO_514.one) fun _ h => ?_
  have h : At w _ ([_, _, _, _, _] ++ (L_513 ++ (L_511 ++ (L_509 ++ (L_507 ++ ([])))))) := h
  refine r_stA h 1 rfl rfl (hc_515.sz) (rfl) (hc_515.one) fun _ h => ?_
  have h : At w _ ([_, _, _, _, _] ++ (L_513 ++ (L_511 ++ (L_509 ++ (L_507 ++ ([])))))) := h
  have h := h.dr2
  have h := h.dr2
  have h := h.dr2
  have h : At w _ ([_, _, _, _, _] ++ (L_513 ++ ([]))) := h
  exact ⟨(⟨b10, 0, none⟩, ⟨b11, 0, none⟩, r39.2.2), rfl, b10, r39.1, L_513, b11, r39.2.1, rfl, hO_514, rfl, hc_515, hc_516, h⟩)

set_option maxRecDepth 100000 in
theorem lifted_FnExactUndoCommit (os : Os) (started : os.Started) (H : Type) (enc : TypeId × Value → H) :
    ReturnsInHanded {} Tryz.checked os 14 .any (Rows.fnExactUndoCommitSpec.pre6 enc Tryz.prog Tryz.f14 Rows.fnExactUndoCommitRow.domain false) (Rows.fnExactUndoCommitSpec.post enc Tryz.prog Tryz.f14 false true false false) := by
  refine law_lifted (C := Tryz.checked) (tb := ty_bool) (by kernel_rfl) started (by kernel_rfl) Tryz.func14 (by kernel_rfl) (by kernel_rfl) (by kernel_rfl) (by kernel_rfl) rfl
    (fun ds hd => by
      rw [Tryz.params14] at hd
      match ds, hd with
      | [_, _, _, _], _ => exact ⟨rfl, rfl, rfl⟩)
    (ChangeSpec.witness6 (enc := enc) (C := Tryz.checked) false ⟨#[], #[.agg #[.slice none 0 0, .slice none 0 0], .agg (Array.replicate 32 (.int .u8 0)), .agg (Array.replicate 32 (.int .u8 0)), .string ⟨#[]⟩], []⟩ 8 (by kernel_rfl) (by kernel_rfl) (by kernel_rfl) (by kernel_rfl)) ?_
  intro W base args ds p hval0 hA0
  have hval : ∀ (j : Nat) t v, Tryz.f14.params[j]? = some t → args[j]? = some v → Value.okWide Tryz.prog W .any base t v := hval0
  have hA : DataW.TrodAll enc Tryz.prog W 0 (fun _ => true) true Tryz.f14.params.toList args.toList ds p := hA0
  rw [Tryz.params14] at hA hval
  obtain ⟨v0, vs0, d0, ds0, p0, q0, hargs, rfl, rfl, h0, r0⟩ := ChangeShapes.trodAll_cons hA
  obtain ⟨v1, vs1, d1, ds1, p1, q1, rfl, rfl, rfl, h1, r1⟩ := ChangeShapes.trodAll_cons r0
  obtain ⟨v2, vs2, d2, ds2, p2, q2, rfl, rfl, rfl, h2, r2⟩ := ChangeShapes.trodAll_cons r1
  obtain ⟨v3, vs3, d3, ds3, p3, q3, rfl, rfl, rfl, h3, r3⟩ := ChangeShapes.trodAll_cons r2
  obtain ⟨rfl, rfl, rfl⟩ := ChangeShapes.trodAll_nil r3
  obtain rfl : args = #[v0, v1, v2, v3] := by cases args; simp_all
  obtain ⟨x0, D0, rfl, a0⟩ := open_Book (hval 0 _ _ rfl rfl) h0
  obtain ⟨x1, D1, rfl, a1⟩ := open_Key (hval 1 _ _ rfl rfl) h1
  obtain ⟨x2, D2, rfl, a2⟩ := open_Key (hval 2 _ _ rfl rfl) h2
  obtain ⟨x3, rfl, a3⟩ := open_Str (hval 3 _ _ rfl rfl) h3
  exact c_law_FnExactUndoCommit a0 a1 a2 _ a3

set_option maxHeartbeats 400000000 in
theorem joined_FnExactUndoCommit : joinedFacts Tryz.pinned.checked.prog 14 Tryz.f14 Rows.fnExactUndoCommitSpec Rows.fnExactUndoCommitRow = true := by
  unfold joinedFacts
  simp only [Bool.and_eq_true]
  repeat' (apply And.intro)
  all_goals (as_aux_lemma => kernel_rfl)

theorem over_FnExactUndoCommit : Rows.fnExactUndoCommitRow.holds Tryz.pinned (OpenSpec.ofChange Rows.fnExactUndoCommitSpec) :=
  OpenClaim.holds_of_wide 14 Tryz.f14 rfl rfl rfl rfl rfl rfl rfl ⟨rfl, rfl, rfl, rfl, rfl⟩ rfl rfl rfl rfl rfl (by as_aux_lemma => kernel_rfl) Tryz.func14 joined_FnExactUndoCommit
    (of_decide_eq_true (by as_aux_lemma => kernel_rfl)) (by unfold Func.isWrapper; first | (rw [if_pos (by as_aux_lemma => decide +kernel)]; as_aux_lemma => kernel_rfl) | (rw [if_neg (by as_aux_lemma => decide +kernel)]; exact ⟨rfl, rfl⟩))
    (fun os started H enc _ => lifted_FnExactUndoCommit os started H enc)

theorem fnExactUndoCommit_holds : Rows.FnExactUndoCommitSaid := over_FnExactUndoCommit
#print axioms fnExactUndoCommit_holds
end Go.Proofs.YtaadgdbegpmlmaaGreat
