/- For every input the law FnExactCommitMap returns true, and its arguments read behind the call as before it. Printed by lawgen.py. -/
import Derived.Test.YtaadgdbegpmlmaaGreatRows
import Derived.Test.YtaadgdbegpmlmaaGreatPkLCM35
import Derived.Test.YtaadgdbegpmlmaaGreatPkLCM17
namespace Go.Proofs.YtaadgdbegpmlmaaGreat
open Go.Sx Go.RowKit

theorem c_law_FnExactCommitMap {w : World} {x0 : Array Value} {d0 : PBk} (a0 : RawBook w x0 d0) {x1 : Sl} {d1 : List (List Int)} (a1 : RawKeyS w x1 d1) {x2 : Sl} {d2 : List PE} (a2 : RawEntryS w x2 d2) (x3 : ByteArray) (a3 : x3.size ≤ maxLen) : Ret Tryz.prog n_laws_FnExactCommitMap [.agg x0, .slice x1.a x1.n x1.c, .slice x2.a x2.n x2.c, .string x3] w [.bool] (fun r _ => r = true) := laws_FnExactCommitMap_calls _ _ _ _ (by
  unfold laws_FnExactCommitMap
  have h := At.refl w
  have hsz0 := comMapAns_size d0 d1 d2 x3
  have hsz1 := msizeBook_le d0
  have hsz2 := msizeBook_le (comMapAns d0 d1 d2 x3).1
  have hsz3 := msizeK_is d1
  have hsz4 := msize_sizeE d2
  refine r_new h fun b4 _ h => ?_
  have h : At w _ ([(b4, x0, ty_laws_Book)] ++ ([])) := h
  refine r_if ((x3.size : Int) > 1048576) rfl (fun _ => r_ret h.nil true rfl rfl) (fun _ => ?_)
  refine r_ldA h 0 rfl rfl (a0.sz) ?_
  refine r_call h (c_szBookV a0 h.below (1048576) (by omega)) fun r30 _ h _ hr => ?_
  subst hr
  by_cases hz_1 : (sizeBook d0 : Int) ≤ 1048576
  rotate_left
  · rw [if_neg hz_1]
    exact r_true rfl (r_ret h.nil true rfl rfl)
  rw [if_pos hz_1]
  refine r_if (1048576 - (sizeBook d0 : Int) < 0) rfl (fun hh => by omega) (fun _ => ?_)
  refine r_call h (c_szKeySV a1 h.below (1048576 - (sizeBook d0 : Int)) (by omega)) fun r35 _ h _ hr => ?_
  subst hr
  by_cases hz_2 : (sizeKeyS d1 : Int) ≤ 1048576 - (sizeBook d0 : Int)
  rotate_left
  · rw [if_neg hz_2]
    exact r_true rfl (r_ret h.nil true rfl rfl)
  rw [if_pos hz_2]
  refine r_if (1048576 - (sizeBook d0 : Int) - (sizeKeyS d1 : Int) < 0) rfl (fun hh => by omega) (fun _ => ?_)
  refine r_call h (c_szEntrySV a2 h.below (1048576 - (sizeBook d0 : Int) - (sizeKeyS d1 : Int)) (by omega)) fun r40 _ h _ hr => ?_
  subst hr
  by_cases hz_3 : (sizeEntryS d2 : Int) ≤ 1048576 - (sizeBook d0 : Int) - (sizeKeyS d1 : Int)
  rotate_left
  · rw [if_neg hz_3]
    exact r_true rfl (r_ret h.nil true rfl rfl)
  rw [if_pos hz_3]
  refine r_if (1048576 - (sizeBook d0 : Int) - (sizeKeyS d1 : Int) - (sizeEntryS d2 : Int) < 0) rfl (fun hh => by omega) (fun _ => ?_)
  refine r_ldA h 0 rfl rfl (a0.sz) ?_
  refine r_call h (c_toBookV (a0.rd.at h) (by omega)) fun r45 _ _ _ ⟨L_4, hL, hO_5⟩ => ?_
  have h := (h.join hL).rot
  have h : At w _ ([(b4, x0, ty_laws_Book)] ++ (L_4 ++ ([]))) := h
  refine r_call h (c_toKeySV (a1.rd.at h) (by omega)) fun r47 _ _ _ ⟨L_6, hL, hO_7⟩ => ?_
  have h := (h.join hL).rot
  have h : At w _ ([(b4, x0, ty_laws_Book)] ++ (L_6 ++ (L_4 ++ ([])))) := h
  refine r_call h (c_toEntrySV (a2.rd.at h) (by omega)) fun r49 _ _ _ ⟨L_8, hL, hO_9⟩ => ?_
  have h := (h.join hL).rot
  have h : At w _ ([(b4, x0, ty_laws_Book)] ++ (L_8 ++ (L_6 ++ (L_4 ++ ([]))))) := h
  refine r_call h (c_spec_CommitMap (hO_5.rd h.pl3) (hO_7.rd h.pl2) (hO_9.rd h.pl1) (by omega) (by omega) (by omega)) fun r51 _ h2 _ ⟨L_10, hL, hO_11, hc_12, hc_13⟩ => ?_
  have h := (h.join hL).rot
  have hc_12 : RdKey w r51.2.1 (comMapAns d0 d1 d2 x3).2.1 := hc_12
  have h : At w _ ([(b4, x0, ty_laws_Book)] ++ (L_10 ++ (L_8 ++ (L_6 ++ (L_4 ++ ([])))))) := h
  refine r_new h fun b10 _ h => ?_
  have h : At w _ ([(b10, #[(.slice none 0 0), (.slice none 0 0)], ty_impl_Book), (b4, x0, ty_laws_Book)] ++ (L_10 ++ (L_8 ++ (L_6 ++ (L_4 ++ ([])))))) := h
  refine r_new h fun b11 _ h => ?_
  have h : At w _ ([(b11, Array.replicate 32 (.int .u8 0), ty_impl_Key), (b10, #[(.slice none 0 0), (.slice none 0 0)], ty_impl_Book), (b4, x0, ty_laws_Book)] ++ (L_10 ++ (L_8 ++ (L_6 ++ (L_4 ++ ([])))))) := h
  refine r_stA h 1 rfl rfl (hO_11.sz) (rfl) (hO_11.one) fun _ h => ?_
  have h : At w _ ([(b11, Array.replicate 32 (.int .u8 0), ty_impl_Key), (b10, r51.1, ty_impl_Book), (b4, x0, ty_laws_Book)] ++ (L_10 ++ (L_8 ++ (L_6 ++ (L_4 ++ ([])))))) := h
  refine r_stA h 0 rfl rfl (hc_12.sz) (rfl) (hc_12.one) fun _ h => ?_
  have h : At w _ ([(b11, r51.2.1, ty_impl_Key), (b10, r51.1, ty_impl_Book), (b4, x0, ty_laws_Book)] ++ (L_10 ++ (L_8 ++ (L_6 ++ (L_4 ++ ([])))))) := h
  refine r_ldA h 2 rfl rfl (a0.sz) ?_
  refine r_call h (c_toBookV (a0.rd.at h) (by omega)) fun r56 _ _ _ ⟨L_14, hL, hO_15⟩ => ?_
  have h := (h.join hL).rot
  have h : At w _ ([(b11, r51.2.1, ty_impl_Key), (b10, r51.1, ty_impl_Book), (b4, x0, ty_laws_Book)] ++ (L_14 ++ (L_10 ++ (L_8 ++ (L_6 ++ (L_4 ++ ([]))))))) := h
  refine r_new h fun b13 _ h => ?_
  have h : At w _ ([(b13, #[(.slice none 0 0), (.slice none 0 0)], ty_impl_Book), (b11, r51.2.1, ty_impl_Key), (b10, r51.1, ty_impl_Book), (b4, x0, ty_laws_Book)] ++ (L_14 ++ (L_10 ++ (L_8 ++ (L_6 ++ (L_4 ++ ([]))))))) := h
  refine r_stA h 0 rfl rfl (hO_15.sz) (rfl) (hO_15.one) fun _ h => ?_
  have h : At w _ ([(b13, r56, ty_impl_Book), (b11, r51.2.1, ty_impl_Key), (b10, r51.1, ty_impl_Book), (b4, x0, ty_laws_Book)] ++ (L_14 ++ (L_10 ++ (L_8 ++ (L_6 ++ (L_4 ++ ([]))))))) := h
  refine r_call h (c_toKeySV (a1.rd.at h) (by omega)) fun r58 _ _ _ ⟨L_16, hL, hO_17⟩ => ?_
  have h := (h.join hL).rot
  have h : At w _ ([(b13, r56, ty_impl_Book), (b11, r51.2.1, ty_impl_Key), (b10, r51.1, ty_impl_Book), (b4, x0, ty_laws_Book)] ++ (L_16 ++ (L_14 ++ (L_10 ++ (L_8 ++ (L_6 ++ (L_4 ++ ([])))))))) := h
  refine r_call h (c_toEntrySV (a2.rd.at h) (by omega)) fun r60 _ _ _ ⟨L_18, hL, hO_19⟩ => ?_
  have h := (h.join hL).rot
  have h : At w _ ([(b13, r56, ty_impl_Book), (b11, r51.2.1, ty_impl_Key), (b10, r51.1, ty_impl_Book), (b4, x0, ty_laws_Book)] ++ (L_18 ++ (L_16 ++ (L_14 ++ (L_10 ++ (L_8 ++ (L_6 ++ (L_4 ++ ([]))))))))) := h
  refine r_ldA h 0 rfl rfl (hO_15.sz) ?_
  refine r_call h (c_impl_CommitMap (hO_15.rd h.pl3) (hO_17.rd h.pl2) (hO_19.rd h.pl1) (by omega) (by omega) (by omega)) fun r66 _ h2 _ ⟨L_20, hL, hO_21, hc_22, hc_23⟩ => ?_
  have h := (h.join hL).rot
  have hc_22 : RdKey w r66.2.1 (comMapAns d0 d1 d2 x3).2.1 := hc_22
  have h : At w _ ([(b13, r56, ty_impl_Book), (b11, r51.2.1, ty_impl_Key), (b10, r51.1, ty_impl_Book), (b4, x0, ty_laws_Book)] ++ (L_20 ++ (L_18 ++ (L_16 ++ (L_14 ++ (L_10 ++ (L_8 ++ (L_6 ++ (L_4 ++ ([])))))))))) := h
  refine r_new h fun b16 _ h => ?_
  have h : At w _ ([(b16, #[(.slice none 0 0), (.slice none 0 0)], ty_impl_Book), (b13, r56, ty_impl_Book), (b11, r51.2.1, ty_impl_Key), (b10, r51.1, ty_impl_Book), (b4, x0, ty_laws_Book)] ++ (L_20 ++ (L_18 ++ (L_16 ++ (L_14 ++ (L_10 ++ (L_8 ++ (L_6 ++ (L_4 ++ ([])))))))))) := h
  refine r_new h fun b17 _ h => ?_
  have h : At w _ ([(b17, Array.replicate 32 (.int .u8 0), ty_impl_Key), (b16, #[(.slice none 0 0), (.slice none 0 0)], ty_impl_Book), (b13, r56, ty_impl_Book), (b11, r51.2.1, ty_impl_Key), (b10, r51.1, ty_impl_Book), (b4, x0, ty_laws_Book)] ++ (L_20 ++ (L_18 ++ (L_16 ++ (L_14 ++ (L_10 ++ (L_8 ++ (L_6 ++ (L_4 ++ ([])))))))))) := h
  refine r_stA h 1 rfl rfl (hO_21.sz) (rfl) (hO_21.one) fun _ h => ?_
  have h : At w _ ([(b17, Array.replicate 32 (.int .u8 0), ty_impl_Key), (b16, r66.1, ty_impl_Book), (b13, r56, ty_impl_Book), (b11, r51.2.1, ty_impl_Key), (b10, r51.1, ty_impl_Book), (b4, x0, ty_laws_Book)] ++ (L_20 ++ (L_18 ++ (L_16 ++ (L_14 ++ (L_10 ++ (L_8 ++ (L_6 ++ (L_4 ++ ([])))))))))) := h
  refine r_stA h 0 rfl rfl (hc_22.sz) (rfl) (hc_22.one) fun _ h => ?_
  have h : At w _ ([(b17, r66.2.1, ty_impl_Key), (b16, r66.1, ty_impl_Book), (b13, r56, ty_impl_Book), (b11, r51.2.1, ty_impl_Key), (b10, r51.1, ty_impl_Book), (b4, x0, ty_laws_Book)] ++ (L_20 ++ (L_18 ++ (L_16 ++ (L_14 ++ (L_10 ++ (L_8 ++ (L_6 ++ (L_4 ++ ([])))))))))) := h
  refine r_joinI ?_
  refine r_ldA h 1 rfl rfl (hO_21.sz) ?_
  refine r_ldA h 4 rfl rfl (hO_11.sz) ?_
  refine r_call h (c_eqBookV (hO_21.rd h.pl1) (hO_11.rd h.pl5) (by omega)) fun r72 _ h _ hr => ?_
  subst hr
  refine r_false rfl ?_
  refine r_ldA h 0 rfl rfl (hc_22.sz) ?_
  refine r_ldA h 3 rfl rfl (hc_12.sz) ?_
  refine r_call h (c_eqKeyV (hc_22.at h) (hc_12.at h)) fun r77 _ h _ hr => ?_
  subst hr
  refine r_false rfl ?_
  refine r_ne (fun hh => absurd (hc_23.trans hc_13.symm) hh) fun _ => ?_
  refine ⟨(), rfl, ?_⟩
  refine r_any fun _ => ?_
  try dsimp only
  refine r_joinI ?_
  refine r_draw h fun _ h => ?_
  refine r_ldA h 2 rfl rfl (hO_15.sz) ?_
  refine r_ldA h 5 rfl rfl (a0.sz) ?_
  refine r_call h (c_toBookV (a0.rd.at h) (by omega)) fun r87 _ _ _ ⟨L_24, hL, hO_25⟩ => ?_
  have h := (h.join hL).rot
  have h : At w _ ([(b17, r66.2.1, ty_impl_Key), (b16, r66.1, ty_impl_Book), (b13, r56, ty_impl_Book), (b11, r51.2.1, ty_impl_Key), (b10, r51.1, ty_impl_Book), (b4, x0, ty_laws_Book)] ++ (L_24 ++ (L_20 ++ (L_18 ++ (L_16 ++ (L_14 ++ (L_10 ++ (L_8 ++ (L_6 ++ (L_4 ++ ([]))))))))))) := h
  refine r_chk1 ?_ ?_
  · exact ldOk_blk h 2 rfl (hO_15.sz)
  refine r_call h (c_eqBookV (hO_15.rd h.pl5) (hO_25.rd h.pl1) (by omega)) fun r88 _ h _ hr => ?_
  subst hr
  refine r_false rfl ?_
  refine ⟨(), rfl, ?_⟩
  refine r_any fun _ => ?_
  try dsimp only
  refine r_call h (c_toKeySV (a1.rd.at h) (by omega)) fun r92 _ _ _ ⟨L_26, hL, hO_27⟩ => ?_
  have h := (h.join hL).rot
  have h : At w _ ([(b17, r66.2.1, ty_impl_Key), (b16, r66.1, ty_impl_Book), (b13, r56, ty_impl_Book), (b11, r51.2.1, ty_impl_Key), (b10, r51.1, ty_impl_Book), (b4, x0, ty_laws_Book)] ++ (L_26 ++ (L_24 ++ (L_20 ++ (L_18 ++ (L_16 ++ (L_14 ++ (L_10 ++ (L_8 ++ (L_6 ++ (L_4 ++ ([])))))))))))) := h
  refine r_call h (c_eqKeySV (hO_17.rd h.pl5) (hO_27.rd h.pl1) (by omega)) fun r93 _ h _ hr => ?_
  subst hr
  refine r_false rfl ?_
  refine r_call h (c_toEntrySV (a2.rd.at h) (by omega)) fun r97 _ _ _ ⟨L_28, hL, hO_29⟩ => ?_
  have h := (h.join hL).rot
  have h : At w _ ([(b17, r66.2.1, ty_impl_Key), (b16, r66.1, ty_impl_Book), (b13, r56, ty_impl_Book), (b11, r51.2.1, ty_impl_Key), (b10, r51.1, ty_impl_Book), (b4, x0, ty_laws_Book)] ++ (L_28 ++ (L_26 ++ (L_24 ++ (L_20 ++ (L_18 ++ (L_16 ++ (L_14 ++ (L_10 ++ (L_8 ++ (L_6 ++ (L_4 ++ ([]))))))))))))) := h
  refine r_call h (c_eqEntrySV (hO_19.rd h.pl5) (hO_29.rd h.pl1) (by omega)) fun r98 _ h _ hr => ?_
  subst hr
  refine r_false rfl ?_
  refine r_ldA h 2 rfl rfl (hO_15.sz) ?_
  refine r_callR (c_markBookV h.pl7 hO_15 (1) (by omega) (by omega) (by omega)) ?_
  rintro _ _ ⟨rfl, L_30, h, hO_31⟩
  refine ⟨_, rfl, ?_⟩
  have h := h.ps7
  have h : At w _ ([(b17, r66.2.1, ty_impl_Key), (b16, r66.1, ty_impl_Book), (b13, r56, ty_impl_Book), (b11, r51.2.1, ty_impl_Key), (b10, r51.1, ty_impl_Book), (b4, x0, ty_laws_Book)] ++ (L_28 ++ (L_26 ++ (L_24 ++ (L_20 ++ (L_18 ++ (L_16 ++ (L_30 ++ (L_10 ++ (L_8 ++ (L_6 ++ (L_4 ++ ([]))))))))))))) := h
  refine r_callR (c_markKeySV h.pl6 hO_17 (1 + (msizeBook d0 : Int)) (by omega) (by omega)) ?_
  rintro _ _ ⟨rfl, L_32, h, hO_33⟩
  refine ⟨_, rfl, ?_⟩
  have h := h.ps6
  have h : At w _ ([(b17, r66.2.1, ty_impl_Key), (b16, r66.1, ty_impl_Book), (b13, r56, ty_impl_Book), (b11, r51.2.1, ty_impl_Key), (b10, r51.1, ty_impl_Book), (b4, x0, ty_laws_Book)] ++ (L_28 ++ (L_26 ++ (L_24 ++ (L_20 ++ (L_18 ++ (L_32 ++ (L_30 ++ (L_10 ++ (L_8 ++ (L_6 ++ (L_4 ++ ([]))))))))))))) := h
  refine r_callR (c_markEntrySV h.pl5 hO_19 (1 + (msizeBook d0 : Int) + (msizeKeyS d1 : Int)) (by omega) (by omega) (by omega)) ?_
  rintro _ _ ⟨rfl, L_34, h, hO_35⟩
  refine ⟨_, rfl, ?_⟩
  have h := h.ps5
  have h : At w _ ([(b17, r66.2.1, ty_impl_Key), (b16, r66.1, ty_impl_Book), (b13, r56, ty_impl_Book), (b11, r51.2.1, ty_impl_Key), (b10, r51.1, ty_impl_Book), (b4, x0, ty_laws_Book)] ++ (L_28 ++ (L_26 ++ (L_24 ++ (L_20 ++ (L_34 ++ (L_32 ++ (L_30 ++ (L_10 ++ (L_8 ++ (L_6 ++ (L_4 ++ ([]))))))))))))) := h
  refine r_joinI ?_
  refine r_if (1 + (msizeBook d0 : Int) + (msizeKeyS d1 : Int) + (msizeEntryS d2 : Int) < 0) rfl (fun hh => by omega) (fun _ => ?_)
  refine r_ldA h 1 rfl rfl (hO_21.sz) ?_
  refine r_ldA h 4 rfl rfl (hO_11.sz) ?_
  refine r_call h (c_eqBookV (hO_21.rd h.pl4) (hO_11.rd h.pl8) (by omega)) fun r114 _ h _ hr => ?_
  subst hr
  refine r_false rfl ?_
  refine r_ldA h 0 rfl rfl (hc_22.sz) ?_
  refine r_ldA h 3 rfl rfl (hc_12.sz) ?_
  refine r_call h (c_eqKeyV (hc_22.at h) (hc_12.at h)) fun r120 _ h _ hr => ?_
  subst hr
  refine r_false rfl ?_
  refine r_ne (fun hh => absurd (hc_23.trans hc_13.symm) hh) fun _ => ?_
  refine ⟨(), rfl, ?_⟩
  refine r_any fun _ => ?_
  try dsimp only
  refine r_ldA h 1 rfl rfl (hO_21.sz) ?_
  refine r_callR (c_markBookV h.pl4 hO_21 (1) (by omega) (by omega) (by omega)) ?_
  rintro _ _ ⟨rfl, L_36, h, hO_37⟩
  refine ⟨_, rfl, ?_⟩
  have h := h.ps4
  have h : At w _ ([(b17, r66.2.1, ty_impl_Key), (b16, r66.1, ty_impl_Book), (b13, r56, ty_impl_Book), (b11, r51.2.1, ty_impl_Key), (b10, r51.1, ty_impl_Book), (b4, x0, ty_laws_Book)] ++ (L_28 ++ (L_26 ++ (L_24 ++ (L_36 ++ (L_34 ++ (L_32 ++ (L_30 ++ (L_10 ++ (L_8 ++ (L_6 ++ (L_4 ++ ([]))))))))))))) := h
  refine r_ldA h 1 rfl rfl (hO_37.sz) ?_
  refine r_call h (c_heldBookV (1) (hO_37.rd h.pl4) (by omega) (by omega) (by omega)) fun r133 _ h _ hr => ?_
  subst hr
  refine r_if (1 + (msizeBook (comMapAns d0 d1 d2 x3).1 : Int) < 0) rfl (fun hh => by omega) (fun _ => ?_)
  refine r_ne (fun hh => absurd rfl hh) fun _ => ?_
  refine r_ldA h 5 rfl rfl (a0.sz) ?_
  refine r_call h (c_toBookV (a0.rd.at h) (by omega)) fun r141 _ _ _ ⟨L_38, hL, hO_39⟩ => ?_
  have h := (h.join hL).rot
  have h : At w _ ([(b17, r66.2.1, ty_impl_Key), (b16, r66.1, ty_impl_Book), (b13, r56, ty_impl_Book), (b11, r51.2.1, ty_impl_Key), (b10, r51.1, ty_impl_Book), (b4, x0, ty_laws_Book)] ++ (L_38 ++ (L_28 ++ (L_26 ++ (L_24 ++ (L_36 ++ (L_34 ++ (L_32 ++ (L_30 ++ (L_10 ++ (L_8 ++ (L_6 ++ (L_4 ++ ([])))))))))))))) := h
  refine r_call h (c_toKeySV (a1.rd.at h) (by omega)) fun r143 _ _ _ ⟨L_40, hL, hO_41⟩ => ?_
  have h := (h.join hL).rot
  have h : At w _ ([(b17, r66.2.1, ty_impl_Key), (b16, r66.1, ty_impl_Book), (b13, r56, ty_impl_Book), (b11, r51.2.1, ty_impl_Key), (b10, r51.1, ty_impl_Book), (b4, x0, ty_laws_Book)] ++ (L_40 ++ (L_38 ++ (L_28 ++ (L_26 ++ (L_24 ++ (L_36 ++ (L_34 ++ (L_32 ++ (L_30 ++ (L_10 ++ (L_8 ++ (L_6 ++ (L_4 ++ ([]))))))))))))))) := h
  refine r_call h (c_toEntrySV (a2.rd.at h) (by omega)) fun r145 _ _ _ ⟨L_42, hL, hO_43⟩ => ?_
  have h := (h.join hL).rot
  have h : At w _ ([(b17, r66.2.1, ty_impl_Key), (b16, r66.1, ty_impl_Book), (b13, r56, ty_impl_Book), (b11, r51.2.1, ty_impl_Key), (b10, r51.1, ty_impl_Book), (b4, x0, ty_laws_Book)] ++ (L_42 ++ (L_40 ++ (L_38 ++ (L_28 ++ (L_26 ++ (L_24 ++ (L_36 ++ (L_34 ++ (L_32 ++ (L_30 ++ (L_10 ++ (L_8 ++ (L_6 ++ (L_4 ++ ([])))))))))))))))) := h
  refine r_call h (c_impl_CommitMap (hO_39.rd h.pl3) (hO_41.rd h.pl2) (hO_43.rd h.pl1) (by omega) (by omega) (by omega)) fun r147 _ h2 _ ⟨L_44, hL, hO_45, hc_46, hc_47⟩ => ?_
  have h := (h.join hL).rot
  have hc_46 : RdKey w r147.2.1 (comMapAns d0 d1 d2 x3).2.1 := hc_46
  have h : At w _ ([(b17, r66.2.1, ty_impl_Key), (b16, r66.1, ty_impl_Book), (b13, r56, ty_impl_Book), (b11, r51.2.1, ty_impl_Key), (b10, r51.1, ty_impl_Book), (b4, x0, ty_laws_Book)] ++ (L_44 ++ (L_42 ++ (L_40 ++ (L_38 ++ (L_28 ++ (L_26 ++ (L_24 ++ (L_36 ++ (L_34 ++ (L_32 ++ (L_30 ++ (L_10 ++ (L_8 ++ (L_6 ++ (L_4 ++ ([]))))))))))))))))) := h
  refine r_new h fun b22 _ h => ?_
  have h : At w _ ([(b22, #[(.slice none 0 0), (.slice none 0 0)], ty_impl_Book), (b17, r66.2.1, ty_impl_Key), (b16, r66.1, ty_impl_Book), (b13, r56, ty_impl_Book), (b11, r51.2.1, ty_impl_Key), (b10, r51.1, ty_impl_Book), (b4, x0, ty_laws_Book)] ++ (L_44 ++ (L_42 ++ (L_40 ++ (L_38 ++ (L_28 ++ (L_26 ++ (L_24 ++ (L_36 ++ (L_34 ++ (L_32 ++ (L_30 ++ (L_10 ++ (L_8 ++ (L_6 ++ (L_4 ++ ([]))))))))))))))))) := h
  refine r_new h fun b23 _ h => ?_
  have h : At w _ ([(b23, Array.replicate 32 (.int .u8 0), ty_impl_Key), (b22, #[(.slice none 0 0), (.slice none 0 0)], ty_impl_Book), (b17, r66.2.1, ty_impl_Key), (b16, r66.1, ty_impl_Book), (b13, r56, ty_impl_Book), (b11, r51.2.1, ty_impl_Key), (b10, r51.1, ty_impl_Book), (b4, x0, ty_laws_Book)] ++ (L_44 ++ (L_42 ++ (L_40 ++ (L_38 ++ (L_28 ++ (L_26 ++ (L_24 ++ (L_36 ++ (L_34 ++ (L_32 ++ (L_30 ++ (L_10 ++ (L_8 ++ (L_6 ++ (L_4 ++ ([]))))))))))))))))) := h
  refine r_stA h 1 rfl rfl (hO_45.sz) (rfl) (hO_45.one) fun _ h => ?_
  have h : At w _ ([(b23, Array.replicate 32 (.int .u8 0), ty_impl_Key), (b22, r147.1, ty_impl_Book), (b17, r66.2.1, ty_impl_Key), (b16, r66.1, ty_impl_Book), (b13, r56, ty_impl_Book), (b11, r51.2.1, ty_impl_Key), (b10, r51.1, ty_impl_Book), (b4, x0, ty_laws_Book)] ++ (L_44 ++ (L_42 ++ (L_40 ++ (L_38 ++ (L_28 ++ (L_26 ++ (L_24 ++ (L_36 ++ (L_34 ++ (L_32 ++ (L_30 ++ (L_10 ++ (L_8 ++ (L_6 ++ (L_4 ++ ([]))))))))))))))))) := h
  refine r_stA h 0 rfl rfl (hc_46.sz) (rfl) (hc_46.one) fun _ h => ?_
  have h : At w _ ([(b23, r147.2.1, ty_impl_Key), (b22, r147.1, ty_impl_Book), (b17, r66.2.1, ty_impl_Key), (b16, r66.1, ty_impl_Book), (b13, r56, ty_impl_Book), (b11, r51.2.1, ty_impl_Key), (b10, r51.1, ty_impl_Book), (b4, x0, ty_laws_Book)] ++ (L_44 ++ (L_42 ++ (L_40 ++ (L_38 ++ (L_28 ++ (L_26 ++ (L_24 ++ (L_36 ++ (L_34 ++ (L_32 ++ (L_30 ++ (L_10 ++ (L_8 ++ (L_6 ++ (L_4 ++ ([]))))))))))))))))) := h
  refine r_joinI ?_
  refine r_ldA h 1 rfl rfl (hO_45.sz) ?_
  refine r_ldA h 6 rfl rfl (hO_11.sz) ?_
  refine r_call h (c_eqBookV (hO_45.rd h.pl1) (hO_11.rd h.pl12) (by omega)) fun r153 _ h _ hr => ?_
  subst hr
  refine r_false rfl ?_
  refine r_ldA h 0 rfl rfl (hc_46.sz) ?_
  refine r_ldA h 5 rfl rfl (hc_12.sz) ?_
  refine r_call h (c_eqKeyV (hc_46.at h) (hc_12.at h)) fun r158 _ h _ hr => ?_
  subst hr
  refine r_false rfl ?_
  refine r_ne (fun hh => absurd (hc_47.trans hc_13.symm) hh) fun _ => ?_
  refine ⟨(), rfl, ?_⟩
  refine r_any fun _ => ?_
  try dsimp only
  refine r_ldA h 3 rfl rfl (hO_37.sz) ?_
  refine r_call h (c_heldBookV (1) (hO_37.rd h.pl8) (by omega) (by omega) (by omega)) fun r168 _ h _ hr => ?_
  subst hr
  refine r_if (1 + (msizeBook (comMapAns d0 d1 d2 x3).1 : Int) < 0) rfl (fun hh => by omega) (fun _ => ?_)
  refine r_ne (fun hh => absurd rfl hh) fun _ => ?_
  exact r_ret h.nil true rfl rfl)

set_option maxRecDepth 100000 in
theorem lifted_FnExactCommitMap (os : Os) (started : os.Started) (H : Type) (enc : TypeId × Value → H) :
    ReturnsInHanded {} Tryz.checked os 12 .any (Rows.fnExactCommitMapSpec.pre6 enc Tryz.prog Tryz.f12 Rows.fnExactCommitMapRow.domain false) (Rows.fnExactCommitMapSpec.post enc Tryz.prog Tryz.f12 false true false false) := by
  refine law_lifted (C := Tryz.checked) (tb := ty_bool) (by kernel_rfl) started (by kernel_rfl) Tryz.func12 (by kernel_rfl) (by kernel_rfl) (by kernel_rfl) (by kernel_rfl) rfl
    (fun ds hd => by
      rw [Tryz.params12] at hd
      match ds, hd with
      | [_, _, _, _], _ => exact ⟨rfl, rfl, rfl⟩)
    (ChangeSpec.witness6 (enc := enc) (C := Tryz.checked) false ⟨#[], #[.agg #[.slice none 0 0, .slice none 0 0], .slice none 0 0, .slice none 0 0, .string ⟨#[]⟩], []⟩ 8 (by kernel_rfl) (by kernel_rfl) (by kernel_rfl) (by kernel_rfl)) ?_
  intro W base args ds p hval0 hA0
  have hval : ∀ (j : Nat) t v, Tryz.f12.params[j]? = some t → args[j]? = some v → Value.okWide Tryz.prog W .any base t v := hval0
  have hA : DataW.TrodAll enc Tryz.prog W 0 (fun _ => true) true Tryz.f12.params.toList args.toList ds p := hA0
  rw [Tryz.params12] at hA hval
  obtain ⟨v0, vs0, d0, ds0, p0, q0, hargs, rfl, rfl, h0, r0⟩ := ChangeShapes.trodAll_cons hA
  obtain ⟨v1, vs1, d1, ds1, p1, q1, rfl, rfl, rfl, h1, r1⟩ := ChangeShapes.trodAll_cons r0
  obtain ⟨v2, vs2, d2, ds2, p2, q2, rfl, rfl, rfl, h2, r2⟩ := ChangeShapes.trodAll_cons r1
  obtain ⟨v3, vs3, d3, ds3, p3, q3, rfl, rfl, rfl, h3, r3⟩ := ChangeShapes.trodAll_cons r2
  obtain ⟨rfl, rfl, rfl⟩ := ChangeShapes.trodAll_nil r3
  obtain rfl : args = #[v0, v1, v2, v3] := by cases args; simp_all
  obtain ⟨x0, D0, rfl, a0⟩ := open_Book (hval 0 _ _ rfl rfl) h0
  obtain ⟨x1, D1, rfl, a1⟩ := open_KeyS (hval 1 _ _ rfl rfl) h1
  obtain ⟨x2, D2, rfl, a2⟩ := open_EntryS (hval 2 _ _ rfl rfl) h2
  obtain ⟨x3, rfl, a3⟩ := open_Str (hval 3 _ _ rfl rfl) h3
  exact c_law_FnExactCommitMap a0 a1 a2 _ a3

set_option maxHeartbeats 400000000 in
theorem joined_FnExactCommitMap : joinedFacts Tryz.pinned.checked.prog 12 Tryz.f12 Rows.fnExactCommitMapSpec Rows.fnExactCommitMapRow = true := by
  unfold joinedFacts
  simp only [Bool.and_eq_true]
  repeat' (apply And.intro)
  all_goals (as_aux_lemma => kernel_rfl)

theorem over_FnExactCommitMap : Rows.fnExactCommitMapRow.holds Tryz.pinned (OpenSpec.ofChange Rows.fnExactCommitMapSpec) :=
  OpenClaim.holds_of_wide 12 Tryz.f12 rfl rfl rfl rfl rfl rfl rfl ⟨rfl, rfl, rfl, rfl, rfl⟩ rfl rfl rfl rfl rfl (by as_aux_lemma => kernel_rfl) Tryz.func12 joined_FnExactCommitMap
    (of_decide_eq_true (by as_aux_lemma => kernel_rfl)) (by unfold Func.isWrapper; first | (rw [if_pos (by as_aux_lemma => decide +kernel)]; as_aux_lemma => kernel_rfl) | (rw [if_neg (by as_aux_lemma => decide +kernel)]; exact ⟨rfl, rfl⟩))
    (fun os started H enc _ => lifted_FnExactCommitMap os started H enc)

/-- The given statement. -/
theorem fnExactCommitMap_holds : Rows.FnExactCommitMapSaid := over_FnExactCommitMap
#print axioms fnExactCommitMap_holds
end Go.Proofs.YtaadgdbegpmlmaaGreat
