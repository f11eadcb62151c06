/- History: WayTo: the reference's walk. -/
import Derived.Test.YtaadgdbegpmlmaaGreatPkLWT35
namespace Go.Sx
theorem r_mkZ {P : Program} {R : Value → World → Prop} {w0 w : World} {ls : List Blk} {t e by_ : Nat} {z0 : Value} (hT : SlT P t e 1 by_) (hz0 : (P.info? e).bind (·.zero) = some z0) (hz1 : z0.cells = #[z0]) (hA : At w0 w ls) {n : Nat} (hb : by_ * n ≤ 281474976710656) (hn : n ≤ 281474976710656) {k : Sl → World → Prop}
    (h : ∀ s L w', At w0 w' (L ++ ls) → OwnS e 1 s (List.replicate n z0) L → s.n = n → (∃ p, s.a = some p) → k s w') :
    ((real P R).sem (Instr.makeSlice t (.int .i64 (n : Int)) (.int .i64 (n : Int))) .slice k : World → Prop) w := by
  obtain ⟨i, zv, hi, hzv, hsz, hby, hzs⟩ := hT.ex
  have hm : ((by_ : Int) * (n : Int)) = ((by_ * n : Nat) : Int) := by simp
  have hr := run_make w t e i zv hT.ut hi hzv .i64 .i64 (n : Int) (n : Int) (by omega) (Int.le_refl _) (by rw [hby, hm]; omega) (by omega)
  have hzv' : zv = z0 := by rw [hi] at hz0; simpa [hzv] using hz0
  have hcur : (madeCells zv.cells (n * 1)).toList = List.replicate n z0 := by
    subst hzv'
    rw [hz1]
    apply List.ext_getElem?
    intro j
    simp only [madeCells, Nat.mul_one, Array.toList_map, List.getElem?_map, Array.toList_range]
    rcases Nat.lt_or_ge j n with hj | hj
    · simp [hj, Nat.mod_one]
    · rw [List.getElem?_eq_none (by simp; omega), List.getElem?_eq_none (by simp; omega)]; rfl
  refine ⟨⟨some ⟨w.heap.size, 0, none⟩, n, n⟩, w.alloc (.cells (madeCells zv.cells (n * 1)) e), ?_, h ⟨some ⟨w.heap.size, 0, none⟩, n, n⟩ [(w.heap.size, madeCells zv.cells (n * 1), e)] _ ((hA.trans (below_alloc w _)).add (heap_alloc_self w _) hA.size (hA.fresh (Nat.le_refl _))) ⟨by simp, .inr ⟨_, _, rfl, rfl, Nat.le_refl _, by unfold maxLen; show n ≤ _; omega, by rw [size_madeCells], by rw [hcur, List.length_replicate, List.take_of_length_le (by simp)]⟩⟩ rfl ⟨_, rfl⟩⟩
  rw [hr, hsz]
  rfl
end Go.Sx
namespace Go.Proofs.YtaadgdbegpmlmaaGreat
open Go.Sx Go.RowKit

def slV (s : Sl) : Value := .slice s.a s.n s.c
structure WaysA (W : Nat → List (List Int)) (vs : List Sl) (LW : List Blk) : Prop where
  own : ∀ j s, vs[j]? = some s → ∃ L, OwnKeyS s (W j) L ∧ L.Sublist LW
theorem WaysA.set {W : Nat → List (List Int)} {vs : List Sl} {LW Ls : List Blk} {x : List (List Int)} {s : Sl} (h : WaysA W vs LW) (n : Nat) (hs : OwnKeyS s x Ls) : WaysA (setW W n x) (vs.set n s) (Ls ++ LW) := ⟨fun j t ht => by
  rw [List.getElem?_set] at ht
  unfold setW
  by_cases hjn : n = j
  · rw [if_pos hjn] at ht
    rw [if_pos hjn.symm]
    split at ht
    · cases ht
      exact ⟨Ls, hs, List.sublist_append_left _ _⟩
    · cases ht
  · rw [if_neg hjn] at ht
    rw [if_neg (fun hh => hjn hh.symm)]
    obtain ⟨L, h1, h2⟩ := h.own j t ht
    exact ⟨L, h1, h2.trans (List.sublist_append_right _ _)⟩⟩
theorem T_sl_slK : SlT Tryz.prog ty_sl_sl_impl_Key ty_sl_impl_Key 1 24 := slT_of (by kernel_rfl)
theorem slV_set (vs : List Sl) {n : Nat} (h : n < vs.length) (s : Sl) : (vs.map slV).take n ++ (slV s).cells.toList ++ (vs.map slV).drop (n + 1) = (vs.set n s).map slV := by
  rw [List.set_eq_take_append_cons_drop, if_pos h]
  simp [slV, Value.cells]
/-- A way out of the slice of ways. -/
theorem way_at {W : Nat → List (List Int)} {vs : List Sl} {LW Lv ls : List Blk} {y : Sl} {w0 w : World} (hA : At w0 w ls) (hO : OwnS ty_sl_impl_Key 1 y (vs.map slV) Lv) (hs : Lv.Sublist ls) (hW : WaysA W vs LW) {n : Nat} (hn : n < vs.length) :
    ∃ s p L, vs[n]? = some s ∧ y.a = some p ∧ ldOk w 1 (p.add (n * 1)) .slice s ∧ OwnKeyS s (W n) L ∧ L.Sublist LW := by
  have hg : vs[n]? = some vs[n] := List.getElem?_eq_getElem hn
  obtain ⟨L, h1, h2⟩ := hW.own n _ hg
  obtain ⟨p, hp, hc⟩ := (hO.sl hA hs).cell n (slV vs[n]) (by rw [List.getElem?_map, hg]; rfl)
  refine ⟨_, p, L, hg, hp, ?_, h1, h2⟩
  rw [Nat.mul_one]
  exact hc

theorem c_spec_WayTo {w : World} {r q q' : Array Value} {b : PBk} {a k : List Int} (hr : RdBook w r b) (hqa : RdKey w q a) (hq : RdKey w q' k) (hz : sizeBook b ≤ 1073741824) :
    Ret Tryz.prog n_spec_WayTo [.agg r, .agg q, .agg q'] w [.slice, .int .i64] (fun x w' => ∃ L, At w w' L ∧ OwnKeyS x.1 (wayAns b a k).1 L ∧ x.2 = (wayAns b a k).2) := spec_WayTo_calls _ _ _ (by
  unfold spec_WayTo
  obtain ⟨rfl, ha⟩ := hqa
  obtain ⟨rfl, hk⟩ := hq
  obtain ⟨s, t, rfl, ⟨rs, hX, hs⟩, ⟨ms, hM, ht⟩⟩ := hr
  refine r_new (At.refl w) fun b3 w1 h => ?_
  refine r_new h fun b4 w2 h => ?_
  refine r_new h fun b5 w3 h => ?_
  have h : At w w3 ([(b5, (u8s k).toArray, ty_impl_Key), (b4, (u8s a).toArray, ty_impl_Key), (b3, bkC s t, ty_impl_Book)] ++ []) := h
  refine r_ldA h 1 rfl rfl (by simp [ha.1]) ?_
  refine r_ldA h 0 rfl rfl (by simp [hk.1]) ?_
  refine r_call h (c_l07Two (bkR_own h 2 rfl (hs.at h) (ht.at h)) hX hM hz ha hk) fun r14 w4 h _ ⟨h1, h2⟩ => ?_
  obtain ⟨i0, k0, c⟩ := r14
  dsimp only at h1 h2 ⊢
  subst h1
  refine r_ne (fun hne => ?_) (fun heq => ?_)
  · refine r_bs0 T_sl_Key h fun y15 w4 hy hyn => ?_
    obtain ⟨L, hA, hO⟩ := slO_ownKeyS (ks := []) (s := y15) (by simpa using hy.base) (by simp)
    exact r_ret hA.nil (y15, openCode b [a, k]) rfl ⟨L, hA, by unfold wayAns; rw [if_neg hne]; exact ⟨hO, rfl⟩⟩
  obtain ⟨hv, haK, hkK, rfl, rfl⟩ := h2 heq
  have hrl : rs.length = b.cms.length := by rw [← hX]; simp
  have h40 := hv.1.1
  have hKl := keysB_len b
  have hal := ixK_lt haK
  have hkl := ixK_lt hkK
  have hnd := keysB_nodup hv
  refine r_call h (c_l07Keys (bkR_own h 2 rfl (hs.at h) (ht.at h)) (rows_ok hX hv) (by omega)) fun r29 w5 _ _ ⟨hS, hn29⟩ => ?_
  rw [hX] at hS
  have hS : SlO w4 w5 [] ty_impl_Key 32 r29 ((keysB b).flatMap u8s) := hS
  obtain ⟨Lk, hOk, h⟩ := (SlO.lift h hS).split
  refine r_mkZ T_sl_slK zero_SK rfl h (by omega) (by omega) fun y32 Lv w6 h hOv hn32 hya => ?_
  obtain ⟨py, hpy⟩ := hya
  refine r_ldA h.pl2 1 rfl rfl (by simp [ha.1]) ?_
  refine r_bs1 T_sl_Key h (by simp [Value.cells, ha.1]) (by omega) fun y36 w7 hy hyn => ?_
  obtain ⟨L1, hO1, h⟩ := hy.split
  have hO1 : OwnKeyS y36 [a] L1 := ⟨by simpa [Value.cells] using hO1, by simpa using ha⟩
  refine r_ix py hpy (by omega) (by omega) ?_
  simp only [Int.toNat_natCast]
  refine r_stO (v := slV y36) h.pl1 hOv hpy (ixK (keysB b) a) (by simp) (by simp [slV, Value.cells]) (by rw [List.length_replicate]; omega) (by simp [slV, Value.cells, oneC]) fun w8 Lv h hOv => ?_
  have h := h.ps1
  have hvs : (List.replicate r29.n (⟨none, 0, 0⟩ : Sl)).map slV = List.replicate r29.n (.slice none 0 0) := by simp [slV]
  rw [← hvs, slV_set _ (by rw [List.length_replicate]; omega)] at hOv
  have hW0 : WaysA (fun _ => []) (List.replicate r29.n (⟨none, 0, 0⟩ : Sl)) [] := ⟨fun j s hs => by
    rw [List.getElem?_replicate] at hs
    split at hs
    · cases hs; exact ⟨[], OwnKeyS.none, List.Sublist.refl _⟩
    · cases hs⟩
  have hW := hW0.set (ixK (keysB b) a) hO1
  rw [List.append_nil] at hW
  have he0 : setW (fun _ => []) (ixK (keysB b) a) [a] = waysW b a (ixK (keysB b) a + 1) := by
    funext j
    rw [waysW_before hv haK _ (Nat.le_refl _)]
    rfl
  rw [he0] at hW
  have hvl : ((List.replicate r29.n (⟨none, 0, 0⟩ : Sl)).set (ixK (keysB b) a) y36).length = b.cms.length := by rw [List.length_set, List.length_replicate]; omega
  generalize (List.replicate r29.n (⟨none, 0, 0⟩ : Sl)).set (ixK (keysB b) a) y36 = vs at hOv hW hvl
  rw [w64 (n := (ixK (keysB b) a : Int) + 1) (by omega) (by omega)]
  refine r_loop (σ := Int) (fun st w' => ∃ (i : Nat) (LW Lv : List Blk) (vs : List Sl), st = i ∧ ixK (keysB b) a + 1 ≤ i ∧ i ≤ b.cms.length ∧ At w w' (LW ++ (Lv ++ (Lk ++ ([(b5, (u8s k).toArray, ty_impl_Key), (b4, (u8s a).toArray, ty_impl_Key), (b3, bkC s t, ty_impl_Book)] ++ [])))) ∧ OwnS ty_sl_impl_Key 1 y32 (vs.map slV) Lv ∧ vs.length = b.cms.length ∧ WaysA (waysW b a i) vs LW) (fun st _ => (r29.n - st).toNat) ((ixK (keysB b) a : Int) + 1) rfl
    ⟨ixK (keysB b) a + 1, L1, Lv, vs, rfl, Nat.le_refl _, by omega, h, hOv, hvl, hW⟩ ?_
  clear h hOv hW hvl hO1 hy hyn he0 hW0 hvs hS
  rintro i w9 ⟨i, LW, Lv, vs, rfl, hi0, hi, h, hOv, hvl, hW⟩
  refine r_any fun _ => ?_
  dsimp only
  refine r_if ((i : Int) < (r29.n : Int)) rfl (fun hlt => ?_) (fun hge => ?_)
  · refine r_ldN (sh := .slice) s (ldOk_own (sh := .slice) h.pl3 2 rfl 0 rfl (by simp [bkC, Sh.emb])) ?_
    obtain ⟨cr, p', hcr, hrm', hp', hko', hks', hcm'⟩ := (hs.at h).get (i := i) (by omega)
    have hsn := hs.n
    have hcl := crcells_len hko'
    have hdn := hks'.n
    have hpc := comAt_row hX hcr
    have hps : cr.ps = (comAt b i).ps := congrArg PC.ps hpc
    have hp3 : cr.ps.length ≤ 3 := (rows_ok hX hv cr hrm').2.1
    have hzl : (cmC zero32 ⟨none, 0, 0⟩ 0 ⟨#[]⟩).length = 35 := cmC_len zero32_ok ..
    have hKi := keysB_get (b := b) (i := i) (by omega)
    have hoK : ckey (comAt b i) ∈ keysB b := List.mem_of_getElem? hKi
    have hoi : ixK (keysB b) (ckey (comAt b i)) = i := ixK_of (keysB_nodup hv) hKi
    have hoo := keysB_ok b _ hoK
    have hixa : i ≠ ixK (keysB b) a := by omega
    refine r_ix p' hp' (by omega) (by omega) ?_
    simp only [Int.toNat_natCast]
    refine r_ldN cr.cells.toArray hcm'.all ?_
    refine r_new h fun b14 w11 h => ?_
    refine r_stA h 0 rfl rfl (by simp [hcl]) (by simp [Value.cells]) (by simpa [CR.cells] using cmC_one _ _ _ _) fun w12 h => ?_
    have h : At w w12 ([(b14, cr.cells.toArray, ty_impl_Commit)] ++ (LW ++ (Lv ++ (Lk ++ ([(b5, (u8s k).toArray, ty_impl_Key), (b4, (u8s a).toArray, ty_impl_Key), (b3, bkC s t, ty_impl_Book)] ++ []))))) := h
    generalize hog : ckey (comAt b i) = own at hoK hoi hoo hKi
    refine r_loop (σ := Int) (fun st w' => ∃ (j : Nat) (LW Lv : List Blk) (vs : List Sl), st = j ∧ j ≤ cr.ps.length ∧ At w w' ([(b14, cr.cells.toArray, ty_impl_Commit)] ++ (LW ++ (Lv ++ (Lk ++ ([(b5, (u8s k).toArray, ty_impl_Key), (b4, (u8s a).toArray, ty_impl_Key), (b3, bkC s t, ty_impl_Book)] ++ []))))) ∧ OwnS ty_sl_impl_Key 1 y32 (vs.map slV) Lv ∧ vs.length = b.cms.length ∧ WaysA (wayW b a i j) vs LW) (fun st _ => (cr.d.n - st).toNat) 0 rfl
      ⟨0, LW, Lv, vs, rfl, by omega, h, hOv, hvl, by rw [wayW_zero]; exact hW⟩ ?_
    clear h hOv hvl hW
    rintro j w15 ⟨j, LW, Lv, vs, rfl, hj, h, hOv, hvl, hW⟩
    refine r_any fun _ => ?_
    dsimp only
    have lc_ : ∀ {v : World} {X : List Blk}, At w v ([(b14, cr.cells.toArray, ty_impl_Commit)] ++ X) → ldOk v 1 ((⟨b14, 0, none⟩ : Addr).add 32) .slice cr.d := fun h => (cmAt_of hko' (ldOk_blk h 0 rfl (by simp [hcl]))).d
    refine r_ldN (sh := .slice) cr.d (lc_ h) ?_
    refine r_if ((j : Int) < (cr.d.n : Int)) rfl (fun hlt2 => ?_) (fun hge2 => ?_)
    · refine r_ldN (sh := .slice) cr.d (lc_ h) ?_
      obtain ⟨pk, qk, hpk, hpkm, hqk, hpko, hpkl⟩ := ((hs.ok cr hrm').2.at h).get (i := j) (by omega)
      refine r_ix qk hqk (by omega) (by omega) ?_
      simp only [Int.toNat_natCast]
      refine r_ldN (u8s pk).toArray hpkl ?_
      have hpp : (comAt b i).ps[j]? = some pk := by rw [← hps]; exact hpk
      have hpK : pk ∈ keysB b ∧ ixK (keysB b) pk < i := by
        have := pars_mem hv hoK (p := pk) (by show pk ∈ (comAt b (ixK (keysB b) own)).ps; rw [hoi]; exact List.mem_of_getElem? hpp)
        rwa [hoi] at this
      have sLk : ∀ (V : List Blk), Lk.Sublist (V ++ ([(b14, cr.cells.toArray, ty_impl_Commit)] ++ (LW ++ (Lv ++ (Lk ++ ([(b5, (u8s k).toArray, ty_impl_Key), (b4, (u8s a).toArray, ty_impl_Key), (b3, bkC s t, ty_impl_Book)] ++ [])))))) := fun V => (List.sublist_append_left _ _).trans ((List.sublist_append_right _ _).trans ((List.sublist_append_right _ _).trans ((List.sublist_append_right _ _).trans (List.sublist_append_right _ _))))
      have sLv : ∀ (V : List Blk), Lv.Sublist (V ++ ([(b14, cr.cells.toArray, ty_impl_Commit)] ++ (LW ++ (Lv ++ (Lk ++ ([(b5, (u8s k).toArray, ty_impl_Key), (b4, (u8s a).toArray, ty_impl_Key), (b3, bkC s t, ty_impl_Book)] ++ [])))))) := fun V => (List.sublist_append_left _ _).trans ((List.sublist_append_right _ _).trans ((List.sublist_append_right _ _).trans (List.sublist_append_right _ _)))
      have sLW : ∀ (V : List Blk), LW.Sublist (V ++ ([(b14, cr.cells.toArray, ty_impl_Commit)] ++ (LW ++ (Lv ++ (Lk ++ ([(b5, (u8s k).toArray, ty_impl_Key), (b4, (u8s a).toArray, ty_impl_Key), (b3, bkC s t, ty_impl_Book)] ++ [])))))) := fun V => (List.sublist_append_left _ _).trans ((List.sublist_append_right _ _).trans (List.sublist_append_right _ _))
      refine r_call h (c_l07Find (ownS_ks hOk h (sLk []) (keysB_ok b)) hpko (by omega)) fun r65 w16 h _ hr65 => ?_
      subst hr65
      rw [ixI_pos hpK.1]
      obtain ⟨sp, p2, Lp, hvp, hp2, hl2, hsp, hLp⟩ := way_at h hOv (sLv []) hW (n := ixK (keysB b) pk) (by omega)
      rw [wayW_other (by omega)] at hsp
      have hspl := waysW_len b a i (ixK (keysB b) pk)
      have hspn := hsp.n
      refine r_ix p2 hp2 (by omega) (by omega) ?_
      simp only [Int.toNat_natCast]
      refine r_ldN (sh := .slice) sp hl2 ?_
      refine r_eq (fun h0 => ?_) (fun h0 => ?_)
      · have hnone : waysW b a i (ixK (keysB b) pk) = [] := List.eq_nil_of_length_eq_zero (by omega)
        exact ⟨((j + 1 : Nat) : Int), by rw [w64 (by omega) (by omega)]; rfl, ⟨j + 1, LW, Lv, vs, rfl, by omega, h, hOv, hvl, by rw [wayW_same hpp hnone]; exact hW⟩, by omega⟩
      have hne : waysW b a i (ixK (keysB b) pk) ≠ [] := fun hh => h0 (by rw [hspn, hh]; rfl)
      have hxok : ∀ x ∈ waysW b a i (ixK (keysB b) pk) ++ [own], keyOk x := fun x hx => by
        rcases List.mem_append.1 hx with hx | hx
        · exact hsp.2 x hx
        · rw [List.mem_singleton.1 hx]; exact hoo
      refine r_join (σ := Sl) (fun s39 w' => ∃ Ls, At w w' (Ls ++ ([(b14, cr.cells.toArray, ty_impl_Commit)] ++ (LW ++ (Lv ++ (Lk ++ ([(b5, (u8s k).toArray, ty_impl_Key), (b4, (u8s a).toArray, ty_impl_Key), (b3, bkC s t, ty_impl_Book)] ++ [])))))) ∧ OwnKeyS s39 (waysW b a i (ixK (keysB b) pk) ++ [own]) Ls) (fun s39 w19 hJ => ?_) ?_
      · obtain ⟨Ls, h, hOs⟩ := hJ
        refine r_any fun _ => ?_
        obtain ⟨so2, p3, Lo2, hvo2, hp3', hl3, hso2, hLo2⟩ := way_at h hOv (sLv Ls) hW (n := i) (by omega)
        rw [wayW_own hixa] at hso2
        have hson := hso2.n
        refine r_ix p3 hp3' (by omega) (by omega) ?_
        simp only [Int.toNat_natCast]
        refine r_ldN (sh := .slice) so2 hl3 ?_
        have hstep := wayW_succ hpp hixa
        rw [hog] at hstep
        have hvia : viaW (waysW b a i) (keysB b) own (curW b a i j) pk = if curW b a i j = [] ∨ sooner (waysW b a i (ixK (keysB b) pk) ++ [own]) (curW b a i j) = true then waysW b a i (ixK (keysB b) pk) ++ [own] else curW b a i j := by unfold viaW; rw [if_neg hne]
        refine r_eq (fun h1 => ?_) (fun h1 => ?_)
        · have hcn : curW b a i j = [] := List.eq_nil_of_length_eq_zero (by omega)
          rw [if_pos (.inl hcn)] at hvia
          refine r_ix p3 hp3' (by omega) (by omega) ?_
          simp only [Int.toNat_natCast]
          refine r_stO (v := slV s39) h.pl3 hOv hp3' i (by simp) (by simp [slV, Value.cells]) (by simp; omega) (by simp [slV, Value.cells, oneC]) fun w22 Lv' h hOv' => ?_
          rw [slV_set _ (by omega)] at hOv'
          have h := h.ps3.pl1
          rw [← List.append_assoc Ls LW] at h
          exact ⟨((j + 1 : Nat) : Int), by rw [w64 (by omega) (by omega)]; rfl, ⟨j + 1, Ls ++ LW, Lv', vs.set i s39, rfl, by omega, h, hOv', by rw [List.length_set]; exact hvl, by rw [hstep, hvia]; exact hW.set i hOs⟩, by omega⟩
        · have hcn : curW b a i j ≠ [] := fun hh => h1 (by rw [hson, hh]; rfl)
          refine r_ix p3 hp3' (by omega) (by omega) ?_
          simp only [Int.toNat_natCast]
          refine r_ldN (sh := .slice) so2 hl3 ?_
          refine r_call h (c_l07Sooner (hOs.ks h (List.sublist_append_left _ _)) (hso2.ks h (hLo2.trans (sLW Ls))) (by rw [List.length_append]; simp; omega)) fun r92 w20 h _ hr92 => ?_
          subst hr92
          cases hsoo : sooner (waysW b a i (ixK (keysB b) pk) ++ [own]) (curW b a i j) with
          | true =>
            rw [if_pos (.inr hsoo)] at hvia
            refine r_true rfl ?_
            refine r_ix p3 hp3' (by omega) (by omega) ?_
            simp only [Int.toNat_natCast]
            refine r_stO (v := slV s39) h.pl3 hOv hp3' i (by simp) (by simp [slV, Value.cells]) (by simp; omega) (by simp [slV, Value.cells, oneC]) fun w22 Lv' h hOv' => ?_
            rw [slV_set _ (by omega)] at hOv'
            have h := h.ps3.pl1
            rw [← List.append_assoc Ls LW] at h
            exact ⟨((j + 1 : Nat) : Int), by rw [w64 (by omega) (by omega)]; rfl, ⟨j + 1, Ls ++ LW, Lv', vs.set i s39, rfl, by omega, h, hOv', by rw [List.length_set]; exact hvl, by rw [hstep, hvia]; exact hW.set i hOs⟩, by omega⟩
          | false =>
            rw [if_neg (by simp [hcn, hsoo])] at hvia
            refine r_false rfl ?_
            rw [hvia, ← wayW_own (j := j) hixa] at hstep
            have hsame : wayW b a i (j + 1) = wayW b a i j := by
              rw [hstep]
              funext n
              unfold setW
              split
              · rename_i hn; rw [hn]
              · rfl
            exact ⟨((j + 1 : Nat) : Int), by rw [w64 (by omega) (by omega)]; rfl, ⟨j + 1, LW, Lv, vs, rfl, by omega, h.right, hOv, hvl, by rw [hsame]; exact hW⟩, by omega⟩
      · refine r_draw h fun w17 h => ?_
        obtain ⟨own2, qo, hown, _, hqo, _, hol⟩ := (ownS_ks hOk h (sLk []) (keysB_ok b)).get (i := i) (by omega)
        rw [hKi] at hown
        cases hown
        have lo_ : ∀ {v : World} {V : List Blk}, At w v (V ++ ([(b14, cr.cells.toArray, ty_impl_Commit)] ++ (LW ++ (Lv ++ (Lk ++ ([(b5, (u8s k).toArray, ty_impl_Key), (b4, (u8s a).toArray, ty_impl_Key), (b3, bkC s t, ty_impl_Book)] ++ [])))))) → ldOk v 32 (qo.add (i * 32)) .agg (u8s own).toArray := fun h => by
          obtain ⟨x2, q2, hx2, _, hq2, _, hxl2⟩ := (ownS_ks hOk h (sLk _) (keysB_ok b)).get (i := i) (by omega)
          rw [hKi] at hx2
          cases hx2
          rw [hqo] at hq2
          cases hq2
          exact hxl2
        have lp_ : ∀ {v : World} {V : List Blk}, At w v (V ++ ([(b14, cr.cells.toArray, ty_impl_Commit)] ++ (LW ++ (Lv ++ (Lk ++ ([(b5, (u8s k).toArray, ty_impl_Key), (b4, (u8s a).toArray, ty_impl_Key), (b3, bkC s t, ty_impl_Book)] ++ [])))))) → SlAt v sp 32 ((waysW b a i (ixK (keysB b) pk)).flatMap u8s) := fun h => hsp.1.sl h (hLp.trans (sLW _))
        have one_ : ∀ v ∈ (waysW b a i (ixK (keysB b) pk)).flatMap u8s, oneC v = true := fun v hv => by
          obtain ⟨x, _, hx⟩ := List.mem_flatMap.1 hv
          exact u8s_one v hx
        refine r_ix qo hqo (by omega) (by omega) ?_
        simp only [Int.toNat_natCast]
        refine r_ldN (u8s own).toArray hol ?_
        refine r_all2 ?_ ?_
        · refine r_bs0 T_sl_Key h fun y71 w18 hy hyn => ?_
          obtain ⟨La, hOa, h⟩ := hy.split
          refine r_chk1 (lo_ h) ?_
          refine r_all2 ?_ ?_
          · refine r_append T_sl_Key (hOa.slo h) (lp_ h) one_ (by omega) (by omega) fun y73 w19 hS hn73 => ?_
            refine r_chk1 (lo_ (V := []) hS.at_) ?_
            refine r_push T_sl_Key hS (v := .agg (u8s own).toArray) (by simp [Value.cells, hoo.1]) (by omega) (by simpa [Value.cells] using u8s_one) (by omega) (by omega) fun y79 w20 hS hn => ?_
            obtain ⟨Ls, hOs, h⟩ := hS.split
            exact ⟨y79, rfl, Ls, h, by simpa [Value.cells, List.flatMap_append] using hOs, hxok⟩
          · refine r_bs1 T_sl_Key h (v := .agg (u8s own).toArray) (by simp [Value.cells, hoo.1]) (by omega) fun y78 w19 hy78 hyn78 => ?_
            obtain ⟨Lb, hOb, h⟩ := hy78.split
            refine r_append T_sl_Key (hOa.slo h.pl1) (lp_ (V := Lb ++ La) (by rw [List.append_assoc]; exact h)) one_ (by omega) (by omega) fun y73 w20 hS hn73 => ?_
            refine r_append T_sl_Key hS (hOb.sl hS.at_ (List.sublist_append_left _ _)) (by simpa [Value.cells] using u8s_one) (by omega) (by omega) fun y79 w21 hS hn => ?_
            obtain ⟨Ls, hOs, h⟩ := hS.split
            exact ⟨y79, rfl, Ls, h.dr1, by simpa [Value.cells, List.flatMap_append] using hOs, hxok⟩
        · refine r_bs1 T_sl_Key h (v := .agg (u8s own).toArray) (by simp [Value.cells, hoo.1]) (by omega) fun y78 w19 hy78 hyn78 => ?_
          obtain ⟨Lb, hOb, h⟩ := hy78.split
          refine r_bs0 T_sl_Key h fun y71 w18 hy hyn => ?_
          refine r_append T_sl_Key hy (lp_ hy.at_) one_ (by omega) (by omega) fun y73 w20 hS hn73 => ?_
          refine r_append T_sl_Key hS (hOb.sl hS.at_ (List.sublist_append_left _ _)) (by simpa [Value.cells] using u8s_one) (by omega) (by omega) fun y79 w21 hS hn => ?_
          obtain ⟨Ls, hOs, h⟩ := hS.split
          exact ⟨y79, rfl, Ls, h.dr1, by simpa [Value.cells, List.flatMap_append] using hOs, hxok⟩
    · have hjl : j = (comAt b i).ps.length := by rw [← hps]; omega
      subst hjl
      rw [wayW_last] at hW
      exact ⟨((i + 1 : Nat) : Int), by rw [w64 (by omega) (by omega)]; rfl, ⟨i + 1, LW, Lv, vs, rfl, by omega, by omega, h.right, hOv, hvl, hW⟩, by omega⟩
  · have hil : i = b.cms.length := by omega
    subst hil
    obtain ⟨s', p2, L', hs', hp2, hl2, hO', hL'⟩ := way_at h hOv ((List.sublist_append_left _ _).trans (List.sublist_append_right _ _)) hW (n := ixK (keysB b) k) (by omega)
    refine r_ix p2 hp2 (by omega) (by omega) ?_
    simp only [Int.toNat_natCast]
    refine r_ldN (sh := .slice) s' hl2 ?_
    have hsn' := hO'.n
    have hne := wayB_ne hv haK hkK
    have hO' : OwnKeyS s' (wayB b a k) L' := hO'
    have hsn' : s'.n = (wayB b a k).length := hsn'
    refine r_eq (fun h0 => ?_) (fun h0 => ?_)
    · have hw : wayB b a k = [] := List.eq_nil_of_length_eq_zero (by omega)
      refine r_bs0 T_sl_Key h fun y15 w10 hy hyn => ?_
      obtain ⟨L, hA, hO⟩ := slO_ownKeyS (ks := []) (s := y15) (by simpa using hy.base) (by simp)
      exact r_ret hA.nil (y15, 4) rfl ⟨L, hA, by unfold wayAns; rw [if_pos heq, if_neg (fun hh => hne.2 hh hw)]; exact ⟨hO, rfl⟩⟩
    · have hw : wayB b a k ≠ [] := fun hh => h0 (by rw [hsn', hh]; rfl)
      refine r_ix p2 hp2 (by omega) (by omega) ?_
      simp only [Int.toNat_natCast]
      refine r_ldN (sh := .slice) s' hl2 ?_
      exact r_ret h.nil (s', 0) rfl ⟨L', h.take _ (hL'.trans (List.sublist_append_left _ _)), by unfold wayAns; rw [if_pos heq, if_pos (hne.1 hw)]; exact ⟨hO', rfl⟩⟩)
end Go.Proofs.YtaadgdbegpmlmaaGreat
