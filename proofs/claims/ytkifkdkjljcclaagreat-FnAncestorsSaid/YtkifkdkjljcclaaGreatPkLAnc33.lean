/- History: indices and ancestors: both sides; AncestorsOf, IsAncestor. -/
import Derived.Test.YtkifkdkjljcclaaGreatPkLAnc32
namespace Go.Proofs.YtkifkdkjljcclaaGreat
open Go.Sx Go.RowKit

theorem c_l07At {w : World} {p : Addr} {rs : List CR} {ms : List ER} {b : PBk} {k : List Int} (hp : BkR w p rs ms) (hX : rs.map CR.pc = b.cms) (hM : ms.map ER.es = b.maps) (hz : sizeBook b ≤ 1073741824) (hk : keyOk k) :
    Ret Tryz.prog n_spec_l07At [.pointer (some p), .agg (u8s k).toArray] w [.int .i64, .int .i64] (fun r _ => r.2 = openCode b [k] ∧ (openCode b [k] = 0 → validB b ∧ k ∈ keysB b ∧ r.1 = (ixK (keysB b) k : Int))) := spec_l07At_calls _ _ (by
  unfold spec_l07At
  have hrl : rs.length = b.cms.length := by rw [← hX]; simp
  refine r_new (At.refl w) fun b3 w1 h => ?_
  have h : At w w1 [(b3, (u8s k).toArray, ty_impl_Key)] := h
  refine r_call h (c_l07Book (hp.at h) hX hM hz) fun r8 w2 h _ hr => ?_
  subst hr
  by_cases hv : validB b
  · rw [decide_eq_true hv]
    refine r_false rfl ?_
    have h40 := hv.1.1
    refine r_joinI ?_
    refine r_draw h fun w3 h => ?_
    refine r_ldA h 0 rfl rfl (by simp [hk.1]) ?_
    refine r_call h (c_l07Keys (hp.at h) (rows_ok hX hv) (by omega)) fun r11 w4 h _ ⟨hS, hn⟩ => ?_
    rw [hX] at hS
    refine r_chk1 (ldOk_blk h 0 rfl (by simp [hk.1])) ?_
    refine r_call h (c_l07Find (slO_ks hS (keysB_ok b)) hk (by rw [keysC_len]; omega)) fun r13 w5 h _ hr13 => ?_
    subst hr13
    refine ⟨_, rfl, ?_⟩
    refine r_any fun _ => ?_
    rw [show ixI (keysC b.cms) k = ixI (keysB b) k from rfl]
    by_cases hkK : k ∈ keysB b
    · rw [ixI_pos hkK]
      refine r_if ((ixK (keysB b) k : Int) < 0) rfl (fun hh => by omega) (fun _ => ?_)
      have hc : openCode b [k] = 0 := by unfold openCode; rw [if_pos hv, if_pos (by simpa using hkK)]
      exact r_ret h.nil ((ixK (keysB b) k : Int), 0) rfl ⟨hc.symm, fun _ => ⟨hv, hkK, rfl⟩⟩
    · have hi : ixI (keysB b) k = -1 := if_neg hkK
      rw [hi]
      refine r_if ((-1 : Int) < 0) rfl (fun _ => ?_) (fun hh => absurd (by omega) hh)
      have hc : openCode b [k] = 6 := by unfold openCode; rw [if_pos hv, if_neg (by simpa using hkK)]
      exact r_ret h.nil (0, 6) rfl ⟨hc.symm, fun hh => by rw [hc] at hh; cases hh⟩
  · rw [decide_eq_false hv]
    refine r_true rfl ?_
    have hc : openCode b [k] = 1 := by unfold openCode; rw [if_neg hv]
    exact r_ret h.nil (0, 1) rfl ⟨hc.symm, fun hh => by rw [hc] at hh; cases hh⟩)

theorem openCode_two {b : PBk} {a k : List Int} : openCode b [a, k] = if openCode b [a] ≠ 0 then openCode b [a] else openCode b [k] := by
  unfold openCode
  by_cases hv : validB b
  · rw [if_pos hv, if_pos hv, if_pos hv]
    by_cases ha : a ∈ keysB b
    · by_cases hk : k ∈ keysB b
      · simp [ha, hk]
      · simp [ha, hk]
    · simp [ha]
  · simp [hv]
theorem c_l07Two {w : World} {p : Addr} {rs : List CR} {ms : List ER} {b : PBk} {a k : List Int} (hp : BkR w p rs ms) (hX : rs.map CR.pc = b.cms) (hM : ms.map ER.es = b.maps) (hz : sizeBook b ≤ 1073741824) (ha : keyOk a) (hk : keyOk k) :
    Ret Tryz.prog n_spec_l07Two [.pointer (some p), .agg (u8s a).toArray, .agg (u8s k).toArray] w [.int .i64, .int .i64, .int .i64] (fun r _ => r.2.2 = openCode b [a, k] ∧ (openCode b [a, k] = 0 → validB b ∧ a ∈ keysB b ∧ k ∈ keysB b ∧ r.1 = (ixK (keysB b) a : Int) ∧ r.2.1 = (ixK (keysB b) k : Int))) := spec_l07Two_calls _ _ _ (by
  unfold spec_l07Two
  refine r_new (At.refl w) fun b4 w1 h => ?_
  refine r_new h fun b5 w2 h => ?_
  have h : At w w2 [(b5, (u8s k).toArray, ty_impl_Key), (b4, (u8s a).toArray, ty_impl_Key)] := h
  refine r_ldA h 1 rfl rfl (by simp [ha.1]) ?_
  refine r_call h (c_l07At (hp.at h) hX hM hz ha) fun r16 w3 h _ ⟨h1, h2⟩ => ?_
  obtain ⟨i, c⟩ := r16
  dsimp only at h1 h2 ⊢
  refine r_ne (fun hne => ?_) (fun heq => ?_)
  · have hc : openCode b [a, k] = c := by rw [openCode_two, ← h1, if_pos hne]
    exact r_ret h.nil (0, 0, c) rfl ⟨hc.symm, fun hh => absurd (hc.symm.trans hh) hne⟩
  · have ha0 : openCode b [a] = 0 := h1.symm.trans heq
    obtain ⟨hv, hak, hi⟩ := h2 ha0
    refine r_ldA h 0 rfl rfl (by simp [hk.1]) ?_
    refine r_call h (c_l07At (hp.at h) hX hM hz hk) fun r25 w4 h _ ⟨h3, h4⟩ => ?_
    obtain ⟨j, c2⟩ := r25
    dsimp only at h3 h4 ⊢
    have hc : openCode b [a, k] = c2 := by rw [openCode_two, ha0, if_neg (fun hh => hh rfl), ← h3]
    refine r_ne (fun hne => ?_) (fun heq2 => ?_)
    · exact r_ret h.nil (0, 0, c2) rfl ⟨hc.symm, fun hh => absurd (hc.symm.trans hh) hne⟩
    · obtain ⟨_, hkk, hj⟩ := h4 (h3.symm.trans heq2)
      exact r_ret h.nil (i, j, 0) rfl ⟨by rw [hc, heq2], fun _ => ⟨hv, hak, hkk, hi, hj⟩⟩)

theorem comAt_ix {b : PBk} {rs : List CR} (hX : rs.map CR.pc = b.cms) {k : List Int} (hk : k ∈ keysB b) : ∃ r, rs[ixK (keysB b) k]? = some r ∧ r.ps = parsB b k := by
  have hrl : rs.length = b.cms.length := by rw [← hX]; simp
  obtain ⟨r, hr, hrc⟩ := cAt_row hX (K := keysB b) (by rw [keysB_len]; omega) hk
  exact ⟨r, hr, congrArg PC.ps hrc⟩

theorem c_l07Above {w : World} {p : Addr} {rs : List CR} {ms : List ER} {b : PBk} {k : List Int} (hp : BkR w p rs ms) (hX : rs.map CR.pc = b.cms) (hv : validB b) (hk : k ∈ keysB b) :
    Ret Tryz.prog n_spec_l07Above [.pointer (some p), .int .i64 (ixK (keysB b) k : Int)] w [.slice] (fun r w' => SlO w w' [] ty_impl_Key 32 r ((ancB b k).flatMap u8s) ∧ r.n = (ancB b k).length) := spec_l07Above_calls _ _ (by
  unfold spec_l07Above
  obtain ⟨s, t, hls, hlt, hs, ht⟩ := hp.ex
  have hsn := hs.n
  have hrl : rs.length = b.cms.length := by rw [← hX]; simp
  have h40 := hv.1.1
  have hKl := keysB_len b
  have hko := keysB_ok b k hk
  refine r_call (At.refl w) (c_l07Keys hp (rows_ok hX hv) (by omega)) fun r11 w1 _ _ ⟨hS, hn⟩ => ?_
  rw [hX] at hS
  have hS : SlO w w1 [] ty_impl_Key 32 r11 ((keysB b).flatMap u8s) := hS
  obtain ⟨Lk, hOk, h⟩ := hS.split
  have keys : ∀ {v : World} {V : List Blk}, At w v (V ++ (Lk ++ [])) → KsR v r11 (keysB b) := fun h => ownS_ks hOk h ((List.sublist_append_left _ _).trans (List.sublist_append_right _ _)) (keysB_ok b)
  have h : At w w1 ([] ++ (Lk ++ [])) := h
  have hil := ixK_lt hk
  obtain ⟨x, q, hx, _, hq, hxo, hxl⟩ := (keys h).get (i := ixK (keysB b) k) hil
  rw [ixK_get hk] at hx
  cases hx
  refine r_ix q hq (by omega) (by omega) ?_
  simp only [Int.toNat_natCast]
  refine r_ldN (u8s k).toArray hxl ?_
  have h : At w w1 (Lk ++ []) := h
  refine r_bs1 T_sl_Key h (by simp [Value.cells, hko.1]) (by omega) fun y16 w2 hy hyn => ?_
  refine r_loop (σ := Sl × Int) (fun st w' => ∃ (i : Nat) (out : List (List Int)), st.2 = i ∧ AncW b k i out ∧ SlO w w' (Lk ++ []) ty_impl_Key 32 st.1 (out.flatMap u8s) ∧ st.1.n = out.length) (fun st _ => (41 - st.2).toNat) (y16, 0) rfl
    ⟨0, [k], rfl, AncW.first b k, by simpa [Value.cells] using hy, by simpa using hyn⟩ ?_
  clear h hy hyn
  rintro ⟨so, i⟩ w3 ⟨i, out, hi, hW, hS, hsn2⟩
  dsimp only at hi hS hsn2
  subst hi
  have hol := hW.len hv hk
  have hile := hW.le
  have hin : ∀ x ∈ out, x ∈ keysB b := fun x hx => (hW.anc x hx).mem hv hk
  have hoo : ∀ x ∈ out, keyOk x := fun x hx => keysB_ok b x (hin x hx)
  refine r_any fun _ => ?_
  dsimp only
  refine r_if ((i : Int) < (so.n : Int)) rfl (fun hlt => ?_) (fun hge => ?_)
  · have hiy : out[i]? = some out[i] := List.getElem?_eq_getElem (by omega)
    have hyK := hin _ (List.getElem_mem (show i < out.length by omega))
    generalize out[i] = y at hiy hyK
    obtain ⟨cr, hcr, hcps⟩ := comAt_ix hX hyK
    have hyl := ixK_lt hyK
    obtain ⟨L, hO, h⟩ := hS.split
    have hyo := keysB_ok b y hyK
    refine r_join (σ := Addr) (fun pt w' => ∃ b8, pt = ⟨b8, 0, none⟩ ∧ At w w' ([(b8, cr.cells.toArray, ty_impl_Commit)] ++ (L ++ (Lk ++ [])))) (fun pt w4 ⟨b8, hpt, h⟩ => ?_) ?_
    · subst hpt
      obtain ⟨r', p', hr', hrm', hp', hko', hks', hcm'⟩ := hs.get (i := ixK (keysB b) y) (by omega)
      rw [hcr] at hr'
      cases hr'
      have hdn := hks'.n
      have hp3 : cr.ps.length ≤ 3 := (rows_ok hX hv cr hrm').2.1
      have hcl := crcells_len hko'
      refine r_any fun _ => ?_
      refine r_loop (σ := Sl × Int) (fun st w' => ∃ (j : Nat) (L' : List Blk), st.2 = j ∧ j ≤ cr.ps.length ∧ At w w' ([(b8, cr.cells.toArray, ty_impl_Commit)] ++ (L' ++ (Lk ++ []))) ∧ OwnS ty_impl_Key 32 st.1 (((cr.ps.take j).foldl meetK out).flatMap u8s) L' ∧ st.1.n = ((cr.ps.take j).foldl meetK out).length) (fun st _ => (cr.d.n - st.2).toNat) (so, 0) rfl
        ⟨0, L, rfl, by omega, h, by simpa using hO, by simpa using hsn2⟩ ?_
      clear h hO
      rintro ⟨s18, j⟩ w5 ⟨j, L', hj0, hj, h, hO, hsn3⟩
      dsimp only at hj0 hO hsn3
      subst hj0
      have lc_ : ∀ {v : World} {X : List Blk}, At w v ([(b8, cr.cells.toArray, ty_impl_Commit)] ++ X) → ldOk v 1 ((⟨b8, 0, none⟩ : Addr).add 32) .slice cr.d := fun h => (cmAt_of hko' (ldOk_blk h 0 rfl (by simp [hcl]))).d
      have hcur : ∀ x ∈ (cr.ps.take j).foldl meetK out, keyOk x := fun x hx => by
        rcases (meets_mem _ _ _).1 hx with hx | hx
        · exact hoo x hx
        · exact hks'.ok x (List.mem_of_mem_take hx)
      have hcl2 : ((cr.ps.take j).foldl meetK out).length ≤ 43 := by
        have h1 := nodup_le (s := (cr.ps.take j).foldl meetK out) (t := out ++ cr.ps.take j) (meets_nodup _ hW.nodup) (fun x hx => by rw [List.mem_append]; exact (meets_mem _ _ _).1 hx)
        rw [List.length_append, List.length_take] at h1
        omega
      refine r_any fun _ => ?_
      dsimp only
      refine r_ldN cr.d (lc_ h) ?_
      refine r_if ((j : Int) < (cr.d.n : Int)) rfl (fun hlt2 => ?_) (fun hge2 => ?_)
      · obtain ⟨pk, qk, hpk, hpkm, hqk, hpko, hpkl⟩ := (hks'.at h).get (i := j) (by omega)
        refine r_ldN cr.d (lc_ h) ?_
        refine r_ix qk hqk (by omega) (by omega) ?_
        refine r_ldN (u8s pk).toArray (by simp only [Int.toNat_natCast]; exact hpkl) ?_
        refine r_call h (c_l01Has (ownS_ks hO h ((List.sublist_append_left _ _).trans (List.sublist_append_right _ _)) hcur) hpko (by omega)) fun r48 w6 h _ hr48 => ?_
        subst hr48
        have hstep : (cr.ps.take (j + 1)).foldl meetK out = meetK ((cr.ps.take j).foldl meetK out) pk := by rw [take_succ_get hpk, List.foldl_append]; rfl
        by_cases hmem : pk ∈ (cr.ps.take j).foldl meetK out
        · rw [decide_eq_true hmem]
          refine r_false rfl ?_
          have hm2 : meetK ((cr.ps.take j).foldl meetK out) pk = (cr.ps.take j).foldl meetK out := if_pos hmem
          exact ⟨(s18, ((j + 1 : Nat) : Int)), by rw [w64 (by omega) (by omega)]; rfl, ⟨j + 1, L', rfl, by omega, h, by rw [hstep, hm2]; exact hO, by rw [hstep, hm2]; exact hsn3⟩, by dsimp only; omega⟩
        · rw [decide_eq_false hmem]
          refine r_true rfl ?_
          have hm2 : meetK ((cr.ps.take j).foldl meetK out) pk = (cr.ps.take j).foldl meetK out ++ [pk] := if_neg hmem
          refine r_ldN cr.d (lc_ h) ?_
          obtain ⟨pk2, qk2, hpk2, _, hqk2, _, hpkl2⟩ := (hks'.at h).get (i := j) (by omega)
          rw [hpk] at hpk2
          cases hpk2
          refine r_ix qk2 hqk2 (by omega) (by omega) ?_
          refine r_ldN (u8s pk).toArray (by simp only [Int.toNat_natCast]; exact hpkl2) ?_
          refine r_push T_sl_Key (hO.slo h.pl1) (by simp [Value.cells, hpko.1]) (by omega) (by simpa [Value.cells] using u8s_one) (by omega) (by omega) fun y57 w7 hS7 hn7 => ?_
          obtain ⟨L7, hO7, h⟩ := hS7.split
          refine ⟨(y57, ((j + 1 : Nat) : Int)), by rw [w64 (by omega) (by omega)]; rfl, ⟨j + 1, L7, rfl, by omega, h.pl1, ?_, ?_⟩, by dsimp only; omega⟩
          · rw [hstep, hm2, List.flatMap_append]
            simpa [Value.cells] using hO7
          · dsimp only
            rw [hstep, hm2, List.length_append]
            simp only [List.length_cons, List.length_nil]
            omega
      · have hjl : j = cr.ps.length := by omega
        subst hjl
        rw [List.take_of_length_le (Nat.le_refl _), hcps] at hO hsn3
        exact ⟨(s18, ((i + 1 : Nat) : Int)), by rw [w64 (by omega) (by omega)]; rfl, ⟨i + 1, _, rfl, hW.next hiy, hO.slo h.right, hsn3⟩, by dsimp only; omega⟩
    · have ls_ : ∀ {v : World} {X : List Blk}, At w v X → ldOk v 1 (p.add 0) .slice s := fun h => ldOk_below h.below hls
      have hzl : (cmC zero32 ⟨none, 0, 0⟩ 0 ⟨#[]⟩).length = 35 := cmC_len zero32_ok ..
      refine r_draw h fun w4 h => ?_
      refine r_ldN s (ls_ h) ?_
      have hout : KsR w4 so out := ownS_ks hO h (List.sublist_append_left _ _) hoo
      obtain ⟨y', qy, hy', _, hqy, _, hyl2⟩ := hout.get (i := i) (by omega)
      rw [hiy] at hy'
      cases hy'
      refine r_ix qy hqy (by omega) (by omega) ?_
      simp only [Int.toNat_natCast]
      refine r_ldN (u8s y).toArray hyl2 ?_
      obtain ⟨r', p', hr', hrm', hp', hko', hks', hcm'⟩ := hs.get (i := ixK (keysB b) y) (by omega)
      rw [hcr] at hr'
      cases hr'
      have hcl := crcells_len hko'
      refine r_all2 ?_ ?_
      · refine r_call h (c_l07Find (keys h) hyo (by omega)) fun r32 w5 h _ hr32 => ?_
        subst hr32
        rw [ixI_pos hyK]
        refine r_chk1 (ls_ h) ?_
        refine r_ix p' hp' (by omega) (by omega) ?_
        simp only [Int.toNat_natCast]
        refine r_ldN cr.cells.toArray (hcm'.at h).all ?_
        refine r_new h fun b8 w6 h => ?_
        have h : At w w6 ([(b8, (cmC zero32 ⟨none, 0, 0⟩ 0 ⟨#[]⟩).toArray, ty_impl_Commit)] ++ (L ++ (Lk ++ []))) := h
        refine r_chk2 (hcm'.at h).all (ls_ h) ?_
        refine r_stA h 0 rfl rfl (by simp [hcl]) (by simp [hzl]) (by simpa [CR.cells] using cmC_one _ _ _ _) fun w7 h => ?_
        exact ⟨(⟨b8, 0, none⟩ : Addr), rfl, b8, rfl, h⟩
      · refine r_new h fun b8 w6 h6 => ?_
        have h6 : At w w6 ([(b8, (cmC zero32 ⟨none, 0, 0⟩ 0 ⟨#[]⟩).toArray, ty_impl_Commit)] ++ (L ++ (Lk ++ []))) := h6
        have hk6 : At w w6 (([(b8, (cmC zero32 ⟨none, 0, 0⟩ 0 ⟨#[]⟩).toArray, ty_impl_Commit)] ++ L) ++ (Lk ++ [])) := by rw [List.append_assoc]; exact h6
        have hout6 : KsR w6 so out := ownS_ks hO h6 ((List.sublist_append_left _ _).trans (List.sublist_append_right _ _)) hoo
        obtain ⟨y6, q6, hy6, _, hq6, _, hyl6⟩ := hout6.get (i := i) (by omega)
        rw [hiy] at hy6
        cases hy6
        rw [hqy] at hq6
        cases hq6
        refine r_chk2 hyl6 (ls_ h6) ?_
        refine r_call h6 (c_l07Find (keys hk6) hyo (by omega)) fun r32 w7 h _ hr32 => ?_
        subst hr32
        rw [ixI_pos hyK]
        refine r_chk1 (ls_ h) ?_
        refine r_ix p' hp' (by omega) (by omega) ?_
        simp only [Int.toNat_natCast]
        refine r_ldN cr.cells.toArray (hcm'.at h).all ?_
        refine r_stA h 0 rfl rfl (by simp [hcl]) (by simp [hzl]) (by simpa [CR.cells] using cmC_one _ _ _ _) fun w8 h => ?_
        exact ⟨(⟨b8, 0, none⟩ : Addr), rfl, b8, rfl, h⟩
  · obtain ⟨L, hO, h⟩ := hS.split
    refine r_call h (c_l01Sort (z := zero32) (ownS_ks hO h (List.sublist_append_left _ _) hoo) (by omega) rfl) fun r60 w5 h5 _ ⟨hS5, hn5⟩ => ?_
    have he : sortK out = ancB b k := ancB_of hv hk (sortK_asc _) fun x => by rw [sortK_mem]; exact hW.all (by omega) x
    rw [he] at hS5 hn5
    exact r_ret h5.nil r60 rfl ⟨(SlO.lift h hS5).base, hn5⟩)
end Go.Proofs.YtkifkdkjljcclaaGreat
