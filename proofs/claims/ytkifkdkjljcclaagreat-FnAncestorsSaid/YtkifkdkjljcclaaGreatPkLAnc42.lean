/- FnAncestors: the law's walk. -/
import Derived.Test.YtkifkdkjljcclaaGreatPkLAnc41
import Derived.Test.YtkifkdkjljcclaaGreatPkLAnc38
namespace Go.Proofs.YtkifkdkjljcclaaGreat
open Go.Sx Go.RowKit

theorem headsB_none {b : PBk} (h : b.cms = []) : headsB b = [] := by
  have hK : keysB b = [] := by unfold keysB keysC; rw [h]; rfl
  unfold headsB
  rw [hK]
  exact List.eq_nil_iff_forall_not_mem.2 fun x hx => by
    rw [sortK_mem] at hx
    cases hx
theorem c_lawAncestors {w : World} {sc sm : Sl} {dc dm : List Int} (hc : SlAt w sc 1 (u8s dc)) (hcb : bytesOk dc) (hm : SlAt w sm 1 (u8s dm)) (hmb : bytesOk dm) :
    Ret Tryz.prog n_laws_FnAncestors [.slice sc.a sc.n sc.c, .slice sm.a sm.n sm.c] w [.bool] (fun r _ => r = true) := laws_FnAncestors_calls _ _ (by
  unfold laws_FnAncestors
  refine r_callp (c_a2Long sc sm) ?_
  by_cases hlong : 3000 < sc.n ∨ 3000 < sm.n
  · exact r_true (decide_eq_true hlong) (r_ret (At.refl w) true rfl rfl)
  refine r_false (decide_eq_false hlong) ?_
  refine r_call (At.refl w) (c_A2Book hc hcb) fun g w1 _ _ ⟨L, bk, h, hO, hv, hl7⟩ => ?_
  have hz : sizeBook bk ≤ 1073741824 := by have := sizeBook_valid hv; omega
  refine r_new h fun b5 w2 h => ?_
  refine r_stA h 0 rfl rfl hO.sz rfl hO.one fun wk hk0 => ?_
  have hk0 : At w wk ([(b5, g, ty_impl_Book)] ++ L) := hk0
  have hk0' : At w wk ([(b5, g, ty_impl_Book)] ++ (L ++ [])) := by rw [List.append_nil]; exact hk0
  have hbk : RdBook wk g bk := hO.rd hk0'.pl1
  have lb : ldOk wk 2 (⟨b5, 0, none⟩ : Addr) .agg g := ldOk_blk hk0 0 rfl hO.sz
  obtain ⟨s, t, rfl, ⟨rs, hX, hs⟩, hrt⟩ := id hbk
  have l0 : ldOk wk 1 ((⟨b5, 0, none⟩ : Addr).add 0) .slice s := ldOk_own (sh := .slice) hk0 0 rfl 0 rfl (by simp [bkC, Sh.emb])
  have hsn := hs.n
  have hrl : rs.length = bk.cms.length := by rw [← hX]; simp
  have hKl := keysB_len bk
  have lb_ : ∀ {v : World} {X : List Blk}, At wk v X → ldOk v 2 (⟨b5, 0, none⟩ : Addr) .agg (bkC s t) := fun h => ldOk_below h.below lb
  have l0_ : ∀ {v : World} {X : List Blk}, At wk v X → ldOk v 1 ((⟨b5, 0, none⟩ : Addr).add 0) .slice s := fun h => ldOk_below h.below l0
  have bk_ : ∀ {v : World} {X : List Blk}, At wk v X → RdBook v (bkC s t) bk := fun h => RdBook.at hbk h
  have h := At.refl wk
  refine r_ldN (sh := .slice) s (l0_ h) ?_
  refine r_eq (fun hn0 => ?_) (fun hn0 => ?_)
  · have hnil : bk.cms = [] := List.eq_nil_of_length_eq_zero (by omega)
    refine r_ldN _ (lb_ h) ?_
    refine r_call h (c_impl_HeadsOf (bk_ h) hz) fun r51 w3 h _ ⟨Lh, _, hOh, hch⟩ => ?_
    obtain ⟨r51, c51⟩ := r51
    dsimp only at hOh hch ⊢
    have ho : openCode bk [] = 0 := open_ok hv (by simp)
    have hans : headsAns bk = (headsB bk, 0) := by unfold headsAns; rw [if_pos ho]
    rw [hans] at hOh hch
    subst hch
    refine r_true rfl ?_
    have hnn := hOh.n
    rw [headsB_none hnil] at hnn
    exact r_ret (hk0.join h).nil _ rfl (by rw [hnn]; rfl)
  have hpos : 1 ≤ bk.cms.length := by omega
  refine r_ldN (sh := .slice) s (l0_ h) ?_
  refine r_call h (c_a2At 0 s.n h (hm.at hk0) hmb (by omega)) fun r65 w3 h _ ⟨i, hi, hi2⟩ => ?_
  subst hi
  have hi : i < bk.cms.length := by omega
  refine r_ldN (sh := .slice) s (l0_ h) ?_
  refine r_call h (c_a2At 1 s.n h (hm.at hk0) hmb (by omega)) fun r70 w4 h _ ⟨j, hj, hj2⟩ => ?_
  subst hj
  have hj : j < bk.cms.length := by omega
  have row_ : ∀ (n : Nat), n < bk.cms.length → ∀ {v : World} {X : List Blk}, At wk v X → ∃ cr q, rs[n]? = some cr ∧ s.a = some q ∧ keyOk cr.root ∧ KsR v cr.d cr.ps ∧ CmAt v (q.add (n * 35)) cr ∧ cr.pc = comAt bk n ∧ okC cr.pc := fun n hn v X h => by
    obtain ⟨cr, q, hcr, hcm, hq, hko, hks, hcma⟩ := (hs.at h).get (i := n) (by omega)
    exact ⟨cr, q, hcr, hq, hko, hks, hcma, comAt_row hX hcr, rows_ok hX hv cr hcm⟩
  refine r_ldN (sh := .slice) s (l0_ h) ?_
  obtain ⟨cr, q, hcr, hq, hko, hks, hcma, hpc, hoc⟩ := row_ i hi h
  have hkey_ : ∀ n, n < bk.cms.length → ckey (comAt bk n) ∈ keysB bk ∧ ixK (keysB bk) (ckey (comAt bk n)) = n := fun n hn => ⟨List.mem_of_getElem? (keysB_get hn), ixK_of (keysB_nodup hv) (keysB_get hn)⟩
  refine r_ix q hq (by omega) (by omega) ?_
  simp only [Int.toNat_natCast]
  refine r_ldN cr.cells.toArray hcma.all ?_
  refine r_call h (c_spec_CommitKey hko hks hoc) fun r77 w5 h _ ⟨hk77, hc77⟩ => ?_
  obtain ⟨g77, c77⟩ := r77
  dsimp only at hk77 hc77 ⊢
  subst hk77
  subst hc77
  rw [hpc]
  obtain ⟨haK, hai⟩ := hkey_ i hi
  have hpa : ∀ n pk, cr.ps[n]? = some pk → pk ∈ parsB bk (ckey (comAt bk i)) := fun n pk hp => by
    show pk ∈ (comAt bk (ixK (keysB bk) (ckey (comAt bk i)))).ps
    rw [hai, ← hpc]
    exact List.mem_of_getElem? hp
  generalize ckey (comAt bk i) = a at haK hai hpa
  have hao := keysB_ok bk a haK
  refine r_new h fun b10 w6 h => ?_
  refine r_stA h 0 rfl rfl (by simp [hao.1]) (by simp [Value.cells]) (by simpa using u8s_one) fun w7 h => ?_
  refine r_ldN (sh := .slice) s (l0_ h) ?_
  obtain ⟨cr2, q2, hcr2, hq2, hko2, hks2, hcma2, hpc2, hoc2⟩ := row_ j hj h
  rw [hq] at hq2
  cases hq2
  refine r_ix q hq (by omega) (by omega) ?_
  simp only [Int.toNat_natCast]
  refine r_ldN cr2.cells.toArray hcma2.all ?_
  refine r_call h (c_spec_CommitKey hko2 hks2 hoc2) fun r86 w8 h _ ⟨hk86, hc86⟩ => ?_
  obtain ⟨g86, c86⟩ := r86
  dsimp only at hk86 hc86 ⊢
  subst hk86
  subst hc86
  rw [hpc2]
  obtain ⟨hkK, hki⟩ := hkey_ j hj
  generalize ckey (comAt bk j) = k at hkK hki
  have hkko := keysB_ok bk k hkK
  refine r_new h fun b12 w9 h => ?_
  refine r_stA h 0 rfl rfl (by simp [hkko.1]) (by simp [Value.cells]) (by simpa using u8s_one) fun w10 h => ?_
  have h : At wk w10 ([(b12, (u8s k).toArray, ty_impl_Key), (b10, (u8s a).toArray, ty_impl_Key)] ++ []) := h
  have o1 : openCode bk [a] = 0 := open_ok hv (by simpa using haK)
  have o2 : openCode bk [k] = 0 := open_ok hv (by simpa using hkK)
  have o3 : openCode bk [a, k] = 0 := open_ok hv (by simp [haK, hkK])
  have o4 : openCode bk [k, a] = 0 := open_ok hv (by simp [haK, hkK])
  have e1 : ancAns bk a = (ancB bk a, 0) := by unfold ancAns; rw [if_pos o1]
  have e2 : ancAns bk k = (ancB bk k, 0) := by unfold ancAns; rw [if_pos o2]
  have e3 : basesAns bk a k = (basesB bk a k, 0) := by unfold basesAns; rw [if_pos o3]
  have e4 : basesAns bk k a = (basesB bk k a, 0) := by unfold basesAns; rw [if_pos o4]
  have e5 : isAncAns bk a k = (decide (a ∈ ancB bk k), 0) := by unfold isAncAns; rw [if_pos o3]
  have e6 : wayAns bk a k = if a ∈ ancB bk k then (wayB bk a k, 0) else ([], 4) := by unfold wayAns; rw [if_pos o3]
  refine r_ldN _ (lb_ h) ?_
  refine r_ldA h 1 rfl rfl (by simp [hao.1]) ?_
  refine r_call h (c_impl_AncestorsOf (bk_ h) ⟨rfl, hao⟩ hz) fun r92 w11 _ _ ⟨Lx, hLx, hOx, hcx⟩ => ?_
  obtain ⟨r92, c92⟩ := r92
  dsimp only at hOx hcx ⊢
  rw [e1] at hOx hcx
  subst hcx
  have h := h.join hLx
  refine r_ldN _ (lb_ h) ?_
  refine r_ldA h.pl1 0 rfl rfl (by simp [hkko.1]) ?_
  refine r_call h (c_impl_AncestorsOf (bk_ h) ⟨rfl, hkko⟩ hz) fun r98 w12 _ _ ⟨Ly, hLy, hOy, hcy⟩ => ?_
  obtain ⟨r98, c98⟩ := r98
  dsimp only at hOy hcy ⊢
  rw [e2] at hOy hcy
  subst hcy
  have h := h.join hLy
  refine r_ldN _ (lb_ h) ?_
  refine r_ldA h.pl2 1 rfl rfl (by simp [hao.1]) ?_
  refine r_ldA h.pl2 0 rfl rfl (by simp [hkko.1]) ?_
  refine r_call h (c_impl_BasesOf (bk_ h) ⟨rfl, hao⟩ ⟨rfl, hkko⟩ hz) fun r105 w13 _ _ ⟨Lb, hLb, hOb, hcb⟩ => ?_
  obtain ⟨r105, c105⟩ := r105
  dsimp only at hOb hcb ⊢
  rw [e3] at hOb hcb
  subst hcb
  have h := h.join hLb
  refine r_ldN _ (lb_ h) ?_
  refine r_ldA h.pl3 0 rfl rfl (by simp [hkko.1]) ?_
  refine r_ldA h.pl3 1 rfl rfl (by simp [hao.1]) ?_
  refine r_call h (c_impl_BasesOf (bk_ h) ⟨rfl, hkko⟩ ⟨rfl, hao⟩ hz) fun r112 w14 _ _ ⟨Lo, hLo, hOo, hco⟩ => ?_
  obtain ⟨r112, c112⟩ := r112
  dsimp only at hOo hco ⊢
  rw [e4] at hOo hco
  subst hco
  have h := h.join hLo
  refine r_ldN _ (lb_ h) ?_
  refine r_ldA h.pl4 1 rfl rfl (by simp [hao.1]) ?_
  refine r_ldA h.pl4 0 rfl rfl (by simp [hkko.1]) ?_
  refine r_call h (c_impl_IsAncestor (bk_ h) ⟨rfl, hao⟩ ⟨rfl, hkko⟩ hz) fun r119 w15 h _ ⟨hy119, hc119⟩ => ?_
  obtain ⟨r119, c119⟩ := r119
  dsimp only at hy119 hc119 ⊢
  rw [e5] at hy119 hc119
  subst hy119
  subst hc119
  refine r_ldN _ (lb_ h) ?_
  refine r_ldA h.pl4 1 rfl rfl (by simp [hao.1]) ?_
  refine r_ldA h.pl4 0 rfl rfl (by simp [hkko.1]) ?_
  refine r_call h (c_impl_WayTo (bk_ h) ⟨rfl, hao⟩ ⟨rfl, hkko⟩ hz) fun r126 w16 _ _ ⟨Lw, hLw, hOw, hcw⟩ => ?_
  obtain ⟨r126, c126⟩ := r126
  dsimp only at hOw hcw ⊢
  rw [e6] at hOw hcw
  have h := h.join hLw
  have x_ : ∀ {v : World} {V : List Blk}, At wk v (V ++ (Lw ++ (Lo ++ (Lb ++ (Ly ++ (Lx ++ ([(b12, (u8s k).toArray, ty_impl_Key), (b10, (u8s a).toArray, ty_impl_Key)] ++ []))))))) → KsR v r92 (ancB bk a) := fun h => hOx.ks h ((List.sublist_append_left _ _).trans ((List.sublist_append_right _ _).trans ((List.sublist_append_right _ _).trans ((List.sublist_append_right _ _).trans ((List.sublist_append_right _ _).trans (List.sublist_append_right _ _))))))
  have y_ : ∀ {v : World} {V : List Blk}, At wk v (V ++ (Lw ++ (Lo ++ (Lb ++ (Ly ++ (Lx ++ ([(b12, (u8s k).toArray, ty_impl_Key), (b10, (u8s a).toArray, ty_impl_Key)] ++ []))))))) → KsR v r98 (ancB bk k) := fun h => hOy.ks h ((List.sublist_append_left _ _).trans ((List.sublist_append_right _ _).trans ((List.sublist_append_right _ _).trans ((List.sublist_append_right _ _).trans (List.sublist_append_right _ _)))))
  have b_ : ∀ {v : World} {V : List Blk}, At wk v (V ++ (Lw ++ (Lo ++ (Lb ++ (Ly ++ (Lx ++ ([(b12, (u8s k).toArray, ty_impl_Key), (b10, (u8s a).toArray, ty_impl_Key)] ++ []))))))) → KsR v r105 (basesB bk a k) := fun h => hOb.ks h ((List.sublist_append_left _ _).trans ((List.sublist_append_right _ _).trans ((List.sublist_append_right _ _).trans (List.sublist_append_right _ _))))
  have o_ : ∀ {v : World} {V : List Blk}, At wk v (V ++ (Lw ++ (Lo ++ (Lb ++ (Ly ++ (Lx ++ ([(b12, (u8s k).toArray, ty_impl_Key), (b10, (u8s a).toArray, ty_impl_Key)] ++ []))))))) → KsR v r112 (basesB bk k a) := fun h => hOo.ks h ((List.sublist_append_left _ _).trans ((List.sublist_append_right _ _).trans (List.sublist_append_right _ _)))
  have hxl := ancB_len hv haK
  have hyl := ancB_len hv hkK
  have hbl := basesB_len hv haK k
  have hxn : r92.n = (ancB bk a).length := hOx.n
  have hyn : r98.n = (ancB bk k).length := hOy.n
  have hbn : r105.n = (basesB bk a k).length := hOb.n
  have hself : a ∈ ancB bk a := (ancB_mem hv haK a).2 .self
  have hbub : Tryz.prog.underlying ty_bool = some .bool := by kernel_rfl
  refine r_join (σ := Unit) (fun _ w' => At wk w' ([] ++ (Lw ++ (Lo ++ (Lb ++ (Ly ++ (Lx ++ ([(b12, (u8s k).toArray, ty_impl_Key), (b10, (u8s a).toArray, ty_impl_Key)] ++ [])))))))) (fun _ w17 h => ?_) ?_
  · refine r_any fun _ => ?_
    refine r_loop (σ := Int) (fun st w' => ∃ n : Nat, st = n ∧ n ≤ cr.ps.length ∧ At wk w' ([] ++ (Lw ++ (Lo ++ (Lb ++ (Ly ++ (Lx ++ ([(b12, (u8s k).toArray, ty_impl_Key), (b10, (u8s a).toArray, ty_impl_Key)] ++ [])))))))) (fun st _ => (cr.d.n - st).toNat) 0 rfl ⟨0, rfl, by omega, h⟩ ?_
    clear h
    rintro n w18 ⟨n, rfl, hn, h⟩
    refine r_any fun _ => ?_
    dsimp only
    have hdn := hks.n
    have hp3 : cr.ps.length ≤ 3 := hoc.2.1
    have row2_ : ∀ {v : World} {X : List Blk}, At wk v X → KsR v cr.d cr.ps ∧ ldOk v 1 ((q.add (i * 35)).add 32) .slice cr.d := fun h => by
      obtain ⟨cr', q', hcr', hq', _, hks', hcma', _⟩ := row_ i hi h
      rw [hcr] at hcr'
      cases hcr'
      rw [hq] at hq'
      cases hq'
      exact ⟨hks', hcma'.d⟩
    refine r_ldN (sh := .slice) s (l0_ h) ?_
    refine r_ix q hq (by omega) (by omega) ?_
    simp only [Int.toNat_natCast]
    refine r_ldN (sh := .slice) cr.d (row2_ h).2 ?_
    refine r_if ((n : Int) < (cr.d.n : Int)) rfl (fun hlt => ?_) (fun hge => ?_)
    · obtain ⟨pk, qk, hpk, hpkm, hqk, hpko, hpkl⟩ := (row2_ h).1.get (i := n) (by omega)
      have hpp := hpa n pk hpk
      have hpK := (pars_mem hv haK hpp).1
      have op : openCode bk [pk] = 0 := open_ok hv (by simpa using hpK)
      have ep : ancAns bk pk = (ancB bk pk, 0) := by unfold ancAns; rw [if_pos op]
      refine r_join (σ := Sl × Int) (fun x w' => ∃ Lu, OwnKeyS x.1 (ancB bk pk) Lu ∧ x.2 = 0 ∧ At wk w' (Lu ++ (Lw ++ (Lo ++ (Lb ++ (Ly ++ (Lx ++ ([(b12, (u8s k).toArray, ty_impl_Key), (b10, (u8s a).toArray, ty_impl_Key)] ++ [])))))))) (fun x w19 hJ => ?_) ?_
      · obtain ⟨su, cu⟩ := x
        obtain ⟨Lu, hOu, hcu, h⟩ := hJ
        dsimp only at hOu hcu
        subst hcu
        refine r_any fun _ => ?_
        dsimp only
        refine r_false rfl ?_
        have hun := hOu.n
        have hul := ancB_len hv hpK
        refine r_loop (σ := Int) (fun st w' => ∃ m : Nat, st = m ∧ m ≤ (ancB bk pk).length ∧ At wk w' (Lu ++ (Lw ++ (Lo ++ (Lb ++ (Ly ++ (Lx ++ ([(b12, (u8s k).toArray, ty_impl_Key), (b10, (u8s a).toArray, ty_impl_Key)] ++ [])))))))) (fun st _ => (su.n - st).toNat) 0 rfl ⟨0, rfl, by omega, h⟩ ?_
        clear h
        rintro m w20 ⟨m, rfl, hm, h⟩
        refine r_any fun _ => ?_
        refine r_if ((m : Int) < (su.n : Int)) rfl (fun hlt2 => ?_) (fun hge2 => ?_)
        · obtain ⟨z, qz, hz2, hzm, hqz, hzo, hzl⟩ := (hOu.ks h (List.sublist_append_left _ _)).get (i := m) (by omega)
          refine r_ix qz hqz (by omega) (by omega) ?_
          simp only [Int.toNat_natCast]
          refine r_ldN (u8s z).toArray hzl ?_
          refine r_call h (c_a2Has (x_ h) hzo (by omega)) fun r212 w21 h _ hr => ?_
          subst hr
          have hin : z ∈ ancB bk a := (ancB_mem hv haK z).2 (AncOf.trans (.up .self hpp) ((ancB_mem hv hpK z).1 hzm))
          refine r_false (by rw [decide_eq_true hin]; rfl) ?_
          exact ⟨((m + 1 : Nat) : Int), by rw [w64 (by omega) (by omega)]; rfl, ⟨m + 1, rfl, by omega, h⟩, by omega⟩
        · exact ⟨((n + 1 : Nat) : Int), by rw [w64 (by omega) (by omega)]; rfl, ⟨n + 1, rfl, by omega, h.right⟩, by omega⟩
      · refine r_draw h fun w19 h => ?_
        refine r_ldN _ (lb_ h) ?_
        refine r_ldN (sh := .slice) s (l0_ h) ?_
        refine r_ix q hq (by omega) (by omega) ?_
        simp only [Int.toNat_natCast]
        refine r_ldN (sh := .slice) cr.d (row2_ h).2 ?_
        refine r_ix qk hqk (by omega) (by omega) ?_
        simp only [Int.toNat_natCast]
        obtain ⟨pk', qk', hpk', _, hqk', _, hpkl'⟩ := (row2_ h).1.get (i := n) (by omega)
        rw [hpk] at hpk'
        cases hpk'
        rw [hqk] at hqk'
        cases hqk'
        refine r_ldN (u8s pk).toArray hpkl' ?_
        refine r_call h (c_spec_AncestorsOf (bk_ h) ⟨rfl, hpko⟩ hz) fun r196 w20 h20 _ ⟨Lu, hLu, hOu, hcu⟩ => ?_
        obtain ⟨r196, c196⟩ := r196
        dsimp only at hOu hcu ⊢
        rw [ep] at hOu hcu
        subst hcu
        refine r_chk2 (row2_ h20).2 (l0_ h20) ?_
        exact ⟨(r196, 0), rfl, Lu, hOu, rfl, h.join hLu⟩
    · refine r_loop (σ := Int × Int) (fun st w' => ∃ n : Nat, st.2 = n ∧ n ≤ (ancB bk a).length ∧ 0 ≤ st.1 ∧ st.1 ≤ n ∧ (st.1 = 0 → ∀ m z, m < n → (ancB bk a)[m]? = some z → z ∉ ancB bk k) ∧ At wk w' ([] ++ (Lw ++ (Lo ++ (Lb ++ (Ly ++ (Lx ++ ([(b12, (u8s k).toArray, ty_impl_Key), (b10, (u8s a).toArray, ty_impl_Key)] ++ [])))))))) (fun st _ => (r92.n - st.2).toNat) (0, 0) rfl ⟨0, rfl, by omega, by omega, by omega, fun _ m z hm => by omega, h⟩ ?_
      clear h
      rintro ⟨c, n⟩ w21 ⟨n, hn0, hn, hc0, hc1, hcn, h⟩
      dsimp only at hn0 hc0 hc1 hcn
      subst hn0
      refine r_any fun _ => ?_
      dsimp only
      refine r_if ((n : Int) < (r92.n : Int)) rfl (fun hlt => ?_) (fun hge2 => ?_)
      · obtain ⟨x, qx, hx, hxm, hqx, hxo, _⟩ := (x_ h).get (i := n) (by omega)
        have lx_ : ∀ {v : World} {V : List Blk}, At wk v (V ++ (Lw ++ (Lo ++ (Lb ++ (Ly ++ (Lx ++ ([(b12, (u8s k).toArray, ty_impl_Key), (b10, (u8s a).toArray, ty_impl_Key)] ++ []))))))) → ldOk v 32 (qx.add (n * 32)) .agg (u8s x).toArray := fun h => by
          obtain ⟨x2, q2, hx2, _, hq2, _, hl2⟩ := (x_ h).get (i := n) (by omega)
          rw [hx] at hx2
          cases hx2
          rw [hqx] at hq2
          cases hq2
          exact hl2
        have hxK := ancB_sub hv haK hxm
        refine r_join (σ := Unit) (fun _ w' => At wk w' ([] ++ (Lw ++ (Lo ++ (Lb ++ (Ly ++ (Lx ++ ([(b12, (u8s k).toArray, ty_impl_Key), (b10, (u8s a).toArray, ty_impl_Key)] ++ [])))))))) (fun _ w22 h => ?_) ?_
        · refine r_any fun _ => ?_
          refine r_ix qx hqx (by omega) (by omega) ?_
          simp only [Int.toNat_natCast]
          refine r_ldN (u8s x).toArray (lx_ h) ?_
          refine r_call h (c_a2Has (y_ h) hxo (by omega)) fun r240 w23 h _ hr => ?_
          subst hr
          by_cases hxy : x ∈ ancB bk k
          · refine r_false (by rw [decide_eq_true hxy]; rfl) ?_
            refine r_loop (σ := Bool × Int) (fun st w' => ∃ m : Nat, st.2 = m ∧ m ≤ (basesB bk a k).length ∧ st.1 = ((basesB bk a k).take m).any (fun y => decide (x ∈ ancB bk y)) ∧ At wk w' ([] ++ (Lw ++ (Lo ++ (Lb ++ (Ly ++ (Lx ++ ([(b12, (u8s k).toArray, ty_impl_Key), (b10, (u8s a).toArray, ty_impl_Key)] ++ [])))))))) (fun st _ => (r105.n - st.2).toNat) (false, 0) rfl ⟨0, rfl, by omega, by simp, h⟩ ?_
            clear h
            rintro ⟨bl, m⟩ w24 ⟨m, hm0, hm2, hbel, h⟩
            dsimp only at hm0 hbel
            subst hm0
            refine r_any fun _ => ?_
            dsimp only
            refine r_if ((m : Int) < (r105.n : Int)) rfl (fun hlt2 => ?_) (fun hge3 => ?_)
            · obtain ⟨y, qy, hy, hym, hqy, hyo, _⟩ := (b_ h).get (i := m) (by omega)
              have ly_ : ∀ {v : World} {V : List Blk}, At wk v (V ++ (Lw ++ (Lo ++ (Lb ++ (Ly ++ (Lx ++ ([(b12, (u8s k).toArray, ty_impl_Key), (b10, (u8s a).toArray, ty_impl_Key)] ++ []))))))) → ldOk v 32 (qy.add (m * 32)) .agg (u8s y).toArray := fun h => by
                obtain ⟨y2, q2, hy2, _, hq2, _, hl2⟩ := (b_ h).get (i := m) (by omega)
                rw [hy] at hy2
                cases hy2
                rw [hqy] at hq2
                cases hq2
                exact hl2
              have hyK := bothB_sub hv haK (mem_bases.1 hym).1
              have oxy : openCode bk [x, y] = 0 := open_ok hv (by simp [hxK, hyK])
              have exy : isAncAns bk x y = (decide (x ∈ ancB bk y), 0) := by unfold isAncAns; rw [if_pos oxy]
              have hany : ((basesB bk a k).take (m + 1)).any (fun y => decide (x ∈ ancB bk y)) = (bl || decide (x ∈ ancB bk y)) := by
                rw [take_succ_get hy, List.any_append, ← hbel]
                simp
              have nx_ : ∀ {v : World}, At wk v ([] ++ (Lw ++ (Lo ++ (Lb ++ (Ly ++ (Lx ++ ([(b12, (u8s k).toArray, ty_impl_Key), (b10, (u8s a).toArray, ty_impl_Key)] ++ []))))))) → ∃ s' : Bool × Int, embL [.bool, .int .i64] s' = [Value.bool (bl || decide (x ∈ ancB bk y)), .int .i64 (IntKind.wrap .i64 ((m : Int) + 1))] ∧ (∃ m : Nat, s'.2 = m ∧ m ≤ (basesB bk a k).length ∧ s'.1 = ((basesB bk a k).take m).any (fun y => decide (x ∈ ancB bk y)) ∧ At wk v ([] ++ (Lw ++ (Lo ++ (Lb ++ (Ly ++ (Lx ++ ([(b12, (u8s k).toArray, ty_impl_Key), (b10, (u8s a).toArray, ty_impl_Key)] ++ [])))))))) ∧ ((r105.n : Int) - s'.2).toNat < ((r105.n : Int) - (m : Int)).toNat := fun h =>
                ⟨(bl || decide (x ∈ ancB bk y), ((m + 1 : Nat) : Int)), by rw [w64 (by omega) (by omega)]; rfl, ⟨m + 1, rfl, by omega, hany.symm, h⟩, by dsimp only; omega⟩
              refine r_join (σ := Bool × Int) (fun z w' => z = (decide (x ∈ ancB bk y), 0) ∧ At wk w' ([] ++ (Lw ++ (Lo ++ (Lb ++ (Ly ++ (Lx ++ ([(b12, (u8s k).toArray, ty_impl_Key), (b10, (u8s a).toArray, ty_impl_Key)] ++ [])))))))) (fun z w25 hJ => ?_) ?_
              · obtain ⟨rfl, h⟩ := hJ
                refine r_any fun _ => ?_
                dsimp only
                refine r_false rfl ?_
                refine r_join (σ := Bool) (fun z w' => z = (bl || decide (x ∈ ancB bk y)) ∧ At wk w' ([] ++ (Lw ++ (Lo ++ (Lb ++ (Ly ++ (Lx ++ ([(b12, (u8s k).toArray, ty_impl_Key), (b10, (u8s a).toArray, ty_impl_Key)] ++ [])))))))) (fun z w26 hJ => ?_) ?_
                · obtain ⟨rfl, h⟩ := hJ
                  refine r_any fun _ => ?_
                  refine r_draw h fun w27 h => ?_
                  by_cases hup : x ∈ ancB bk y
                  · refine r_true (decide_eq_true hup) ?_
                    have hno : x ≠ y → x ∉ basesB bk a k := fun hne hxb => base_alone hxb hym hne hup
                    refine r_ix qx hqx (by omega) (by omega) ?_
                    simp only [Int.toNat_natCast]
                    refine r_ix qy hqy (by omega) (by omega) ?_
                    simp only [Int.toNat_natCast]
                    refine r_all2 ?_ ?_
                    · refine r_ldN (u8s x).toArray (lx_ h) ?_
                      refine r_ldN (u8s y).toArray (ly_ h) ?_
                      refine r_rootEq hxo.1 hyo.1 (fun hne => ?_) (fun heq => nx_ h)
                      refine r_ix qx hqx (by omega) (by omega) ?_
                      simp only [Int.toNat_natCast]
                      refine r_ldN (u8s x).toArray (lx_ h) ?_
                      refine r_call h (c_a2Has (b_ h) hxo (by omega)) fun r287 w28 h _ hr => ?_
                      subst hr
                      refine r_false (decide_eq_false (hno hne)) ?_
                      exact nx_ h
                    · refine r_ldN (u8s y).toArray (ly_ h) ?_
                      refine r_ldN (u8s x).toArray (lx_ h) ?_
                      refine r_rootEq hxo.1 hyo.1 (fun hne => ?_) (fun heq => nx_ h)
                      refine r_ix qx hqx (by omega) (by omega) ?_
                      simp only [Int.toNat_natCast]
                      refine r_ldN (u8s x).toArray (lx_ h) ?_
                      refine r_call h (c_a2Has (b_ h) hxo (by omega)) fun r287 w28 h _ hr => ?_
                      subst hr
                      refine r_false (decide_eq_false (hno hne)) ?_
                      exact nx_ h
                  · refine r_false (decide_eq_false hup) ?_
                    exact r_all2 (nx_ h) (nx_ h)
                · cases bl with
                  | true =>
                    refine r_true rfl ?_
                    exact ⟨true, rfl, by simp, h⟩
                  | false =>
                    refine r_false rfl ?_
                    exact ⟨decide (x ∈ ancB bk y), rfl, by simp, h⟩
              · refine r_draw h fun w25 h => ?_
                refine r_ldN _ (lb_ h) ?_
                refine r_ix qx hqx (by omega) (by omega) ?_
                simp only [Int.toNat_natCast]
                refine r_ldN (u8s x).toArray (lx_ h) ?_
                refine r_ix qy hqy (by omega) (by omega) ?_
                simp only [Int.toNat_natCast]
                refine r_ldN (u8s y).toArray (ly_ h) ?_
                refine r_call h (c_spec_IsAncestor (bk_ h) ⟨rfl, hxo⟩ ⟨rfl, hyo⟩ hz) fun r260 w26 h _ ⟨h1, h2⟩ => ?_
                obtain ⟨r260, c260⟩ := r260
                dsimp only at h1 h2 ⊢
                rw [exy] at h1 h2
                subst h1
                subst h2
                exact ⟨(decide (x ∈ ancB bk y), 0), rfl, rfl, h⟩
            · rw [List.take_of_length_le (by omega)] at hbel
              have hb1 : bl = true := by
                obtain ⟨y, hy, hxy2⟩ := base_exists hv haK hxm hxy
                rw [hbel]
                exact List.any_eq_true.2 ⟨y, hy, decide_eq_true hxy2⟩
              refine r_false (by rw [hb1]; rfl) ?_
              exact ⟨(c + 1, ((n + 1 : Nat) : Int)), by rw [w64 (by omega) (by omega), w64 (by omega) (by omega)]; rfl, ⟨n + 1, rfl, by omega, by dsimp only; omega, by dsimp only; omega, fun hh => by dsimp only at hh; omega, h⟩, by dsimp only; omega⟩
          · refine r_true (by rw [decide_eq_false hxy]; rfl) ?_
            refine ⟨(c, ((n + 1 : Nat) : Int)), by rw [w64 (by omega) (by omega)]; rfl, ⟨n + 1, rfl, by omega, by dsimp only; omega, by dsimp only; omega, fun hh m z hm2 hz2 => ?_, h⟩, by dsimp only; omega⟩
            rcases Nat.lt_or_ge m n with h3 | h3
            · exact hcn hh m z h3 hz2
            · have : m = n := by omega
              subst this
              rw [hx] at hz2
              cases hz2
              exact hxy
        · refine r_draw h fun w22 h => ?_
          refine r_if ((n : Int) > 0) rfl (fun hpos2 => ?_) (fun hz2 => ?_)
          · have e7 : IntKind.wrap .i64 ((n : Int) - 1) = ((n - 1 : Nat) : Int) := by rw [w64 (by omega) (by omega)]; omega
            rw [e7]
            obtain ⟨x0, q0, hx0, _, hq0, hx0o, hl0⟩ := (x_ h).get (i := n - 1) (by omega)
            rw [hqx] at hq0
            cases hq0
            have hcmp : cmpL x0 x = -1 := by
              have hlt3 := List.pairwise_iff_getElem.1 (ancB_asc bk a) (n - 1) n (by omega) (by omega) (by omega)
              rw [(List.getElem?_eq_some_iff.1 hx0).2, (List.getElem?_eq_some_iff.1 hx).2] at hlt3
              have hlt4 : cmpL x0 x < 0 := hlt3
              rcases cmpL_range x0 x with h5 | h5 | h5 <;> omega
            refine r_ix qx hqx (by omega) (by omega) ?_
            simp only [Int.toNat_natCast]
            refine r_ix qx hqx (by omega) (by omega) ?_
            simp only [Int.toNat_natCast]
            refine r_all2 ?_ ?_
            · refine r_ldN (u8s x0).toArray hl0 ?_
              refine r_ldN (u8s x).toArray (lx_ h) ?_
              refine r_call h (c_CompareKeys ⟨rfl, hx0o⟩ ⟨rfl, hxo⟩) fun r232 w23 h _ hr => ?_
              subst hr
              rw [hcmp]
              refine r_false rfl ?_
              exact ⟨(), rfl, h⟩
            · refine r_ldN (u8s x).toArray (lx_ h) ?_
              refine r_ldN (u8s x0).toArray hl0 ?_
              refine r_call h (c_CompareKeys ⟨rfl, hx0o⟩ ⟨rfl, hxo⟩) fun r232 w23 h _ hr => ?_
              subst hr
              rw [hcmp]
              refine r_false rfl ?_
              exact ⟨(), rfl, h⟩
          · exact r_all2 ⟨(), rfl, h⟩ ⟨(), rfl, h⟩
      · refine r_join (σ := Unit) (fun _ w' => At wk w' ([] ++ (Lw ++ (Lo ++ (Lb ++ (Ly ++ (Lx ++ ([(b12, (u8s k).toArray, ty_impl_Key), (b10, (u8s a).toArray, ty_impl_Key)] ++ [])))))))) (fun _ w22 h => ?_) ?_
        · refine r_any fun _ => ?_
          refine r_loop (σ := Int) (fun st w' => ∃ m : Nat, st = m ∧ m ≤ (basesB bk a k).length ∧ At wk w' ([] ++ (Lw ++ (Lo ++ (Lb ++ (Ly ++ (Lx ++ ([(b12, (u8s k).toArray, ty_impl_Key), (b10, (u8s a).toArray, ty_impl_Key)] ++ [])))))))) (fun st _ => (r105.n - st).toNat) 0 rfl ⟨0, rfl, by omega, h⟩ ?_
          clear h
          rintro m w23 ⟨m, rfl, hm2, h⟩
          refine r_any fun _ => ?_
          refine r_if ((m : Int) < (r105.n : Int)) rfl (fun hlt2 => ?_) (fun hge3 => ?_)
          · obtain ⟨y, qy, hy, hym, hqy, hyo, hyl2⟩ := (b_ h).get (i := m) (by omega)
            have hyb := mem_both.1 (mem_bases.1 hym).1
            refine r_ix qy hqy (by omega) (by omega) ?_
            simp only [Int.toNat_natCast]
            refine r_ldN (u8s y).toArray hyl2 ?_
            refine r_call h (c_a2Has (x_ h) hyo (by omega)) fun r309 w24 h _ hr => ?_
            subst hr
            refine r_false (by rw [decide_eq_true hyb.1]; rfl) ?_
            obtain ⟨y2, q2, hy2, _, hq2, _, hl2⟩ := (b_ h).get (i := m) (by omega)
            rw [hy] at hy2
            cases hy2
            refine r_ix q2 hq2 (by omega) (by omega) ?_
            simp only [Int.toNat_natCast]
            refine r_ldN (u8s y).toArray hl2 ?_
            refine r_call h (c_a2Has (y_ h) hyo (by omega)) fun r317 w25 h _ hr => ?_
            subst hr
            refine r_false (by rw [decide_eq_true hyb.2]; rfl) ?_
            exact ⟨((m + 1 : Nat) : Int), by rw [w64 (by omega) (by omega)]; rfl, ⟨m + 1, rfl, by omega, h⟩, by omega⟩
          · by_cases hyes : a ∈ ancB bk k
            · rw [if_pos hyes] at hOw hcw
              dsimp only at hOw hcw
              subst hcw
              refine r_false (by rw [decide_eq_true hyes]; rfl) ?_
              obtain ⟨hhead, hlast, hchain, hwk⟩ := (wayB_way hv haK hkK).resolve_left ((wayB_ne hv haK hkK).2 hyes)
              have hwn := hOw.n
              have hwl : (wayB bk a k).length ≤ 41 := by
                have := waysW_len bk a bk.cms.length (ixK (keysB bk) k)
                show (waysW bk a bk.cms.length (ixK (keysB bk) k)).length ≤ 41
                omega
              have hw1 : 1 ≤ (wayB bk a k).length := by
                cases hwb : wayB bk a k with
                | nil => rw [hwb] at hhead; cases hhead
                | cons _ _ => simp
              have w_ : ∀ {v : World} {V : List Blk}, At wk v (V ++ (Lw ++ (Lo ++ (Lb ++ (Ly ++ (Lx ++ ([(b12, (u8s k).toArray, ty_impl_Key), (b10, (u8s a).toArray, ty_impl_Key)] ++ []))))))) → KsR v r126 (wayB bk a k) := fun h => hOw.ks h ((List.sublist_append_left _ _).trans (List.sublist_append_right _ _))
              refine r_join (σ := Unit) (fun _ w' => At wk w' ([] ++ (Lw ++ (Lo ++ (Lb ++ (Ly ++ (Lx ++ ([(b12, (u8s k).toArray, ty_impl_Key), (b10, (u8s a).toArray, ty_impl_Key)] ++ [])))))))) (fun _ w24 h => ?_) ?_
              · refine r_any fun _ => ?_
                refine r_loop (σ := Int) (fun st w' => ∃ n : Nat, st = n ∧ 1 ≤ n ∧ n ≤ (wayB bk a k).length ∧ At wk w' ([] ++ (Lw ++ (Lo ++ (Lb ++ (Ly ++ (Lx ++ ([(b12, (u8s k).toArray, ty_impl_Key), (b10, (u8s a).toArray, ty_impl_Key)] ++ [])))))))) (fun st _ => (r126.n - st).toNat) 1 rfl ⟨1, rfl, by omega, hw1, h⟩ ?_
                clear h
                rintro n2 w25 ⟨n2, rfl, hn1, hn2, h⟩
                refine r_any fun _ => ?_
                dsimp only
                refine r_if ((n2 : Int) < (r126.n : Int)) rfl (fun hlt3 => ?_) (fun hge4 => ?_)
                · obtain ⟨u, qu, hu, hum, hqu, huo, hul⟩ := (w_ h).get (i := n2) (by omega)
                  have huK := hwk u hum
                  have hui := ixK_lt huK
                  have ou : openCode bk [u] = 0 := open_ok hv (by simpa using huK)
                  refine r_join (σ := Int × Int) (fun z w' => z = ((ixK (keysB bk) u : Int), 0) ∧ At wk w' ([] ++ (Lw ++ (Lo ++ (Lb ++ (Ly ++ (Lx ++ ([(b12, (u8s k).toArray, ty_impl_Key), (b10, (u8s a).toArray, ty_impl_Key)] ++ [])))))))) (fun z w26 hJ => ?_) ?_
                  · obtain ⟨rfl, h⟩ := hJ
                    refine r_any fun _ => ?_
                    dsimp only
                    refine r_draw h fun w27 h => ?_
                    refine r_false rfl ?_
                    have e7 : IntKind.wrap .i64 ((n2 : Int) - 1) = ((n2 - 1 : Nat) : Int) := by rw [w64 (by omega) (by omega)]; omega
                    rw [e7]
                    obtain ⟨p, qp, hp, _, hqp, hpo, hpl⟩ := (w_ h).get (i := n2 - 1) (by omega)
                    have hpu : p ∈ parsB bk u := chain_get hchain hp (by rw [show n2 - 1 + 1 = n2 by omega]; exact hu)
                    obtain ⟨cr3, q3, hcr3, hq3, hko3, hks3, hcma3, hpc3, hoc3⟩ := row_ (ixK (keysB bk) u) (by omega) h
                    rw [hq] at hq3
                    cases hq3
                    have hps3 : cr3.ps = parsB bk u := congrArg PC.ps hpc3
                    have hp33 : cr3.ps.length ≤ 3 := hoc3.2.1
                    refine r_ix qp hqp (by omega) (by omega) ?_
                    simp only [Int.toNat_natCast]
                    refine r_all2 ?_ ?_
                    · refine r_ldN (sh := .slice) s (l0_ h) ?_
                      refine r_ix q hq (by omega) (by omega) ?_
                      simp only [Int.toNat_natCast]
                      refine r_all2 ?_ ?_
                      · refine r_ldN (sh := .slice) cr3.d hcma3.d ?_
                        refine r_ldN (u8s p).toArray hpl ?_
                        refine r_call h (c_a2Has hks3 hpo (by omega)) fun r377 w28 h _ hr => ?_
                        subst hr
                        refine r_false (by rw [hps3, decide_eq_true hpu]; rfl) ?_
                        exact ⟨((n2 + 1 : Nat) : Int), by rw [w64 (by omega) (by omega)]; rfl, ⟨n2 + 1, rfl, by omega, by omega, h⟩, by omega⟩
                      · refine r_ldN (u8s p).toArray hpl ?_
                        refine r_ldN (sh := .slice) cr3.d hcma3.d ?_
                        refine r_call h (c_a2Has hks3 hpo (by omega)) fun r377 w28 h _ hr => ?_
                        subst hr
                        refine r_false (by rw [hps3, decide_eq_true hpu]; rfl) ?_
                        exact ⟨((n2 + 1 : Nat) : Int), by rw [w64 (by omega) (by omega)]; rfl, ⟨n2 + 1, rfl, by omega, by omega, h⟩, by omega⟩
                    · refine r_ldN (u8s p).toArray hpl ?_
                      refine r_ldN (sh := .slice) s (l0_ h) ?_
                      refine r_ix q hq (by omega) (by omega) ?_
                      simp only [Int.toNat_natCast]
                      refine r_ldN (sh := .slice) cr3.d hcma3.d ?_
                      refine r_call h (c_a2Has hks3 hpo (by omega)) fun r377 w28 h _ hr => ?_
                      subst hr
                      refine r_false (by rw [hps3, decide_eq_true hpu]; rfl) ?_
                      exact ⟨((n2 + 1 : Nat) : Int), by rw [w64 (by omega) (by omega)]; rfl, ⟨n2 + 1, rfl, by omega, by omega, h⟩, by omega⟩
                  · refine r_draw h fun w26 h => ?_
                    refine r_ldN _ (lb_ h) ?_
                    refine r_ix qu hqu (by omega) (by omega) ?_
                    simp only [Int.toNat_natCast]
                    obtain ⟨u2, q2, hu2, _, hq2, _, hl2⟩ := (w_ h).get (i := n2) (by omega)
                    rw [hu] at hu2
                    cases hu2
                    rw [hqu] at hq2
                    cases hq2
                    refine r_ldN (u8s u).toArray hl2 ?_
                    refine r_call h (c_spec_FindCommit (bk_ h) ⟨rfl, huo⟩ hz) fun r360 w27 h _ ⟨h1, h2⟩ => ?_
                    obtain ⟨_, _, h3⟩ := h2 ou
                    obtain ⟨r360, c360⟩ := r360
                    dsimp only at h1 h3 ⊢
                    rw [ou] at h1
                    subst h1
                    subst h3
                    exact ⟨((ixK (keysB bk) u : Int), 0), rfl, rfl, h⟩
                · exact r_ret (hk0.join h).nil true rfl rfl
              · refine r_draw h fun w24 h => ?_
                refine r_false rfl ?_
                refine r_if ((r126.n : Int) < 1) rfl (fun hh => by omega) (fun _ => ?_)
                obtain ⟨u, qu, hu, _, hqu, huo, hul⟩ := (w_ h).get (i := 0) (by omega)
                have hua : u = a := by
                  rw [List.head?_eq_getElem?] at hhead
                  rw [hu] at hhead
                  exact Option.some.inj hhead
                refine r_ix qu hqu (by omega) (by omega) ?_
                refine r_ldN (u8s u).toArray hul ?_
                refine r_ldA h.pl6 1 rfl rfl (by simp [hao.1]) ?_
                refine r_rootEq huo.1 hao.1 (fun hne => absurd hua hne) (fun _ => ?_)
                have e7 : IntKind.wrap .i64 ((r126.n : Int) - 1) = ((r126.n - 1 : Nat) : Int) := by rw [w64 (by omega) (by omega)]; omega
                rw [e7]
                obtain ⟨z, qz, hz2, _, hqz, hzo, hzl⟩ := (w_ h).get (i := r126.n - 1) (by omega)
                have hzk : z = k := by
                  rw [List.getLast?_eq_getElem?, ← hwn, hz2] at hlast
                  exact Option.some.inj hlast
                refine r_ix qz hqz (by omega) (by omega) ?_
                simp only [Int.toNat_natCast]
                refine r_ldN (u8s z).toArray hzl ?_
                refine r_ldA h.pl6 0 rfl rfl (by simp [hkko.1]) ?_
                refine r_rootEq hzo.1 hkko.1 (fun hne => absurd hzk hne) (fun _ => ?_)
                exact ⟨(), rfl, h⟩
            · rw [if_neg hyes] at hcw
              dsimp only at hcw
              subst hcw
              refine r_true (by rw [decide_eq_false hyes]; rfl) ?_
              exact r_ret (hk0.join h).nil true rfl rfl
        · refine r_eq (fun hc2 => ?_) (fun hc2 => ?_)
          · have hbe : basesB bk a k = [] := List.eq_nil_iff_forall_not_mem.2 fun y hy => by
              have hyb := mem_both.1 (mem_bases.1 hy).1
              obtain ⟨m, hm2⟩ := List.mem_iff_getElem?.1 hyb.1
              have hml := (List.getElem?_eq_some_iff.1 hm2).1
              exact hcn hc2 m y (by omega) hm2 hyb.2
            refine r_if ((r105.n : Int) > 0) rfl (fun hh => by rw [hbe] at hbn; simp at hbn; omega) (fun _ => ?_)
            exact ⟨(), rfl, h⟩
          · exact ⟨(), rfl, h⟩
  · refine r_false rfl ?_
    refine r_false rfl ?_
    refine r_false rfl ?_
    refine r_false rfl ?_
    refine r_false rfl ?_
    refine r_false rfl ?_
    refine r_false rfl ?_
    have h : At wk w16 ([] ++ (Lw ++ (Lo ++ (Lb ++ (Ly ++ (Lx ++ ([(b12, (u8s k).toArray, ty_impl_Key), (b10, (u8s a).toArray, ty_impl_Key)] ++ []))))))) := h
    refine r_ldA h.pl6 1 rfl rfl (by simp [hao.1]) ?_
    refine r_call h (c_a2Has (x_ h) hao (by omega)) fun r158 w17 h _ hr => ?_
    subst hr
    refine r_false (by rw [decide_eq_true hself]; rfl) ?_
    refine r_ldA h.pl6 1 rfl rfl (by simp [hao.1]) ?_
    refine r_call h (c_a2Has (y_ h) hao (by omega)) fun r165 w18 h _ hr => ?_
    subst hr
    refine r_pur (sh := .bool) _ (fun w' => run_neqB hbub _ _ _ _ w') ?_
    refine r_false (by simp) ?_
    refine r_call h (c_SameKeys (b_ h) (o_ h) (by omega)) fun r171 w19 h _ hr => ?_
    subst hr
    refine r_false (by rw [decide_eq_true (basesB_comm a k)]; rfl) ?_
    exact ⟨(), rfl, h⟩)
end Go.Proofs.YtkifkdkjljcclaaGreat
