/- History: WayTo: the program's walk. History: WayTo: the reference's walk. History: HeadsOf: both sides. -/
import Derived.Test.YtkifkdkjljcclaaGreatPkLAnc37
import Derived.Test.YtkifkdkjljcclaaGreatPkLAnc34
namespace Go.Proofs.YtkifkdkjljcclaaGreat
open Go.Sx Go.RowKit

theorem c_impl_WayTo {w : World} {r q q' : Array Value} {b : PBk} {a k : List Int} (hr : RdBook w r b) (hqa : RdKey w q a) (hq : RdKey w q' k) (hz : sizeBook b ≤ 1073741824) :
    Ret Tryz.prog n_impl_WayTo [.agg r, .agg q, .agg q'] w [.slice, .int .i64] (fun x w' => ∃ L, At w w' L ∧ OwnKeyS x.1 (wayAns b a k).1 L ∧ x.2 = (wayAns b a k).2) := impl_WayTo_calls _ _ _ (by
  unfold impl_WayTo
  obtain ⟨rfl, ha⟩ := hqa
  obtain ⟨rfl, hk⟩ := hq
  obtain ⟨s, t, rfl, ⟨rs, hX, hs⟩, ⟨ms, hM, ht⟩⟩ := hr
  refine r_new (At.refl w) fun b3 w1 h => ?_
  refine r_new h fun b4 w2 h => ?_
  refine r_new h fun b5 w3 h => ?_
  have h : At w w3 ([(b5, (u8s k).toArray, ty_impl_Key), (b4, (u8s a).toArray, ty_impl_Key), (b3, bkC s t, ty_impl_Book)]) := h
  refine r_ldA h 2 rfl rfl rfl ?_
  refine r_ldA h 1 rfl rfl (by simp [ha.1]) ?_
  refine r_ldA h 0 rfl rfl (by simp [hk.1]) ?_
  refine r_bs2 T_sl_Key h (by simp [Value.cells, ha.1]) (by simp [Value.cells, hk.1]) (by omega) fun y14 w4 hy hyn => ?_
  refine r_call hy.at_ (c_open (hs.at hy.at_) (ht.at hy.at_) hX hM (KsR.two hy ha hk) hz (by simp)) fun r25 w5 h _ ⟨h1, h2⟩ => ?_
  obtain ⟨o, c⟩ := r25
  dsimp only at h1 h2 ⊢
  subst h1
  rcases Decidable.em (openCode b [a, k] = 0) with heq | hne
  · obtain ⟨hv, hin, bl, L, rfl, hL, hO⟩ := h2 heq
    have hkK := hin k (by simp)
    have haK := hin a (by simp)
    have h : At w w5 ([(b5, (u8s k).toArray, ty_impl_Key), (b4, (u8s a).toArray, ty_impl_Key), (b3, bkC s t, ty_impl_Book)] ++ (L ++ [])) := by rw [List.append_nil]; exact (hy.at_.join hL).swap
    rw [heq]
    refine r_join (σ := Int) (fun c w' => At w w' ([(b5, (u8s k).toArray, ty_impl_Key), (b4, (u8s a).toArray, ty_impl_Key), (b3, bkC s t, ty_impl_Book)] ++ (L ++ [])) ∧ ((c = 4 ∧ a ∉ ancB b k) ∨ (c = 0 ∧ a ∈ ancB b k))) (fun c w6 hJ => ?_) ?_
    · obtain ⟨h, hc⟩ := hJ
      refine r_any fun _ => ?_
      rcases hc with ⟨rfl, hno⟩ | ⟨rfl, hyes⟩
      · refine r_true rfl ?_
        exact r_ret h.nil (⟨none, 0, 0⟩, 4) rfl ⟨[], h.nil, by unfold wayAns; rw [if_pos heq, if_neg hno]; exact ⟨OwnKeyS.none, rfl⟩⟩
      refine r_false rfl ?_
      have hans : wayAns b a k = (wayB b a k, 0) := by unfold wayAns; rw [if_pos heq, if_pos hyes]
      rw [hans]
      obtain ⟨sk, Lk, rfl, hOk⟩ := hO
      have hsn := hs.n
      have hrl : rs.length = b.cms.length := by rw [← hX]; simp
      have h40 := hv.1.1
      have hKl := keysB_len b
      refine r_makeMap h fun rm w7 h hM hrm => ?_
      refine r_ldA h 1 rfl rfl (by simp [ha.1]) ?_
      refine r_ldA h 1 rfl rfl (by simp [ha.1]) ?_
      refine r_bs1M hM T_sl_Key h (by simp [Value.cells, ha.1]) (by omega) fun y43 w8 hy hyn hM => ?_
      obtain ⟨L1, hO1, h⟩ := hy.split
      have hO1 : OwnKeyS y43 [a] L1 := ⟨by simpa [Value.cells] using hO1, by simpa using ha⟩
      refine r_mapPut ut_mapS ut_Key tyOf_byte ha.1 h hM (MapIs.nil 0) hrm (by simp) fun w9 o9 m9 h hM hm hmn hlook => ?_
      have hW := WaysM.start haK hO1 (by simpa using hlook)
      refine r_ld h.pl1 2 (sh := .slice) (o := 0) rfl rfl s (by simp [bkC, Sh.emb]) rfl ?_
      refine r_loop (σ := Int) (fun st w' => ∃ (i : Nat) (LW : List Blk) (o : Obj) (m : List (List Int × Value)), st = i ∧ i ≤ rs.length ∧ At w w' (LW ++ ([(b5, (u8s k).toArray, ty_impl_Key), (b4, (u8s a).toArray, ty_impl_Key), (b3, bkC s t, ty_impl_Book)] ++ (([(bl, ledC s t sk, ty_impl_ledger)] ++ Lk) ++ []))) ∧ w'.heap[rm]? = some o ∧ MapIs o m ∧ (∀ p ∈ m, p.1.length = 32) ∧ WaysM (keysB b) (waysW b a i) m LW) (fun st _ => (s.n - st).toNat) 0 rfl
        ⟨0, L1, o9, m9, rfl, by omega, h, hM, hm, hmn, hW⟩ ?_
      clear h hM hm hmn hW hy hyn hlook hO1
      rintro i w10 ⟨i, LW, o, m, rfl, hi, h, hM, hm, hmn, hW⟩
      refine r_any fun _ => ?_
      dsimp only
      refine r_if ((i : Int) < (s.n : Int)) rfl (fun hlt => ?_) (fun hge => ?_)
      · obtain ⟨cr, p', hcr, hrm', hp', hko', hks', hcm'⟩ := (hs.at h).get (i := i) (by omega)
        have hcl := crcells_len hko'
        have hdn := hks'.n
        have hpc := comAt_row hX hcr
        have hps : cr.ps = (comAt b i).ps := congrArg PC.ps hpc
        have hp3 : cr.ps.length ≤ 3 := (rows_ok hX hv cr hrm').2.1
        have hzl : (cmC zero32 ⟨none, 0, 0⟩ 0 ⟨#[]⟩).length = 35 := cmC_len zero32_ok ..
        have hKi := keysB_get (b := b) (i := i) (by omega)
        have hoK : ckey (comAt b i) ∈ keysB b := List.mem_of_getElem? hKi
        have hoi : ixK (keysB b) (ckey (comAt b i)) = i := ixK_of (keysB_nodup hv) hKi
        have hoo := keysB_ok b _ hoK
        refine r_ix p' hp' (by omega) (by omega) ?_
        simp only [Int.toNat_natCast]
        refine r_ldN cr.cells.toArray hcm'.all ?_
        refine r_newM h hM fun b12 w11 h hM => ?_
        refine r_stAM hM hm.no h 0 rfl rfl (by simp [hcl]) (by simp [Value.cells]) (by simpa [CR.cells] using cmC_one _ _ _ _) fun w12 h hM => ?_
        have h : At w w12 ([(b12, cr.cells.toArray, ty_impl_Commit)] ++ (LW ++ ([(b5, (u8s k).toArray, ty_impl_Key), (b4, (u8s a).toArray, ty_impl_Key), (b3, bkC s t, ty_impl_Book)] ++ (([(bl, ledC s t sk, ty_impl_ledger)] ++ Lk) ++ [])))) := h
        refine r_dp rfl ?_
        refine r_ldN (sh := .slice) sk (ldOk_own (sh := .slice) h.pl3 0 rfl 2 rfl (by simp [Sh.emb])) ?_
        have hkk : KsR w12 sk (keysB b) := ownS_ks hOk h ((List.sublist_append_right _ _).trans ((List.sublist_append_left _ _).trans ((List.sublist_append_right _ _).trans ((List.sublist_append_right _ _).trans (List.sublist_append_right _ _))))) (keysB_ok b)
        obtain ⟨own, qo, hown, _, hqo, _, hol⟩ := hkk.get (i := i) (by omega)
        rw [hKi] at hown
        cases hown
        refine r_ix qo hqo (by omega) (by have := hkk.n; omega) ?_
        simp only [Int.toNat_natCast]
        refine r_ldN (u8s (ckey (comAt b i))).toArray hol ?_
        generalize hog : ckey (comAt b i) = own at hol hoK hoi hoo hKi ⊢
        refine r_newM h hM fun b13 w13 h hM => ?_
        refine r_stAM hM hm.no h 0 rfl rfl (by simp [hoo.1]) (by simp [Value.cells]) (by simpa using u8s_one) fun w14 h hM => ?_
        have h : At w w14 ([(b13, (u8s own).toArray, ty_impl_Key), (b12, cr.cells.toArray, ty_impl_Commit)] ++ (LW ++ ([(b5, (u8s k).toArray, ty_impl_Key), (b4, (u8s a).toArray, ty_impl_Key), (b3, bkC s t, ty_impl_Book)] ++ (([(bl, ledC s t sk, ty_impl_ledger)] ++ Lk) ++ [])))) := h
        refine r_ldN (sh := .slice) cr.d (cmAt_of hko' (ldOk_blk h 1 rfl (by simp [hcl]))).d ?_
        refine r_loop (σ := Int) (fun st w' => ∃ (j : Nat) (LW : List Blk) (o : Obj) (m : List (List Int × Value)), st = j ∧ j ≤ cr.ps.length ∧ At w w' ([(b13, (u8s own).toArray, ty_impl_Key), (b12, cr.cells.toArray, ty_impl_Commit)] ++ (LW ++ ([(b5, (u8s k).toArray, ty_impl_Key), (b4, (u8s a).toArray, ty_impl_Key), (b3, bkC s t, ty_impl_Book)] ++ (([(bl, ledC s t sk, ty_impl_ledger)] ++ Lk) ++ [])))) ∧ w'.heap[rm]? = some o ∧ MapIs o m ∧ (∀ p ∈ m, p.1.length = 32) ∧ WaysM (keysB b) (wayW b a i j) m LW) (fun st _ => (cr.d.n - st).toNat) 0 rfl
          ⟨0, LW, o, m, rfl, by omega, h, hM, hm, hmn, by rw [wayW_zero]; exact hW⟩ ?_
        clear h hM hm hmn hW
        rintro j w15 ⟨j, LW, o, m, rfl, hj, h, hM, hm, hmn, hW⟩
        refine r_any fun _ => ?_
        dsimp only
        refine r_if ((j : Int) < (cr.d.n : Int)) rfl (fun hlt2 => ?_) (fun hge2 => ?_)
        · obtain ⟨pk, qk, hpk, hpkm, hqk, hpko, hpkl⟩ := ((hs.ok cr hrm').2.at h).get (i := j) (by omega)
          refine r_ix qk hqk (by omega) (by omega) ?_
          simp only [Int.toNat_natCast]
          refine r_ldN (u8s pk).toArray hpkl ?_
          refine r_newM h hM fun b15 w16 h hM => ?_
          refine r_stAM hM hm.no h 0 rfl rfl (by simp [hpko.1]) (by simp [Value.cells]) (by simpa using u8s_one) fun w17 h hM => ?_
          have h : At w w17 ([(b15, (u8s pk).toArray, ty_impl_Key), (b13, (u8s own).toArray, ty_impl_Key), (b12, cr.cells.toArray, ty_impl_Commit)] ++ (LW ++ ([(b5, (u8s k).toArray, ty_impl_Key), (b4, (u8s a).toArray, ty_impl_Key), (b3, bkC s t, ty_impl_Book)] ++ (([(bl, ledC s t sk, ty_impl_ledger)] ++ Lk) ++ [])))) := h
          refine r_ldA h 0 rfl rfl (by simp [hpko.1]) ?_
          have hpp : (comAt b i).ps[j]? = some pk := by rw [← hps]; exact hpk
          have hpK : pk ∈ keysB b ∧ ixK (keysB b) pk < i := by
            have := pars_mem hv hoK (p := pk) (by show pk ∈ (comAt b (ixK (keysB b) own)).ps; rw [hoi]; exact List.mem_of_getElem? hpp)
            rwa [hoi] at this
          obtain ⟨sp, Lp, hsp, hLp, hlook⟩ := look_way hW hM hm hmn hpK.1 hpko
          rw [wayW_other (by omega)] at hsp hlook
          have hspl := waysW_len b a i (ixK (keysB b) pk)
          have hspn := hsp.n
          refine r_semL (l := [.slice, .bool]) (sp, decide (waysW b a i (ixK (keysB b) pk) ≠ [])) _ (hlook true) ?_
          refine r_join (σ := Unit) (fun _ w' => waysW b a i (ixK (keysB b) pk) ≠ [] ∧ own ≠ a ∧ At w w' ([(b15, (u8s pk).toArray, ty_impl_Key), (b13, (u8s own).toArray, ty_impl_Key), (b12, cr.cells.toArray, ty_impl_Commit)] ++ (LW ++ ([(b5, (u8s k).toArray, ty_impl_Key), (b4, (u8s a).toArray, ty_impl_Key), (b3, bkC s t, ty_impl_Book)] ++ (([(bl, ledC s t sk, ty_impl_ledger)] ++ Lk) ++ [])))) ∧ w'.heap[rm]? = some o) (fun _ w18 hJ => ?_) ?_
          · obtain ⟨hne, hia, h, hM⟩ := hJ
            refine r_any fun _ => ?_
            have hixa : i ≠ ixK (keysB b) a := fun hh => hia (by rw [← hoi] at hh; exact ixK_inj hoK haK hh)
            have hxok : ∀ x ∈ waysW b a i (ixK (keysB b) pk) ++ [own], keyOk x := fun x hx => by
              rcases List.mem_append.1 hx with hx | hx
              · exact hsp.2 x hx
              · rw [List.mem_singleton.1 hx]; exact hoo
            refine r_join (σ := Sl) (fun s45 w' => ∃ Ls, At w w' (Ls ++ ([(b15, (u8s pk).toArray, ty_impl_Key), (b13, (u8s own).toArray, ty_impl_Key), (b12, cr.cells.toArray, ty_impl_Commit)] ++ (LW ++ ([(b5, (u8s k).toArray, ty_impl_Key), (b4, (u8s a).toArray, ty_impl_Key), (b3, bkC s t, ty_impl_Book)] ++ (([(bl, ledC s t sk, ty_impl_ledger)] ++ Lk) ++ []))))) ∧ OwnKeyS s45 (waysW b a i (ixK (keysB b) pk) ++ [own]) Ls ∧ w'.heap[rm]? = some o) (fun s45 w19 hJ => ?_) ?_
            · obtain ⟨Ls, h, hOs, hM⟩ := hJ
              refine r_any fun _ => ?_
              refine r_ldA h.pl1 1 rfl rfl (by simp [hoo.1]) ?_
              obtain ⟨so2, Lo2, hso2, hLo2, hlook2⟩ := look_way hW hM hm hmn hoK hoo
              rw [hoi, wayW_own hixa] at hso2 hlook2
              refine r_semL (l := [.slice, .bool]) (so2, decide (curW b a i j ≠ [])) _ (hlook2 true) ?_
              have hstep := wayW_succ hpp hixa
              rw [hog] at hstep
              have hvia : viaW (waysW b a i) (keysB b) own (curW b a i j) pk = if curW b a i j = [] ∨ sooner (waysW b a i (ixK (keysB b) pk) ++ [own]) (curW b a i j) = true then waysW b a i (ixK (keysB b) pk) ++ [own] else curW b a i j := by unfold viaW; rw [if_neg hne]
              refine r_sooner h (hOs.ks h (List.sublist_append_left _ _)) (hso2.ks h (hLo2.trans ((List.sublist_append_left _ _).trans ((List.sublist_append_right _ _).trans (List.sublist_append_right _ _))))) (by rw [List.length_append]; simp; omega) (fun w20 h hb hyes2 => ?_) (fun w20 h hb hno2 => ?_)
              · have hM := hb.keeps hM
                rw [if_pos hyes2] at hvia
                refine r_ldA h.pl1 1 rfl rfl (by simp [hoo.1]) ?_
                refine r_mapPut ut_mapS ut_Key tyOf_byte hoo.1 h hM hm hrm hmn fun w21 o' m' h hM hm hmn hlook' => ?_
                have hW' := hW.put hoK hOs (by simp) hlook'
                rw [hoi, ← hvia, ← hstep] at hW'
                have h := At.tail h.pl1
                rw [← List.append_assoc Ls LW] at h
                exact ⟨((j + 1 : Nat) : Int), by rw [w64 (by omega) (by omega)]; rfl, ⟨j + 1, Ls ++ LW, o', m', rfl, by omega, h, hM, hm, hmn, hW'⟩, by omega⟩
              · have hM := hb.keeps hM
                rw [if_neg hno2] at hvia
                rw [hvia, ← wayW_own (j := j) hixa] at hstep
                have hsame : wayW b a i (j + 1) = wayW b a i j := by
                  rw [hstep]
                  funext n
                  unfold setW
                  split
                  · rename_i hn; rw [hn]
                  · rfl
                exact ⟨((j + 1 : Nat) : Int), by rw [w64 (by omega) (by omega)]; rfl, ⟨j + 1, LW, o, m, rfl, by omega, At.tail h.right, hM, hm, hmn, by rw [hsame]; exact hW⟩, by omega⟩
            · refine r_drawM h hM fun w19 h hM => ?_
              refine r_ldA h 1 rfl rfl (by simp [hoo.1]) ?_
              refine r_all2 ?_ ?_
              · refine r_call h (c_CloneKeys (hsp.ks h (hLp.trans ((List.sublist_append_left _ _).trans (List.sublist_append_right _ _)))) (by omega)) fun r81 w20 _ hb ⟨hS, hn81⟩ => ?_
                have hM := hb.keeps hM
                have hS := SlO.lift h hS
                refine r_chk1 (ldOk_blk hS.at_ 1 rfl (by simp [hoo.1])) ?_
                refine r_pushM hM hm.no T_sl_Key hS (v := .agg (u8s own).toArray) (by simp [Value.cells, hoo.1]) (by omega) (by simpa [Value.cells] using u8s_one) (by omega) (by omega) fun y84 w21 hS hn hM => ?_
                obtain ⟨Ls, hOs, h⟩ := hS.split
                exact ⟨y84, rfl, Ls, h, ⟨by simpa [Value.cells, List.flatMap_append] using hOs, hxok⟩, hM⟩
              · refine r_bs1M hM T_sl_Key h (v := .agg (u8s own).toArray) (by simp [Value.cells, hoo.1]) (by omega) fun y83 w20 hy hyn hM => ?_
                obtain ⟨Ly, hOy, h⟩ := hy.split
                refine r_call h (c_CloneKeys (hsp.ks h (hLp.trans ((List.sublist_append_left _ _).trans ((List.sublist_append_right _ _).trans (List.sublist_append_right _ _))))) (by omega)) fun r81 w21 _ hb ⟨hS, hn81⟩ => ?_
                have hM := hb.keeps hM
                have hS := SlO.lift h hS
                refine r_appendM hM hm.no T_sl_Key hS (hOy.sl hS.at_ (List.sublist_append_left _ _)) (by simpa [Value.cells] using u8s_one) (by omega) (by omega) fun y84 w22 hS hn hM => ?_
                obtain ⟨Ls, hOs, h⟩ := hS.split
                exact ⟨y84, rfl, Ls, h.dr1, ⟨by simpa [Value.cells, List.flatMap_append] using hOs, hxok⟩, hM⟩
          · by_cases hnone : waysW b a i (ixK (keysB b) pk) = []
            · refine r_true (by simp [hnone]) ?_
              exact ⟨((j + 1 : Nat) : Int), by rw [w64 (by omega) (by omega)]; rfl, ⟨j + 1, LW, o, m, rfl, by omega, At.tail h, hM, hm, hmn, by rw [wayW_same hpp hnone]; exact hW⟩, by omega⟩
            · refine r_false (by simp [hnone]) ?_
              refine r_ldA h 1 rfl rfl (by simp [hoo.1]) ?_
              refine r_ldA h.pl2 1 rfl rfl (by simp [ha.1]) ?_
              refine r_pur _ (fun w' => run_eql_key _ _ hoo.1 ha.1 w') ?_
              by_cases hia : own = a
              · refine r_true (decide_eq_true hia) ?_
                have hixa : i = ixK (keysB b) a := by rw [← hia, hoi]
                rw [wayW_at hixa] at hW
                exact ⟨((j + 1 : Nat) : Int), by rw [w64 (by omega) (by omega)]; rfl, ⟨j + 1, LW, o, m, rfl, by omega, At.tail h, hM, hm, hmn, by rw [wayW_at hixa]; exact hW⟩, by omega⟩
              · refine r_false (decide_eq_false hia) ?_
                exact ⟨(), rfl, hnone, hia, h, hM⟩
        · have hjl : j = (comAt b i).ps.length := by rw [← hps]; omega
          subst hjl
          rw [wayW_last] at hW
          exact ⟨((i + 1 : Nat) : Int), by rw [w64 (by omega) (by omega)]; rfl, ⟨i + 1, LW, o, m, rfl, by omega, h.right, hM, hm, hmn, hW⟩, by omega⟩
      · have hil : i = b.cms.length := by omega
        subst hil
        refine r_ldA h.pl1 0 rfl rfl (by simp [hk.1]) ?_
        obtain ⟨s', L', hs', hL', hlook⟩ := look_way hW hM hm hmn hkK hk
        refine r_semL (l := [.slice]) s' _ (hlook false) ?_
        exact r_ret h.nil (s', 0) rfl ⟨L', h.take _ (hL'.trans (List.sublist_append_left _ _)), hs', rfl⟩
    · refine r_true rfl ?_
      refine r_ldA h 1 rfl rfl (by simp [ha.1]) ?_
      refine r_ldA h 0 rfl rfl (by simp [hk.1]) ?_
      refine r_call h (c_led_isAncestor (hO.rd h ((List.sublist_append_left _ _).trans (List.sublist_append_right _ _)) (hs.at h) (ht.at h)) hX hv ha hkK) fun r34 w6 h _ hr => ?_
      subst hr
      by_cases hmem : a ∈ ancB b k
      · rw [decide_eq_true hmem]
        refine r_false rfl ?_
        exact ⟨0, rfl, h, .inr ⟨rfl, hmem⟩⟩
      · rw [decide_eq_false hmem]
        refine r_true rfl ?_
        exact ⟨4, rfl, h, .inl ⟨rfl, hmem⟩⟩
  · refine r_join (σ := Int) (fun c w' => At w w' [] ∧ c = openCode b [a, k]) (fun c w6 hJ => ?_) ?_
    · obtain ⟨h, rfl⟩ := hJ
      refine r_any fun _ => ?_
      refine r_ne (fun _ => ?_) (fun hh => absurd hh hne)
      exact r_ret h.nil (⟨none, 0, 0⟩, openCode b [a, k]) rfl ⟨[], h.nil, by unfold wayAns; rw [if_neg hne]; exact ⟨OwnKeyS.none, rfl⟩⟩
    · refine r_eq (fun hh => absurd hh hne) (fun _ => ?_)
      exact ⟨_, rfl, h.nil, rfl⟩)
end Go.Proofs.YtkifkdkjljcclaaGreat

namespace Go.Sx
end Go.Sx
namespace Go.Proofs.YtkifkdkjljcclaaGreat
open Go.Sx Go.RowKit

structure WaysA (W : Nat → List (List Int)) (vs : List Sl) (LW : List Blk) : Prop where
  own : ∀ j s, vs[j]? = some s → ∃ L, OwnKeyS s (W j) L ∧ L.Sublist LW
theorem WaysA.set {W : Nat → List (List Int)} {vs : List Sl} {LW Ls : List Blk} {x : List (List Int)} {s : Sl} (h : WaysA W vs LW) (n : Nat) (hs : OwnKeyS s x Ls) : WaysA (setW W n x) (vs.set n s) (Ls ++ LW) := ⟨fun j t ht => by
  rw [List.getElem?_set] at ht
  unfold setW
  by_cases hjn : n = j
  · rw [if_pos hjn] at ht
    rw [if_pos hjn.symm]
    split at ht
    · cases ht
      exact ⟨Ls, hs, List.sublist_append_left _ _⟩
    · cases ht
  · rw [if_neg hjn] at ht
    rw [if_neg (fun hh => hjn hh.symm)]
    obtain ⟨L, h1, h2⟩ := h.own j t ht
    exact ⟨L, h1, h2.trans (List.sublist_append_right _ _)⟩⟩
end Go.Proofs.YtkifkdkjljcclaaGreat

namespace Go.Proofs.YtkifkdkjljcclaaGreat
open Go.Sx Go.RowKit

theorem KsR.none (w : World) : KsR w ⟨Option.none, 0, 0⟩ [] := ⟨SlOf.nil (by omega), by simp⟩

theorem c_ContainsC {w0 w : World} {ls : List Blk} {s : Sl} {rs : List CR} (hA : At w0 w ls) (hs : CsR w s rs) (hmax : rs.length ≤ 1073741824) {g : FuncId} {cap : Array Value} (hg : isGo Tryz.prog g = true) (f : PC → Bool)
    (hf : ∀ (w' : World) (r : CR), At w0 w' ls → r ∈ rs → keyOk r.root → KsR w' r.d r.ps → Ret Tryz.prog g ((#[] : Array Value).toList ++ [.agg r.cells.toArray] ++ cap.toList) w' [.bool] (fun x _ => x = f r.pc)) :
    Ret Tryz.prog n_slices_ContainsFunc_sl_impl_Commit_impl_Commit [.slice s.a s.n s.c, .func (.func g) #[] cap] w [.bool] (fun x _ => x = (rs.map CR.pc).any f) := slices_ContainsFunc_sl_impl_Commit_impl_Commit_calls _ _ (by
  unfold slices_ContainsFunc_sl_impl_Commit_impl_Commit
  have ix : Ret Tryz.prog n_slices_IndexFunc_sl_impl_Commit_impl_Commit [.slice s.a s.n s.c, .func (.func g) #[] cap] w [.int .i64] (fun r _ => (0 ≤ r ∧ (rs.map CR.pc).any f = true) ∨ (r = -1 ∧ (rs.map CR.pc).any f = false)) := slices_IndexFunc_sl_impl_Commit_impl_Commit_calls _ _ (by
    unfold slices_IndexFunc_sl_impl_Commit_impl_Commit
    have hn := hs.n
    refine r_loop (σ := Int) (fun i w' => ∃ j : Nat, i = j ∧ j ≤ rs.length ∧ (∀ x ∈ rs.take j, f x.pc = false) ∧ At w w' []) (fun i _ => (s.n - i).toNat) 0 rfl ⟨0, rfl, by omega, by simp, At.refl w⟩ ?_
    rintro i w1 ⟨j, rfl, hj, hpre, h⟩
    refine r_any fun _ => ?_
    refine r_if ((j : Int) < (s.n : Int)) rfl (fun hlt => ?_) (fun hge => ?_)
    · obtain ⟨r, q, hr, hrm, hq, hko, hks, hcm⟩ := (hs.at h).get (i := j) (by omega)
      refine r_ix q hq (by omega) (by omega) ?_
      refine r_ldN r.cells.toArray (by simp only [Int.toNat_natCast]; exact hcm.all) ?_
      refine r_callV h hg (hf w1 r (hA.trans h.below) hrm hko hks) fun x w2 h2 _ hx => ?_
      subst hx
      refine r_cond (fun ht => ?_) (fun ht => ?_)
      · exact r_ret h2 (j : Int) rfl (.inl ⟨by show (0 : Int) ≤ j; omega, List.any_eq_true.2 ⟨r.pc, List.mem_map_of_mem hrm, ht⟩⟩)
      · refine ⟨((j + 1 : Nat) : Int), by rw [w64 (by omega) (by omega)]; rfl, ⟨j + 1, rfl, by omega, ?_, h2⟩, by omega⟩
        rw [take_succ_get hr]
        intro x hx
        rcases List.mem_append.1 hx with hx | hx
        · exact hpre x hx
        · rw [List.mem_singleton.1 hx]; exact ht
    · have : j = rs.length := by omega
      subst this
      rw [List.take_of_length_le (Nat.le_refl _)] at hpre
      exact r_ret h (-1 : Int) rfl (.inr ⟨rfl, List.any_eq_false.2 fun x hx => by
        obtain ⟨r, hr, rfl⟩ := List.mem_map.1 hx
        rw [hpre r hr]
        simp⟩))
  refine r_call (At.refl w) ix fun r w1 h _ hr => ?_
  rcases hr with ⟨h0, ht⟩ | ⟨rfl, hf0⟩
  · exact r_ret h _ rfl (by rw [ht]; exact decide_eq_true h0)
  · exact r_ret h _ rfl (by rw [hf0]; rfl))

theorem go_HeadsOf_1 : isGo Tryz.prog n_impl_HeadsOf_1 = true := by kernel_rfl
theorem go_HeadsOf_1_1 : isGo Tryz.prog n_impl_HeadsOf_1_1 = true := by kernel_rfl
def hasKid (b : PBk) (k : List Int) : Bool := b.cms.any fun c => decide (k ∈ c.ps)
theorem c_HeadsOf_1 {w : World} {p : Addr} {s : Sl} {rs : List CR} {b : PBk} {k : List Int} (hp : ldOk w 1 (p.add 0) .slice s) (hs : CsR w s rs) (hX : rs.map CR.pc = b.cms) (hm : rs.length ≤ 1073741824) (hpm : ∀ r ∈ rs, r.ps.length ≤ 1073741824) (hk : keyOk k) :
    Ret Tryz.prog n_impl_HeadsOf_1 [.agg (u8s k).toArray, .pointer (some p)] w [.bool] (fun x _ => x = hasKid b k) := impl_HeadsOf_1_calls _ _ (by
  unfold impl_HeadsOf_1
  refine r_new (At.refl w) fun b2 w1 h => ?_
  have h : At w w1 [(b2, (u8s k).toArray, ty_impl_Key)] := h
  refine r_ldN s (ldOk_below h.below hp) ?_
  refine r_call h (c_ContainsC (At.refl w1) (hs.at h) hm go_HeadsOf_1_1 (fun c => decide (k ∈ c.ps)) (fun w' r hA hr hko hks => ?_)) fun x w2 h2 _ hx => ?_
  · refine impl_HeadsOf_1_1_calls _ _ ?_
    unfold impl_HeadsOf_1_1
    have h' : At w w' [(b2, (u8s k).toArray, ty_impl_Key)] := h.trans hA.below
    refine r_new (At.refl w') fun b3 w3 h3 => ?_
    have h3 : At w' w3 [(b3, r.cells.toArray, ty_impl_Commit)] := h3
    refine r_ld h3 0 rfl (add_lit _ _ _) r.d (by simp [Sh.emb]) (by rw [Nat.zero_add]; exact cm_d hko ..) ?_
    refine r_ldN (u8s k).toArray (ldOk_below h3.below (ldOk_blk h' 0 rfl (by simp [hk.1]))) ?_
    refine r_call h3 (c_ContainsK (hks.at h3) hk (hpm r hr)) fun y w4 h4 _ hy => ?_
    subst hy
    exact r_ret h4.nil _ rfl rfl
  · subst hx
    exact r_ret h2.nil _ rfl (by rw [hX]; rfl))

theorem headsB_of {b : PBk} {out : List (List Int)} (ha : Asc out) (hm : ∀ x, x ∈ out ↔ x ∈ (keysB b).filter fun k => !hasKid b k) : out = headsB b :=
  asc_ext ha (sortK_asc _) fun x => by rw [hm]; unfold headsB; rw [sortK_mem]; rfl
theorem headsB_sub {b : PBk} {x : List Int} (hx : x ∈ headsB b) : x ∈ keysB b := by
  unfold headsB at hx
  rw [sortK_mem] at hx
  exact (List.mem_filter.1 hx).1
theorem c_impl_HeadsOf {w : World} {r : Array Value} {b : PBk} (hr : RdBook w r b) (hz : sizeBook b ≤ 1073741824) :
    Ret Tryz.prog n_impl_HeadsOf [.agg r] w [.slice, .int .i64] (fun x w' => ∃ L, At w w' L ∧ OwnKeyS x.1 (headsAns b).1 L ∧ x.2 = (headsAns b).2) := impl_HeadsOf_calls _ (by
  unfold impl_HeadsOf
  obtain ⟨s, t, rfl, ⟨rs, hX, hs⟩, ⟨ms, hM, ht⟩⟩ := hr
  have hrl : rs.length = b.cms.length := by rw [← hX]; simp
  refine r_new (At.refl w) fun b1 w1 h => ?_
  have h : At w w1 ([(b1, bkC s t, ty_impl_Book)] ++ []) := h
  refine r_ldA h 0 rfl rfl rfl ?_
  refine r_call h (c_open (x := ⟨Option.none, 0, 0⟩) (hs.at h) (ht.at h) hX hM (KsR.none _) hz (by simp)) fun r8 w2 _ hb ⟨h1, h2⟩ => ?_
  obtain ⟨o, c⟩ := r8
  dsimp only at h1 h2 ⊢
  subst h1
  have h' := h.trans hb
  refine r_ne (fun hne => ?_) (fun heq => ?_)
  · exact r_ret h'.nil (⟨Option.none, 0, 0⟩, openCode b []) rfl ⟨[], h'.nil, by unfold headsAns; rw [if_neg hne]; exact ⟨OwnKeyS.none, rfl⟩⟩
  · obtain ⟨hv, _, bl, L, rfl, hL, hO⟩ := h2 heq
    have h40 := hv.1.1
    have h : At w w2 (L ++ ([(b1, bkC s t, ty_impl_Book)] ++ [])) := h.join hL
    refine r_dp rfl ?_
    obtain ⟨s', t', sk, _, _, hlk, _, _, hkk⟩ := (hO.rd h (List.sublist_append_left _ _) (hs.at h) (ht.at h)).ex
    refine r_ldN sk hlk ?_
    have hKl := keysB_len b
    refine r_call h (c_CloneKeys hkk (by omega)) fun r18 w3 h3 _ ⟨hS, hn⟩ => ?_
    have hS := SlO.lift h hS
    have hpm : ∀ r ∈ rs, r.ps.length ≤ 1073741824 := fun r hr => by have : r.ps.length ≤ 3 := (rows_ok hX hv r hr).2.1; omega
    refine r_callR (c_DeleteFunc hS (keysB_ok b) hn (by omega) go_HeadsOf_1 (fun k => hasKid b k) (fun w' k hA hk => ?_)) ?_
    · have h1 := hA.pl1
      exact c_HeadsOf_1 (ldOk_own (sh := .slice) h1 0 rfl 0 rfl (by simp [Sh.emb])) (hs.at h1) hX (by omega) hpm hk
    · rintro v w4 ⟨r20, rfl, hS4, hn4⟩
      refine ⟨r20, rfl, ?_⟩
      have hok : ∀ k ∈ (keysB b).filter fun k => !hasKid b k, keyOk k := fun k hk => keysB_ok b k (List.mem_filter.1 hk).1
      have hfl := List.length_filter_le (fun k => !hasKid b k) (keysB b)
      refine r_call hS4.at_ (c_sorted (slO_ks hS4 hok) (by omega)) fun r21 w5 h5 _ ⟨o2, ha, hm, _, _, hS5, hn5⟩ => ?_
      have he : o2 = headsB b := headsB_of ha hm
      rw [he] at hS5 hn5
      obtain ⟨Lr, hA, hOr⟩ := slO_ownKeyS (SlO.lift hS4.at_ hS5).base (fun x hx => keysB_ok b x (headsB_sub hx))
      exact r_ret hA.nil (r21, 0) rfl ⟨Lr, hA, by unfold headsAns; rw [if_pos heq]; exact ⟨hOr, rfl⟩⟩)

end Go.Proofs.YtkifkdkjljcclaaGreat
