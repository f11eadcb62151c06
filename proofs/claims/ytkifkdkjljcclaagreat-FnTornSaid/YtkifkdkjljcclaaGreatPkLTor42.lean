/- FnTorn: the law's walk. -/
import Derived.Test.YtkifkdkjljcclaaGreatPkLTor41
namespace Go.Proofs.YtkifkdkjljcclaaGreat
open Go.Sx Go.RowKit

theorem pack_htp (B : List PB) : (packB B).take 4 = HTP := by
  obtain ⟨r, hr⟩ := recsB_pre (B := B) (i := 0) (j := B.length) (Nat.zero_le _)
  unfold packB
  rw [hr]
  rfl
theorem pack_long (B : List PB) : 38 ≤ (packB B).length := by
  obtain ⟨r, hr⟩ := recsB_pre (B := B) (i := 0) (j := B.length) (Nat.zero_le _)
  rw [packB_len, hr, List.length_append]
  show 38 ≤ 4 + r.length + 34
  omega
theorem readAns_pack {B : List PB} (hv : validS B) : readAns (packB B) = (B, 0) := by
  unfold readAns
  rw [if_pos (pack_htp B)]
  exact read_pack hv
theorem torn_cut {B : List PB} (hv : validS B) {c : Nat} (hc : c < (packB B).length) : (readAns ((packB B).take c)).2 ≠ 0 ∧ ((scanAns ((packB B).take c)).2.2 = 0 ↔ 4 ≤ c) ∧ (4 ≤ c → ∃ i, i ≤ B.length ∧ scanAns ((packB B).take c) = (B.take i, (recsB B i).length, 0) ∧ 4 ≤ (recsB B i).length ∧ (recsB B i).length ≤ c) := by
  rcases Nat.lt_or_ge c 4 with h4 | h4
  · have hne : ¬ ((packB B).take c).take 4 = HTP := fun hh => by
      have := congrArg List.length hh
      rw [List.length_take, List.length_take] at this
      simp [HTP] at this
      omega
    have e1 : readAns ((packB B).take c) = ([], 5) := if_neg hne
    have e2 : scanAns ((packB B).take c) = ([], 0, 5) := if_neg hne
    rw [e1, e2]
    exact ⟨by decide, ⟨fun hh => absurd hh (by decide), fun hh => by omega⟩, fun hh => by omega⟩
  · have hp : ((packB B).take c).take 4 = HTP := by rw [List.take_take, Nat.min_eq_left h4]; exact pack_htp B
    have e1 : readAns ((packB B).take c) = readGo ((packB B).take c) 129 4 [] := if_pos hp
    have e2 : scanAns ((packB B).take c) = ((scanGo ((packB B).take c) 128 4 []).2, (scanGo ((packB B).take c) 128 4 []).1, 0) := if_pos hp
    obtain ⟨i, hi, hic, hs, hr⟩ := scan_cut hv h4 hc
    rw [e1, e2, hs, hr]
    exact ⟨by decide, ⟨fun _ => h4, fun _ => rfl⟩, fun _ => ⟨i, hi, rfl, (recsB_len hv.2.1 i).2, hic⟩⟩
theorem torn_bad {B : List PB} (hv : validS B) {q : Nat} {y : Int} (hq : q < (packB B).length) (hy : (packB B).getD q 0 ≠ y) (h : (readAns ((packB B).set q y)).2 = 0) :
    hashL 8 (((packB B).set q y).take ((packB B).length - 34)) = hashL 8 ((packB B).take ((packB B).length - 34)) ∧ ((packB B).set q y).take ((packB B).length - 34) ≠ (packB B).take ((packB B).length - 34) := by
  have e : readAns ((packB B).set q y) = readGo ((packB B).set q y) 129 4 [] := by
    unfold readAns at h ⊢
    split
    · rfl
    · rename_i hne
      rw [if_neg hne] at h
      cases h
  rw [e] at h
  have hy' : (packB B)[q]? ≠ some y := by
    rw [gD hq]
    exact fun hh => hy (Option.some.inj hh)
  exact (read_bad hv hq hy' (B' := (readGo ((packB B).set q y) 129 4 []).1) (by rw [← h])).2
theorem w64n {i j : Nat} (h : j < i) (hi : i ≤ 128) : IntKind.wrap .i64 ((j : Int) + 1) = ((j + 1 : Nat) : Int) := w64 (by omega) (by omega)
theorem meas1 {i j : Nat} (h : j < i) : ((i : Int) - ((j + 1 : Nat) : Int)).toNat < ((i : Int) - (j : Int)).toNat := by omega
theorem c_lawTorn {w : World} {sc sm : Sl} {dc dm : List Int} (hc : SlAt w sc 1 (u8s dc)) (hcb : bytesOk dc) (hm : SlAt w sm 1 (u8s dm)) (hmb : bytesOk dm) :
    Ret Tryz.prog n_laws_FnTorn [.slice sc.a sc.n sc.c, .slice sm.a sm.n sm.c] w [.bool] (fun r _ => r = true) := laws_FnTorn_calls _ _ (by
  unfold laws_FnTorn
  have hbub : Tryz.prog.underlying ty_bool = some .bool := by kernel_rfl
  refine r_join (σ := Unit) (fun _ w' => At w w' [] ∧ sm.n ≤ 4096) (fun _ w1 hJ => ?_) ?_
  rotate_left
  · refine r_callp (c_f6big sc) ?_
    by_cases hbig : 4096 < sc.n
    · exact r_true (decide_eq_true hbig) (r_ret (At.refl w) true rfl rfl)
    refine r_false (decide_eq_false hbig) ?_
    refine r_callp (c_f6big sm) ?_
    by_cases hbig2 : 4096 < sm.n
    · exact r_true (decide_eq_true hbig2) (r_ret (At.refl w) true rfl rfl)
    exact r_false (decide_eq_false hbig2) ⟨(), rfl, At.refl w, by omega⟩
  obtain ⟨h, hsml⟩ := hJ
  refine r_any fun _ => ?_
  refine r_call h (c_P6Alike (hc.at h) hcb) fun g w2 _ _ ⟨L, B, hL, hO, hv⟩ => ?_
  have h := h.join hL
  refine r_new h fun b5 w3 h => ?_
  refine r_stA h 0 rfl rfl hO.sz rfl hO.one fun wk hk0 => ?_
  have hk0 : At w wk ([(b5, g, ty_impl_Store)] ++ (L ++ [])) := hk0
  have hz : sizeBs B ≤ 1073741824 := by have := sizeBs_valid hv; omega
  have hB : RdStore wk g B := hO.rd hk0.pl1
  have lb : ldOk wk 1 (⟨b5, 0, none⟩ : Addr) .agg g := ldOk_blk hk0 0 rfl hO.sz
  have l5 : ∃ (s5 : Sl) (bs : List BR), bs.map BR.pb = B ∧ BsR wk s5 bs ∧ ldOk wk 1 ((⟨b5, 0, none⟩ : Addr).add 0) .slice s5 := by
    obtain ⟨s, bs, rfl, hpb, hs⟩ := id hB
    exact ⟨s, bs, hpb, hs, ldOk_own (sh := .slice) hk0 0 rfl 0 rfl (by simp [Sh.emb])⟩
  obtain ⟨s5, bs5, hpb5, hs5, l5⟩ := l5
  have h := At.refl wk
  refine r_ldN _ lb ?_
  refine r_call h (c_spec_PackStore hB hz) fun r41 w4 _ _ ⟨LP, hLP, hOP, hcP⟩ => ?_
  obtain ⟨r41, c41⟩ := r41
  have e1 : packAns B = (packB B, 0) := by unfold packAns; rw [if_pos hv]
  dsimp only at hOP hcP ⊢
  rw [e1] at hOP hcP
  subst hcP
  have hPm := packB_max hv
  have hPl := pack_long B
  have hcut := fun c => torn_cut (c := c) hv
  have hbad := fun q y => torn_bad (q := q) (y := y) hv
  have hPok : bytesOk (packB B) := hOP.2
  have hvp := fun i => validS_take hv i
  have hB1 : B.length ≤ 128 := hv.1
  generalize hP : packB B = P at hOP hPm hPl hcut hbad hPok
  have h := h.join hLP
  have hPn : r41.n = P.length := ownS_n hOP.1
  have hPc := hOP.1.cap
  refine r_call h (c_P6Pick r41.n ((hm.at hk0).at h) hmb (by omega) (by omega)) fun r48 w5 h _ ⟨cut, hcu, hcu2⟩ => ?_
  subst hcu
  have bP : ∀ {v : World} {X : List Blk}, At wk v (X ++ (LP ++ [])) → BSl v r41 P := fun h => ownS_bytes hOP.1 h.pl1 (List.sublist_append_left _ _) hPok
  obtain ⟨t1, t2, t3⟩ := hcut cut (by omega)
  have hcl : (P.take cut).length ≤ 140000 := by rw [List.length_take]; omega
  have h : At wk w5 ([] ++ (LP ++ [])) := h
  refine r_slPreG cut rfl (by omega) hPc fun y52 hn52 _ hy52 => ?_
  refine r_call h (c_ReadPack (hy52 (bP h)) hcl) fun r53 w6 _ _ ⟨La, hLa, hOa, hca⟩ => ?_
  obtain ⟨r53, c53⟩ := r53
  dsimp only at hOa hca ⊢
  have h := h.join hLa
  refine r_new h fun b10 w7 h => ?_
  refine r_stA h 0 rfl rfl hOa.sz rfl hOa.one fun w8 h => ?_
  have h : At wk w8 (([(b10, r53, ty_impl_Store)] ++ La) ++ (LP ++ [])) := by
    rw [List.append_assoc]
    exact h
  refine r_slPreG cut rfl (by omega) hPc fun y59 hn59 _ hy59 => ?_
  refine r_call h (c_ScanPack (hy59 (bP h)) hcl) fun r60 w9 _ _ ⟨Lb, hLb, hOb, hcb1, hcb2⟩ => ?_
  obtain ⟨r60, a60, c60⟩ := r60
  dsimp only at hOb hcb1 hcb2 ⊢
  have h := h.join hLb
  refine r_new h fun b12 w10 h => ?_
  refine r_stA h 0 rfl rfl hOb.sz rfl hOb.one fun w11 h => ?_
  have h : At wk w11 ([(b12, r60, ty_impl_Store)] ++ (Lb ++ (([(b10, r53, ty_impl_Store)] ++ La) ++ (LP ++ [])))) := h
  refine r_slPreG cut rfl (by omega) hPc fun y67 hn67 _ hy67 => ?_
  have hP11 : BSl w11 r41 P := ownS_bytes hOP.1 h.pl3 (List.sublist_append_left _ _) hPok
  refine r_call h (c_MendPack (hy67 hP11) hcl) fun r68 wz h _ ⟨hc68, hS68⟩ => ?_
  obtain ⟨r68, c68⟩ := r68
  dsimp only at hc68 hS68 ⊢
  -- what is known from here on
  have hPz : BSl wz r41 P := ownS_bytes hOP.1 h.pl3 (List.sublist_append_left _ _) hPok
  have h12 : RdStore wz r60 (scanAns (P.take cut)).1 := hOb.rd h.pl1
  have l12 : ldOk wz 1 (⟨b12, 0, none⟩ : Addr) .agg r60 := ldOk_blk h 0 rfl hOb.sz
  have l12s : ∃ (s12 : Sl) (bs : List BR), bs.map BR.pb = (scanAns (P.take cut)).1 ∧ BsR wz s12 bs ∧ ldOk wz 1 ((⟨b12, 0, none⟩ : Addr).add 0) .slice s12 := by
    obtain ⟨s, bs, rfl, hpb, hs⟩ := id h12
    exact ⟨s, bs, hpb, hs, ldOk_own (sh := .slice) h 0 rfl 0 rfl (by simp [Sh.emb])⟩
  obtain ⟨s12, bs12, hpb12, hs12, l12s⟩ := l12s
  have lb := ldOk_below h.below lb
  have l5 := ldOk_below h.below l5
  have hs5 := hs5.at h
  have hwz := hk0.join h.nil
  have hMz : c60 = 0 → BSl wz r68 (packB (scanAns (P.take cut)).1) := fun hh => by
    obtain ⟨hS, hb⟩ := hS68 (by rw [← hcb2]; exact hh)
    obtain ⟨Lm, hOm, hAm⟩ := hS.split
    exact ownS_bytes hOm hAm (List.sublist_append_left _ _) hb
  have hc := hc.at hwz
  have hm := hm.at hwz
  clear h hOa hOb hLa hLb hLP hOP hL hO hk0 hB hS68
  refine r_join (σ := Unit) (fun _ w' => At wz w' []) (fun _ w12 h => ?_) ?_
  rotate_left
  · refine r_false rfl ?_
    refine r_eq (fun hh => absurd (hca ▸ hh) t1) (fun _ => ?_)
    refine r_pur (sh := .bool) _ (fun w' => run_neqB hbub _ _ _ _ w') ?_
    refine r_false ?_ ?_
    · rw [hcb2]
      by_cases h4 : 4 ≤ cut
      · rw [t2.2 h4, decide_eq_true (show (cut : Int) ≥ 4 by omega)]; rfl
      · rw [decide_eq_false (show ¬ (cut : Int) ≥ 4 by omega), beq_eq_false_iff_ne.2 (fun hh => h4 (t2.1 hh))]; rfl
    refine r_ne (fun hne => absurd (by rw [hc68, hcb2]) hne) (fun _ => ?_)
    exact ⟨(), rfl, At.refl wz⟩
  refine r_any fun _ => ?_
  refine r_join (σ := Unit) (fun _ w' => At wz w' []) (fun _ w13 h => ?_) ?_
  rotate_left
  · refine r_eq (fun h0 => ?_) (fun h0 => ⟨(), rfl, h⟩)
    have h4 : 4 ≤ cut := t2.1 (by rw [← hcb2]; exact h0)
    obtain ⟨i, hi, hsc, hr1, hr2⟩ := t3 h4
    have hM := hMz h0
    rw [hsc] at hM h12 hpb12 hcb1
    dsimp only at hM h12 hpb12 hcb1
    have hbl12 : bs12.length = i := by
      have := congrArg List.length hpb12
      rw [List.length_map, List.length_take] at this
      omega
    have hn12 := hs12.n
    have hbl5 : bs5.length = B.length := by rw [← hpb5]; simp
    have hn5 := hs5.n
    have hMr := readAns_pack (hvp i)
    have hMm := packB_max (hvp i)
    refine r_call h (c_ReadPack (hM.at h) hMm) fun r93 w13 _ _ ⟨Lc, hLc, hOc, hcc⟩ => ?_
    obtain ⟨r93, c93⟩ := r93
    dsimp only at hOc hcc ⊢
    rw [hMr] at hOc hcc
    dsimp only at hOc hcc
    subst hcc
    have h := h.join hLc
    refine r_new h fun b17 w14 h => ?_
    refine r_stA h 0 rfl rfl hOc.sz rfl hOc.one fun w15 h => ?_
    have h : At wz w15 ([(b17, r93, ty_impl_Store)] ++ (Lc ++ [])) := h
    refine r_join (σ := Unit) (fun _ w' => At wz w' []) (fun _ w16 h => ?_) ?_
    rotate_left
    · subst hcb1
      refine r_if (((recsB B i).length : Int) > (cut : Int)) rfl (fun hh => absurd hh (by omega)) (fun _ => ?_)
      refine r_if (((recsB B i).length : Int) < 4) rfl (fun hh => absurd hh (by omega)) (fun _ => ?_)
      refine r_ldN (sh := .slice) s12 (ldOk_below h.below l12s) ?_
      refine r_ldN (sh := .slice) s5 (ldOk_below h.below l5) ?_
      refine r_if ((s12.n : Int) > (s5.n : Int)) rfl (fun hh => absurd hh (by omega)) (fun _ => ?_)
      refine r_false rfl ?_
      refine r_ldA h 0 rfl rfl hOc.sz ?_
      refine r_ldN _ (ldOk_below h.below l12) ?_
      have hzi : sizeBs (B.take i) ≤ 1073741824 := by have := sizeBs_valid (hvp i); omega
      refine r_call h (c_SameStore (hOc.rd h.pl1) (h12.at h) hzi) fun r119 w16 h _ hr => ?_
      subst hr
      refine r_false (by simp) ?_
      exact ⟨(), rfl, h.nil⟩
    refine r_any fun _ => ?_
    refine r_loop (σ := Int) (fun x w' => ∃ j : Nat, x = j ∧ j ≤ i ∧ At wz w' []) (fun x _ => (i - x).toNat) 0 rfl ⟨0, rfl, by omega, h⟩ ?_
    clear h
    rintro x w17 ⟨j, rfl, hj, h⟩
    refine r_any fun _ => ?_
    refine r_ldN (sh := .slice) s12 (ldOk_below h.below l12s) ?_
    refine r_if ((j : Int) < (s12.n : Int)) rfl (fun hlt => ?_) (fun hge => ⟨(), rfl, h⟩)
    have hji : j < i := by omega
    refine r_draw h fun w18 h => ?_
    obtain ⟨x1, p1, hx1, _, hp1, hxo1, hxl1, _⟩ := (hs12.at h).get (i := j) (by omega)
    obtain ⟨x2, p2, hx2, _, hp2, hxo2, hxl2, _⟩ := (hs5.at h).get (i := j) (by omega)
    refine r_ldN (sh := .slice) s12 (ldOk_below h.below l12s) ?_
    refine r_ix p1 hp1 (by omega) (by omega) ?_
    simp only [Int.toNat_natCast]
    refine r_ldN _ hxl1 ?_
    refine r_ldN (sh := .slice) s5 (ldOk_below h.below l5) ?_
    refine r_ix p2 hp2 (by omega) (by omega) ?_
    simp only [Int.toNat_natCast]
    refine r_ldN _ hxl2 ?_
    have hxe : x1.pb = x2.pb := by
      have h1 := congrArg (fun l => l[j]?) hpb12
      have h2 := congrArg (fun l => l[j]?) hpb5
      simp only [List.getElem?_map, hx1, hx2, Option.map_some] at h1 h2
      rw [List.getElem?_take, if_pos (by omega), ← h2] at h1
      exact Option.some.inj h1
    have hxd : x1.data.length ≤ 1024 := by
      have : x1.pb ∈ B.take i := by rw [← hpb12]; exact List.mem_map_of_mem (f := BR.pb) (List.mem_of_getElem? hx1)
      exact (hvp i).2.1 _ this
    refine r_call h (c_SameBlobS hxo1 hxo2 (Nat.le_trans hxd (by decide))) fun r139 w19 h _ hr => ?_
    subst hr
    refine r_chk2 (ldOk_below h.below l5) (ldOk_below h.below l12s) ?_
    refine r_false (by rw [decide_eq_true hxe]; rfl) ?_
    exact ⟨((j + 1 : Nat) : Int), by rw [w64n hji (Nat.le_trans hi hB1)]; rfl, ⟨j + 1, rfl, hji, h⟩, meas1 hji⟩
  refine r_any fun _ => ?_
  refine r_bs1 T_sl_uint8 h rfl (by omega) fun y141 w14 hy hn141 => ?_
  have hsmn := sl_len hm
  refine r_append T_sl_uint8 hy (hm.at hy.at_) u8s_one (by omega) (by omega) fun y143 w15 hS hn143 => ?_
  have h9 : SlAt w15 y143 1 (u8s (9 :: dm)) := by
    have := hS.sl
    simpa [u8s, Value.cells] using this
  have h := hS.at_
  have h9b : bytesOk (9 :: dm) := fun b hb => by
    rcases List.mem_cons.1 hb with rfl | hb
    · omega
    · exact hmb b hb
  refine r_call h (c_P6Pick r41.n h9 h9b (by omega) (by omega)) fun r145 w16 h _ ⟨q, hq, hq2⟩ => ?_
  subst hq
  refine r_call h (c_P6Pick 8 (hc.at h) hcb (by omega) (by omega)) fun r150 w17 h _ ⟨bit, hbit, hbit2⟩ => ?_
  subst hbit
  have hg := hPok.get q
  obtain ⟨f1, f2, f3⟩ := flip_ok hg.1 hg.2 hbit2
  refine r_call h (c_SpoilPack (hPz.at h) hPm (q := q) (bit := bit) (by omega) hbit2) fun r151 w18 _ _ ⟨hc151, hS151⟩ => ?_
  obtain ⟨r151, c151⟩ := r151
  dsimp only at hc151 hS151 ⊢
  subst hc151
  obtain ⟨Lq, hOq, h⟩ := SlO.own_of h hS151
  have hQb : bytesOk (P.set q (flipB (P.getD q 0) bit)) := hPok.set q ⟨f1, f2⟩
  have hQne : P.set q (flipB (P.getD q 0) bit) ≠ P := fun hh => f3 (by
    have := congrArg (fun l => l[q]?) hh
    simp only [List.getElem?_set_self (show q < P.length by omega)] at this
    rw [gD (show q < P.length by omega)] at this
    exact Option.some.inj this)
  have hQl : (P.set q (flipB (P.getD q 0) bit)).length = P.length := List.length_set
  have hbd := hbad q (flipB (P.getD q 0) bit) (by omega) (fun hh => f3 hh.symm)
  generalize P.set q (flipB (P.getD q 0) bit) = Q at hOq hQb hQne hQl hbd
  have hQn := ownS_n hOq
  have hQc := hOq.cap
  have bQ : ∀ {v : World} {X : List Blk}, At wz v (X ++ (Lq ++ [])) → BSl v r151 Q := fun h => ownS_bytes hOq h.pl1 (List.sublist_append_left _ _) hQb
  have h : At wz w18 ([] ++ (Lq ++ [])) := h
  refine r_call h (c_ReadPack (bQ h) (by omega)) fun r156 w19 _ _ ⟨La, hLa, hOa, hca⟩ => ?_
  obtain ⟨r156, c156⟩ := r156
  dsimp only at hOa hca ⊢
  have h := h.join hLa
  refine r_new h fun b23 w20 h => ?_
  refine r_stA h 0 rfl rfl hOa.sz rfl hOa.one fun w21 h => ?_
  have h : At wz w21 (([(b23, r156, ty_impl_Store)] ++ La) ++ (Lq ++ [])) := by
    rw [List.append_assoc]
    exact h
  refine r_call h (c_IsPack (bQ h) (by omega)) fun r161 wy h _ hr161 => ?_
  subst hr161
  have hQy := bQ h
  have hPy := hPz.at h
  have hwy := hwz.join h.nil
  have hcode := readAns_code Q
  clear h hOa hLa hOq hS151
  refine r_join (σ := Unit) (fun _ w' => At wy w' []) (fun _ w22 h => ?_) ?_
  rotate_left
  · refine r_false rfl ?_
    refine r_ne (fun hne => absurd (by omega) hne) (fun _ => ?_)
    refine r_false rfl ?_
    refine r_pur (sh := .bool) _ (fun w' => run_neqB hbub _ _ _ _ w') ?_
    refine r_false (by rw [hca]; simp) ?_
    refine r_call (At.refl wy) (c_SameData hQy hPy (by omega)) fun r185 w22 h _ hr => ?_
    subst hr
    refine r_false (decide_eq_false hQne) ?_
    exact ⟨(), rfl, h⟩
  refine r_any fun _ => ?_
  subst hca
  refine r_ne (fun hne => ?_) (fun heq => ?_)
  · refine r_eq (fun h8 => r_ret (hwy.join h).nil true rfl rfl) (fun h8 => ?_)
    refine r_ret (hwy.join h).nil _ rfl ?_
    have h5 : (readAns Q).2 = 5 := by
      rcases hcode with h0 | h0 | h0
      · exact absurd h0 hne
      · exact h0
      · exact absurd h0 h8
    rw [h5]
    rfl
  · obtain ⟨k1, k2⟩ := hbd heq
    rw [w64 (n := (r41.n : Int) - 34) (by omega) (by omega), show (r41.n : Int) - 34 = ((P.length - 34 : Nat) : Int) by omega]
    have hPk : (hashL 8 (P.take (P.length - 34))).length = 32 := hashL_len _ _
    refine r_slPreG (P.length - 34) rfl (by omega) hPc fun y199 hn199 _ hy199 => ?_
    refine r_call h (c_KeyOfPack (hy199 (hPy.at h)) (by rw [List.length_take]; omega)) fun r200 w23 h _ ⟨hk1, hc1⟩ => ?_
    obtain ⟨r200, c200⟩ := r200
    dsimp only at hk1 hc1 ⊢
    subst hk1
    subst hc1
    refine r_new h fun b27 w24 h => ?_
    refine r_stA h 0 rfl rfl (by simp [hPk]) (by simp [Value.cells]) (by simpa using u8s_one) fun w25 h => ?_
    refine r_slPreG (P.length - 34) rfl (by omega) hQc fun y207 hn207 _ hy207 => ?_
    refine r_call h (c_KeyOfPack (hy207 (hQy.at h)) (by rw [List.length_take]; omega)) fun r208 w26 h _ ⟨hk2, hc2⟩ => ?_
    obtain ⟨r208, c208⟩ := r208
    dsimp only at hk2 hc2 ⊢
    subst hk2
    subst hc2
    rw [k1]
    refine r_new h fun b29 w27 h => ?_
    refine r_stA h 0 rfl rfl (by simp [hPk]) (by simp [Value.cells]) (by simpa using u8s_one) fun w28 h => ?_
    refine r_draw h fun w29 h => ?_
    have h : At wy w29 ([(b29, (u8s (hashL 8 (P.take (P.length - 34)))).toArray, ty_impl_Key), (b27, (u8s (hashL 8 (P.take (P.length - 34)))).toArray, ty_impl_Key)] ++ []) := h
    have last : ∀ {v : World}, At wy v ([(b29, (u8s (hashL 8 (P.take (P.length - 34)))).toArray, ty_impl_Key), (b27, (u8s (hashL 8 (P.take (P.length - 34)))).toArray, ty_impl_Key)] ++ []) → ∀ {y226 y230 : Sl}, BSl v y226 (Q.take (P.length - 34)) → BSl v y230 (P.take (P.length - 34)) →
        ((real Tryz.prog (RR w [.bool] (fun r _ => r = true))).call n_spec_SameData [(.slice y226.a y226.n y226.c), (.slice y230.a y230.n y230.c)] [.bool] fun r231 => (real Tryz.prog (RR w [.bool] (fun r _ => r = true))).ret (.bool (!r231)) : World → Prop) v := fun h _ _ h226 h230 => by
      refine r_call h (c_SameData h226 h230 (by rw [List.length_take]; omega)) fun r231 w30 h _ hr => ?_
      subst hr
      exact r_ret (hwy.join h).nil _ rfl (by rw [decide_eq_false k2]; rfl)
    refine r_true rfl ?_
    refine r_all2 ?_ ?_
    · refine r_true rfl ?_
      refine r_ldA h 1 rfl rfl (by simp [hPk]) ?_
      refine r_ldA h 0 rfl rfl (by simp [hPk]) ?_
      refine r_pur _ (fun w' => run_eql_key _ _ hPk hPk w') ?_
      refine r_true (by simp) ?_
      refine r_slPreG (P.length - 34) rfl (by omega) hQc fun y226 _ _ hy226 => ?_
      refine r_slPreG (P.length - 34) rfl (by omega) hPc fun y230 _ _ hy230 => ?_
      exact last h (hy226 (hQy.at h)) (hy230 (hPy.at h))
    · refine r_true rfl ?_
      refine r_ldA h 0 rfl rfl (by simp [hPk]) ?_
      refine r_ldA h 1 rfl rfl (by simp [hPk]) ?_
      refine r_pur _ (fun w' => run_eql_key _ _ hPk hPk w') ?_
      refine r_true (by simp) ?_
      refine r_slPreG (P.length - 34) rfl (by omega) hQc fun y226 _ _ hy226 => ?_
      refine r_slPreG (P.length - 34) rfl (by omega) hPc fun y230 _ _ hy230 => ?_
      exact last h (hy226 (hQy.at h)) (hy230 (hPy.at h)))
end Go.Proofs.YtkifkdkjljcclaaGreat
