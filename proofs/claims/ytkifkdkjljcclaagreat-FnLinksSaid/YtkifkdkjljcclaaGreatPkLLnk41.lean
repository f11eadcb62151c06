/- FnLinks: the law's walk. -/
import Derived.Test.YtkifkdkjljcclaaGreatPkLLnk40
namespace Go.Proofs.YtkifkdkjljcclaaGreat
open Go.Sx Go.RowKit

theorem c_lawLinks {w : World} {sc sm : Sl} {dc dm : List Int} (hc : SlAt w sc 1 (u8s dc)) (hcb : bytesOk dc) (hm : SlAt w sm 1 (u8s dm)) (hmb : bytesOk dm) :
    Ret Tryz.prog n_laws_FnLinks [.slice sc.a sc.n sc.c, .slice sm.a sm.n sm.c] w [.bool] (fun r _ => r = true) := laws_FnLinks_calls _ _ (by
  unfold laws_FnLinks
  have hbub : Tryz.prog.underlying ty_bool = some .bool := by kernel_rfl
  refine r_join (σ := Unit) (fun _ w' => At w w' []) (fun _ w1 h => ?_) ?_
  rotate_left
  · refine r_callp (c_f6big sc) ?_
    by_cases hbig : 4096 < sc.n
    · exact r_true (decide_eq_true hbig) (r_ret (At.refl w) true rfl rfl)
    refine r_false (decide_eq_false hbig) ?_
    refine r_callp (c_f6big sm) ?_
    by_cases hbig2 : 4096 < sm.n
    · exact r_true (decide_eq_true hbig2) (r_ret (At.refl w) true rfl rfl)
    exact r_false (decide_eq_false hbig2) ⟨(), rfl, At.refl w⟩
  refine r_any fun _ => ?_
  refine r_call h (c_P6Store (hc.at h) hcb) fun g w2 _ _ ⟨L, B, hL, hO, hv⟩ => ?_
  have h := h.join hL
  refine r_new h fun b5 w3 h => ?_
  refine r_stA h 0 rfl rfl hO.sz rfl hO.one fun wk hk0 => ?_
  have hk0 : At w wk ([(b5, g, ty_impl_Store)] ++ (L ++ [])) := hk0
  have hz : sizeBs B ≤ 1073741824 := by have := sizeBs_valid hv; omega
  have hB : RdStore wk g B := hO.rd hk0.pl1
  have lb : ldOk wk 1 (⟨b5, 0, none⟩ : Addr) .agg g := ldOk_blk hk0 0 rfl hO.sz
  have hB128 := hv.1
  have hKl : (keysOf B).length = B.length := keysOf_len B
  have e1 : linkAns B = (countsOf B, 0) := by unfold linkAns; rw [if_pos hv]
  have e2 : rootsAns B = (keepL (rootFlags B) (keysOf B), 0) := by unfold rootsAns; rw [if_pos hv]
  have hcl := countsOf_len B
  have h := At.refl wk
  refine r_ldN _ (ldOk_below h.below lb) ?_
  refine r_call h (c_spec_KeysOfStore (hB.at h) hz hv) fun r39 w4 _ _ ⟨Lk, hLk, hOk, hck⟩ => ?_
  obtain ⟨r39, c39⟩ := r39
  dsimp only at hOk hck ⊢
  subst hck
  have h := h.join hLk
  refine r_ldN _ (ldOk_below h.below lb) ?_
  refine r_call h (c_impl_LinkCounts (hB.at h) hz) fun r44 w5 _ _ ⟨Lc, hLc, hOc, hcc⟩ => ?_
  obtain ⟨r44, c44⟩ := r44
  dsimp only at hOc hcc ⊢
  rw [e1] at hOc hcc
  subst hcc
  have h := h.join hLc
  refine r_ldN _ (ldOk_below h.below lb) ?_
  refine r_call h (c_spec_LinkCounts (hB.at h) hz) fun r49 w6 _ _ ⟨Ld, hLd, hOd, hcd⟩ => ?_
  obtain ⟨r49, c49⟩ := r49
  dsimp only at hOd hcd ⊢
  rw [e1] at hOd hcd
  subst hcd
  have h := h.join hLd
  refine r_ldN _ (ldOk_below h.below lb) ?_
  refine r_call h (c_impl_RootsOf (hB.at h) hz) fun r54 wz _ _ ⟨Lr, hLr, hOr, hcr⟩ => ?_
  obtain ⟨r54, c54⟩ := r54
  dsimp only at hOr hcr ⊢
  rw [e2] at hOr hcr
  subst hcr
  have h := h.join hLr
  have h : At wk wz ([] ++ (Lr ++ (Ld ++ (Lc ++ (Lk ++ []))))) := h
  have kR : KsR wz r39 (keysOf B) := hOk.rd h.pl4
  have cR : RdInt64S wz r44 (countsOf B) := hOc.rd h.pl3
  have dR : RdInt64S wz r49 (countsOf B) := hOd.rd h.pl2
  have rR : KsR wz r54 (keepL (rootFlags B) (keysOf B)) := hOr.rd h.pl1
  have lb : ldOk wz 1 (⟨b5, 0, none⟩ : Addr) .agg g := ldOk_below h.below lb
  have hB : RdStore wz g B := hB.at h
  have hwz := hk0.join h.nil
  have hkn := kR.n
  have hcn := cR.n
  have hdn := dR.n
  have hrn := rR.n
  have hrc := roots_count B
  have hrl : (keepL (rootFlags B) (keysOf B)).length ≤ B.length := by rw [hrc]; exact zerosTo_le _ _
  have hc := hc.at hwz
  have hm := hm.at hwz
  clear h hO hL hk0
  refine r_join (σ := Unit) (fun _ w' => At wz w' []) (fun _ w10 h => ?_) ?_
  rotate_left
  · refine r_false rfl ?_
    refine r_false rfl ?_
    refine r_false rfl ?_
    refine r_ne (fun hne => absurd (by omega) hne) (fun _ => ?_)
    refine r_ne (fun hne => absurd (by omega) hne) (fun _ => ?_)
    refine r_false rfl ?_
    exact ⟨(), rfl, At.refl wz⟩
  refine r_any fun _ => ?_
  refine r_loop (σ := Int × Int) (fun st w' => ∃ i : Nat, st = ((zerosTo (countsOf B) i : Int), (i : Int)) ∧ i ≤ B.length ∧ At wz w' []) (fun st _ => (r49.n - st.2).toNat) (0, 0) rfl ⟨0, by simp [zerosTo], by omega, h⟩ ?_
  clear h
  rintro st w11 ⟨i, rfl, hi, h⟩
  refine r_any fun _ => ?_
  dsimp only
  refine r_if ((i : Int) < (r49.n : Int)) rfl (fun hlt => ?_) (fun hge => ?_)
  · have hz1 := zerosTo_le (countsOf B) i
    obtain ⟨p, hp, hpc⟩ := cR.get (i := i) (by omega)
    obtain ⟨q, hq, hqc⟩ := dR.get (i := i) (by omega)
    obtain ⟨kx, pk, hkx, hkm, hpk, hko, hkl⟩ := kR.get (i := i) (by omega)
    have hx : (countsOf B)[i]? = some ((countsOf B).getD i 0) := by simp [List.getD, List.getElem?_eq_getElem (show i < (countsOf B).length by omega)]
    generalize (countsOf B).getD i 0 = x at hx hpc hqc
    have lp : ldOk wz 1 (p.add (i * 1)) (.int .i64) x := by rw [Nat.mul_one]; exact hpc
    have lq : ldOk wz 1 (q.add (i * 1)) (.int .i64) x := by rw [Nat.mul_one]; exact hqc
    have hri := roots_iff hv hx hkx
    refine r_join (σ := Unit) (fun _ w' => At wz w' []) (fun _ w12 h => ?_) ?_
    · refine r_any fun _ => ?_
      refine r_ix q hq (by omega) (by omega) ?_
      simp only [Int.toNat_natCast]
      refine r_ldN (sh := .int .i64) x (ldOk_below h.below lq) ?_
      refine r_eq (fun h0 => ?_) (fun h0 => ?_)
      · refine ⟨(((zerosTo (countsOf B) (i + 1) : Nat) : Int), ((i + 1 : Nat) : Int)), ?_, ⟨i + 1, rfl, by omega, h⟩, by dsimp only; omega⟩
        rw [w64 (n := (zerosTo (countsOf B) i : Int) + 1) (by omega) (by omega), w64 (n := (i : Int) + 1) (by omega) (by omega), zerosTo_succ hx, if_pos h0]
        rfl
      · refine ⟨(((zerosTo (countsOf B) (i + 1) : Nat) : Int), ((i + 1 : Nat) : Int)), ?_, ⟨i + 1, rfl, by omega, h⟩, by dsimp only; omega⟩
        rw [w64 (n := (i : Int) + 1) (by omega) (by omega), zerosTo_succ hx, if_neg h0]
        rfl
    · refine r_draw h fun w12 h => ?_
      refine r_ix p hp (by omega) (by omega) ?_
      simp only [Int.toNat_natCast]
      refine r_ldN (sh := .int .i64) x (ldOk_below h.below lp) ?_
      refine r_ix q hq (by omega) (by omega) ?_
      simp only [Int.toNat_natCast]
      refine r_ldN (sh := .int .i64) x (ldOk_below h.below lq) ?_
      refine r_ne (fun hne => absurd rfl hne) (fun _ => ?_)
      refine r_ix q hq (by omega) (by omega) ?_
      refine r_ix pk hpk (by omega) (by omega) ?_
      simp only [Int.toNat_natCast]
      have hbb : ((x == 0) != decide (kx ∈ keepL (rootFlags B) (keysOf B))) = false := by
        by_cases h0 : x = 0
        · rw [decide_eq_true (hri.2 h0), h0]; rfl
        · rw [decide_eq_false (fun hh => h0 (hri.1 hh)), beq_eq_false_iff_ne.2 h0]; rfl
      refine r_all2 ?_ (?_)
      · refine r_ldN (sh := .int .i64) x (ldOk_below h.below lq) ?_
        refine r_chk2 (ldOk_below h.below lq) (ldOk_below h.below lp) ?_
        refine r_ldN (u8s kx).toArray (ldOk_below h.below hkl) ?_
        refine r_chk2 (ldOk_below h.below lq) (ldOk_below h.below lp) ?_
        refine r_call h (c_HasKey (rR.at h) hko (by omega)) fun r112 w13 h _ hr => ?_
        subst hr
        refine r_chk2 (ldOk_below h.below lq) (ldOk_below h.below lp) ?_
        refine r_pur (sh := .bool) _ (fun w' => run_neqB hbub _ _ _ _ w') ?_
        exact r_false hbb ⟨(), rfl, h⟩
      · refine r_ldN (u8s kx).toArray (ldOk_below h.below hkl) ?_
        refine r_chk2 (ldOk_below h.below lq) (ldOk_below h.below lp) ?_
        refine r_all2 ?_ (?_)
        · refine r_ldN (sh := .int .i64) x (ldOk_below h.below lq) ?_
          refine r_chk2 (ldOk_below h.below lq) (ldOk_below h.below lp) ?_
          refine r_call h (c_HasKey (rR.at h) hko (by omega)) fun r112 w13 h _ hr => ?_
          subst hr
          refine r_chk2 (ldOk_below h.below lq) (ldOk_below h.below lp) ?_
          refine r_pur (sh := .bool) _ (fun w' => run_neqB hbub _ _ _ _ w') ?_
          exact r_false hbb ⟨(), rfl, h⟩
        · refine r_call h (c_HasKey (rR.at h) hko (by omega)) fun r112 w13 h _ hr => ?_
          subst hr
          refine r_chk2 (ldOk_below h.below lq) (ldOk_below h.below lp) ?_
          refine r_ldN (sh := .int .i64) x (ldOk_below h.below lq) ?_
          refine r_chk2 (ldOk_below h.below lq) (ldOk_below h.below lp) ?_
          refine r_pur (sh := .bool) _ (fun w' => run_neqB hbub _ _ _ _ w') ?_
          exact r_false hbb ⟨(), rfl, h⟩
  have hiB : i = B.length := by omega
  subst hiB
  refine r_ne (fun hne => absurd (by omega) hne) (fun _ => ?_)
  refine r_eq (fun h0 => r_ret (hwz.join h).nil true rfl rfl) (fun h0 => ?_)
  refine r_call h (c_P6Pick r39.n (hm.at h) hmb (by omega) (by omega)) fun r133 w12 h _ ⟨ia, hia, hia2⟩ => ?_
  subst hia
  obtain ⟨ka, pa, hka, hkam, hpa, hkao, hkal⟩ := kR.get (i := ia) (by omega)
  refine r_ix pa hpa (by omega) (by omega) ?_
  simp only [Int.toNat_natCast]
  refine r_ldN (u8s ka).toArray (ldOk_below h.below hkal) ?_
  refine r_new h fun b16 w13 h => ?_
  refine r_stA h 0 rfl rfl (by simp [hkao.1]) (by simp [Value.cells]) (by simpa using u8s_one) fun w14 h => ?_
  refine r_call h (c_P6Pick r39.n (hc.at h) hcb (by omega) (by omega)) fun r140 w15 h _ ⟨ib, hib, hib2⟩ => ?_
  subst hib
  obtain ⟨kb, pb, hkb, hkbm, hpb, hkbo, hkbl⟩ := kR.get (i := ib) (by omega)
  refine r_ix pb hpb (by omega) (by omega) ?_
  simp only [Int.toNat_natCast]
  refine r_ldN (u8s kb).toArray (ldOk_below h.below hkbl) ?_
  refine r_new h fun b17 w16 h => ?_
  refine r_stA h 0 rfl rfl (by simp [hkbo.1]) (by simp [Value.cells]) (by simpa using u8s_one) fun w17 h => ?_
  have h : At wz w17 ([(b17, (u8s kb).toArray, ty_impl_Key), (b16, (u8s ka).toArray, ty_impl_Key)] ++ []) := h
  refine r_ldN _ (ldOk_below h.below lb) ?_
  refine r_ldA h 1 rfl rfl (by simp [hkao.1]) ?_
  refine r_ldA h 0 rfl rfl (by simp [hkbo.1]) ?_
  refine r_call h (c_impl_LinkPath (hB.at h) ⟨rfl, hkao⟩ ⟨rfl, hkbo⟩ hz) fun r147 w18 _ _ ⟨Lp, hLp, hOp, hcp⟩ => ?_
  obtain ⟨r147, c147⟩ := r147
  dsimp only at hOp hcp ⊢
  subst hcp
  have h := h.join hLp
  refine r_ldN _ (ldOk_below h.below lb) ?_
  refine r_ldA h.pl1 1 rfl rfl (by simp [hkao.1]) ?_
  refine r_ldA h.pl1 0 rfl rfl (by simp [hkbo.1]) ?_
  refine r_call h (c_spec_LinkPath (hB.at h) ⟨rfl, hkao⟩ ⟨rfl, hkbo⟩ hz) fun r154 w19 _ _ ⟨Lm, hLm, hOm, hcm⟩ => ?_
  obtain ⟨r154, c154⟩ := r154
  dsimp only at hOm hcm ⊢
  subst hcm
  have h := h.join hLm
  refine r_ldN _ (ldOk_below h.below lb) ?_
  refine r_ldA h.pl2 1 rfl rfl (by simp [hkao.1]) ?_
  refine r_bs1 T_sl_Key h (by simp [Value.cells, hkao.1]) (by omega) fun y160 w20 hS hn160 => ?_
  obtain ⟨Ly, hOy, h⟩ := hS.split
  have hOy : OwnKeyS y160 [ka] Ly := ⟨by simpa [Value.cells] using hOy, fun z hz => by rw [List.mem_singleton.1 hz]; exact hkao⟩
  refine r_call h (c_spec_ReachableFrom (hB.at h) (hOy.rd h) hz (by unfold sizeKeyS; simp)) fun r161 wy _ _ ⟨Le, hLe, hOe, hce⟩ => ?_
  obtain ⟨r161, c161⟩ := r161
  dsimp only at hOe hce ⊢
  have e3 : reachAns true B [ka] = (reachedK B [ka] true, 0) := by unfold reachAns; rw [if_pos hv, if_neg (by simp)]
  rw [e3] at hOe hce
  subst hce
  have h := h.join hLe
  have h : At wz wy ([] ++ (Le ++ (Ly ++ (Lm ++ (Lp ++ ([(b17, (u8s kb).toArray, ty_impl_Key), (b16, (u8s ka).toArray, ty_impl_Key)] ++ [])))))) := h
  have pR : KsR wy r147 (pathAns B ka kb).1 := hOp.rd h.pl4
  have mR : KsR wy r154 (pathAns B ka kb).1 := hOm.rd h.pl3
  have eR : KsR wy r161 (reachedK B [ka] true) := hOe.rd h.pl1
  have l17 : ldOk wy 32 (⟨b17, 0, none⟩ : Addr) .agg (u8s kb).toArray := ldOk_blk h.pl5 0 rfl (by simp [hkbo.1])
  have l16 : ldOk wy 32 (⟨b16, 0, none⟩ : Addr) .agg (u8s ka).toArray := ldOk_blk h.pl5 1 rfl (by simp [hkao.1])
  have lb : ldOk wy 1 (⟨b5, 0, none⟩ : Addr) .agg g := ldOk_below h.below lb
  have hB : RdStore wy g B := hB.at h
  have hwy := hwz.join h.nil
  have hE : kb ∈ reachedK B [ka] true ↔ GetsTo B [ka] kb := by
    rw [reachedK_mem]
    simp [hkbm]
  have hel : (reachedK B [ka] true).length ≤ 1073741824 := by
    have h1 := reachedK_len B [ka] true
    have h2 := sizeBs_valid hv
    rw [List.length_singleton] at h1
    omega
  have hpl : (pathAns B ka kb).1.length ≤ 1073741824 := by
    have := pathAns_len B ka kb
    omega
  have hP := pathAns_spec hv hkam hkbm
  have hpm := pathAns_mem B ka kb
  clear h hOp hOm hOe hOy hLp hLm hLe hS
  have hpn := pR.n
  have hmn := mR.n
  generalize (pathAns B ka kb) = A at *
  obtain ⟨P, cP⟩ := A
  dsimp only at pR mR hP hpl hpn hmn hpm ⊢
  refine r_join (σ := Unit) (fun _ w' => At wy w' []) (fun _ w21 h => ?_) ?_
  rotate_left
  · refine r_ne (fun hne => absurd rfl hne) (fun _ => ?_)
    refine r_call (At.refl wy) (c_EqualKeys pR mR hpl) fun r170 w21 h _ hr => ?_
    subst hr
    refine r_false (by simp) ?_
    refine r_false rfl ?_
    refine r_ldN (u8s kb).toArray (ldOk_below h.below l17) ?_
    refine r_call h (c_HasKey (eR.at h) hkbo hel) fun r182 w22 h _ hr => ?_
    subst hr
    refine r_pur (sh := .bool) _ (fun w' => run_neqB hbub _ _ _ _ w') ?_
    refine r_false ?_ ⟨(), rfl, h⟩
    rcases hP with ⟨h1, h2, _⟩ | ⟨h1, h2⟩
    · rw [decide_eq_true (hE.2 h1), h2]; rfl
    · rw [decide_eq_false (fun hh => h1 (hE.1 hh))]
      have : cP = 6 := congrArg Prod.snd h2
      rw [this]; rfl
  refine r_any fun _ => ?_
  rcases hP with ⟨h1, h2, hfirst, hlast, hch⟩ | ⟨h1, h2⟩
  rotate_left
  · have h6 : cP = 6 := congrArg Prod.snd h2
    subst h6
    refine r_true rfl ?_
    exact r_ret (hwy.join h).nil true rfl rfl
  have h2 : cP = 0 := h2
  subst h2
  refine r_false rfl ?_
  have hPl : 0 < P.length := by
    cases P with
    | nil => cases hfirst
    | cons => simp
  have hch := hch
  refine r_join (σ := Unit) (fun _ w' => At wy w' []) (fun _ w22 h => ?_) ?_
  rotate_left
  · refine r_draw h fun w22 h => ?_
    refine r_eq (fun h0 => absurd h0 (by omega)) (fun _ => ?_)
    obtain ⟨z, pz, hz1, hzm, hpz, hzo, hzl⟩ := (mR.at h).get (i := 0) (by omega)
    refine r_ix pz hpz (by omega) (by omega) ?_
    refine r_ldN (u8s z).toArray hzl ?_
    refine r_ldN (u8s ka).toArray (ldOk_below h.below l16) ?_
    have hza : z = ka := by
      rw [List.head?_eq_getElem?] at hfirst
      rw [hz1] at hfirst
      exact Option.some.inj hfirst
    refine r_rootEq hzo.1 hkao.1 (fun hne => absurd hza hne) (fun _ => ?_)
    obtain ⟨y, py, hy1, hym, hpy, hyo, hyl⟩ := (mR.at h).get (i := P.length - 1) (by omega)
    have e5 : IntKind.wrap .i64 ((r154.n : Int) - 1) = ((P.length - 1 : Nat) : Int) := by rw [w64 (by omega) (by omega)]; omega
    rw [e5]
    refine r_ix py hpy (by omega) (by omega) ?_
    simp only [Int.toNat_natCast]
    refine r_ldN (u8s y).toArray hyl ?_
    refine r_ldN (u8s kb).toArray (ldOk_below h.below l17) ?_
    have hyb : y = kb := by
      rw [List.getLast?_eq_getElem?, hy1] at hlast
      exact Option.some.inj hlast
    refine r_rootEq hyo.1 hkbo.1 (fun hne => absurd hyb hne) (fun _ => ?_)
    exact ⟨(), rfl, h⟩
  refine r_any fun _ => ?_
  refine r_loop (σ := Int) (fun st w' => ∃ n : Nat, st = n ∧ 1 ≤ n ∧ n ≤ P.length ∧ At wy w' []) (fun st _ => (r154.n - st).toNat) 1 rfl ⟨1, rfl, by omega, by omega, h⟩ ?_
  clear h
  rintro st w23 ⟨n, rfl, hn1, hn2, h⟩
  refine r_any fun _ => ?_
  refine r_if ((n : Int) < (r154.n : Int)) rfl (fun hlt => ?_) (fun hge => ?_)
  · obtain ⟨z, pz, hz1, hzm, hpz, hzo, hzl⟩ := mR.get (i := n - 1) (by omega)
    obtain ⟨y, py, hy1, hym, hpy, hyo, hyl⟩ := mR.get (i := n) (by omega)
    have hlink : y ∈ links (blobAt B z) := chainL_get hch hz1 (by rw [show n - 1 + 1 = n by omega]; exact hy1)
    have hzK : z ∈ keysOf B := hpm z hzm
    have e6 : getAns B z = (blobAt B z, 0) := by unfold getAns blobAt; rw [if_pos hv, if_pos hzK]
    refine r_join (σ := Addr × Int) (fun x w' => ∃ br : BR, x.2 = 0 ∧ br.pb = blobAt B z ∧ br.Ok w' ∧ ldOk w' 2 x.1 .agg br.cells.toArray ∧ At wy w' []) (fun x w24 hJ => ?_) ?_
    · obtain ⟨xa, xc⟩ := x
      obtain ⟨br, hx0, hbr, hok, hld, h⟩ := hJ
      dsimp only at hx0 hld
      subst hx0
      refine r_any fun _ => ?_
      dsimp only
      have hdl : br.data.length ≤ 1024 := by
        have := blobAt_len hv.2.1 z
        rw [← hbr] at this
        exact this
      refine r_ldN _ hld ?_
      refine r_call h (c_impl_LinksOf hok hdl) fun r227 w25 h _ ⟨Ll, hLl, hOl, hcl⟩ => ?_
      obtain ⟨r227, c227⟩ := r227
      dsimp only at hOl hcl ⊢
      subst hcl
      refine r_false rfl ?_
      refine r_false rfl ?_
      refine r_ix py hpy (by omega) (by omega) ?_
      simp only [Int.toNat_natCast]
      refine r_ldN (u8s y).toArray (ldOk_below h.below hyl) ?_
      rw [hbr] at hOl
      have hA : At w24 w25 (Ll ++ []) := by rw [List.append_nil]; exact hLl
      have hll := links_len (blobAt B z)
      have hbl := blobAt_len hv.2.1 z
      refine r_call h (c_HasKey (hOl.rd hA) hyo (by omega)) fun r242 w26 h _ hr => ?_
      subst hr
      refine r_false (by rw [decide_eq_true hlink]; rfl) ?_
      exact ⟨((n + 1 : Nat) : Int), by rw [w64 (by omega) (by omega)]; rfl, ⟨n + 1, rfl, by omega, by omega, h⟩, by omega⟩
    · refine r_draw h fun w24 h => ?_
      refine r_ldN _ (ldOk_below h.below lb) ?_
      rw [w64 (n := (n : Int) - 1) (by omega) (by omega), show (n : Int) - 1 = ((n - 1 : Nat) : Int) by omega]
      refine r_ix pz hpz (by omega) (by omega) ?_
      simp only [Int.toNat_natCast]
      refine r_ldN (u8s z).toArray (ldOk_below h.below hzl) ?_
      refine r_all2 ?_ (?_)
      · refine r_call h (c_spec_GetBlob (hB.at h) ⟨rfl, hzo⟩ hz) fun r222 w25 _ _ ⟨Lg, hLg, hOg, hcg⟩ => ?_
        obtain ⟨r222, c222⟩ := r222
        rw [e6] at hOg hcg
        dsimp only at hOg hcg ⊢
        subst hcg
        have h := h.join hLg
        refine r_new h fun b25 w26 h => ?_
        refine r_stA h 0 rfl rfl hOg.sz rfl hOg.one fun w27 h => ?_
        have h : At wy w27 ([(b25, r222, ty_impl_Blob)] ++ (Lg ++ [])) := h
        obtain ⟨br, hbr1, hbr2, hbr3⟩ := hOg.rd h.pl1
        have hl := ldOk_blk (n := 2) h 0 rfl hOg.sz
        rw [hbr1] at hl
        exact ⟨(⟨b25, 0, none⟩, 0), rfl, br, rfl, hbr2, hbr3, hl, h.nil⟩
      · refine r_new h fun b25 w26 h => ?_
        refine r_chk2 (ldOk_below h.below hzl) (ldOk_below h.below lb) ?_
        refine r_call h (c_spec_GetBlob (hB.at h) ⟨rfl, hzo⟩ hz) fun r222 w27 _ _ ⟨Lg, hLg, hOg, hcg⟩ => ?_
        obtain ⟨r222, c222⟩ := r222
        rw [e6] at hOg hcg
        dsimp only at hOg hcg ⊢
        subst hcg
        have h := (h.join hLg).swap
        refine r_stA h 0 rfl rfl hOg.sz rfl hOg.one fun w28 h => ?_
        have h : At wy w28 ([(b25, r222, ty_impl_Blob)] ++ Lg) := h
        have h : At wy w28 ([(b25, r222, ty_impl_Blob)] ++ (Lg ++ [])) := by rw [List.append_nil]; exact h
        obtain ⟨br, hbr1, hbr2, hbr3⟩ := hOg.rd h.pl1
        have hl := ldOk_blk (n := 2) h 0 rfl hOg.sz
        rw [hbr1] at hl
        exact ⟨(⟨b25, 0, none⟩, 0), rfl, br, rfl, hbr2, hbr3, hl, h.nil⟩
  · exact r_ret (hwy.join h).nil true rfl rfl)
end Go.Proofs.YtkifkdkjljcclaaGreat
