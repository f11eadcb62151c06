/- Collecting: what is reachable stays, once is as twice, nothing more is missing. Plain. FnCollected: the law's walk. -/
import Derived.Test.YtkifkdkjljcclaaGreatPkLCol35
import Derived.Test.YtkifkdkjljcclaaGreatPkLCol39
namespace Go.Proofs.YtkifkdkjljcclaaGreat
open Go.Sx Go.RowKit

theorem blobAt_own {B : List PB} (ha : Asc (keysOf B)) {b : PB} (hb : b ∈ B) : blobAt B b.key = b := by
  obtain ⟨i, hi⟩ := List.mem_iff_getElem?.1 hb
  have hk := keysOf_get hi
  have hp := (posK_mem ha).1 (List.mem_of_getElem? hk)
  have := asc_inj ha hp hk
  unfold blobAt
  rw [this]
  simp [List.getD, hi]
def keptB (B : List PB) (R : List (List Int)) : List PB := B.filter fun b => decide (b.key ∈ reachL B R)
theorem kept_valid {B : List PB} (hv : validS B) (R : List (List Int)) : validS (keptB B R) := validS_filter hv _
theorem keysOf_filter (B : List PB) (p : List Int → Bool) : keysOf (B.filter fun b => p b.key) = (keysOf B).filter p := by
  unfold keysOf
  rw [List.filter_map]
  rfl
theorem kept_keys (B : List PB) (R : List (List Int)) : keysOf (keptB B R) = (keysOf B).filter fun k => decide (k ∈ reachL B R) := keysOf_filter B fun k => decide (k ∈ reachL B R)
theorem kept_mem {B : List PB} {R : List (List Int)} {k : List Int} : k ∈ keysOf (keptB B R) ↔ k ∈ keysOf B ∧ GetsTo B R k := by
  rw [kept_keys, List.mem_filter, decide_eq_true_eq, mem_reachL]
theorem kept_blob {B : List PB} (hv : validS B) {R : List (List Int)} {k : List Int} (h : k ∈ keysOf (keptB B R)) : blobAt (keptB B R) k = blobAt B k := by
  have hm := blobAt_mem (kept_valid hv R).2.2 h
  have hm2 : blobAt (keptB B R) k ∈ B := (List.mem_filter.1 hm).1
  obtain ⟨b, hb, rfl⟩ := List.mem_map.1 h
  rw [blobAt_own (kept_valid hv R).2.2 hb, blobAt_own hv.2.2 (List.mem_filter.1 hb).1]
theorem getsTo_mono {B : List PB} {R S : List (List Int)} (hs : ∀ k ∈ R, k ∈ S) {k : List Int} (h : GetsTo B R k) : GetsTo B S k := by
  induction h with
  | root h => exact .root (hs _ h)
  | link _ h ih => exact .link ih h
theorem kept_getsTo {B : List PB} (hv : validS B) {R S : List (List Int)} (hs : ∀ k ∈ S, k ∈ R) {k : List Int} : GetsTo (keptB B R) S k ↔ GetsTo B S k := by
  constructor
  · intro h
    induction h with
    | root h => exact .root h
    | @link k l _ h ih =>
      refine .link ih ?_
      unfold nextOf at h ⊢
      split at h
      · rename_i hk
        rw [if_pos (kept_mem.1 hk).1, ← kept_blob hv hk]
        exact h
      · cases h
  · intro h
    induction h with
    | root h => exact .root h
    | @link k l hg h ih =>
      refine .link ih ?_
      unfold nextOf at h ⊢
      split at h
      · rename_i hk
        have hk' : k ∈ keysOf (keptB B R) := kept_mem.2 ⟨hk, getsTo_mono hs hg⟩
        rw [if_pos hk', kept_blob hv hk']
        exact h
      · cases h
theorem kept_twice {B : List PB} (hv : validS B) (R : List (List Int)) : keptB (keptB B R) R = keptB B R := by
  show (keptB B R).filter (fun b => decide (b.key ∈ reachL (keptB B R) R)) = _
  refine List.filter_eq_self.2 fun b hb => ?_
  rw [decide_eq_true_eq, mem_reachL, kept_getsTo hv fun k hk => hk]
  exact (kept_mem.1 (List.mem_map_of_mem (f := PB.key) hb)).2
theorem kept_reached {B : List PB} (hv : validS B) (R : List (List Int)) : reachedK B R true = keysOf (keptB B R) :=
  (reachedK_is (kept_valid hv R).2.2 fun k => by rw [kept_mem]; simp [and_comm]).symm
theorem kept_missing {B : List PB} (hv : validS B) {R S : List (List Int)} (hs : ∀ k ∈ S, k ∈ R) : reachedK (keptB B R) S false = reachedK B S false := by
  refine (reachedK_is (reachedK_asc B S false) fun k => ?_).symm
  rw [reachedK_mem, kept_getsTo hv hs, decide_eq_false_iff_not, decide_eq_false_iff_not, kept_mem]
  constructor
  · rintro ⟨h1, h2⟩
    exact ⟨h1, fun hh => h2 hh.1⟩
  · rintro ⟨h1, h2⟩
    exact ⟨h1, fun hh => h2 ⟨hh, getsTo_mono hs h1⟩⟩
theorem kept_count (B : List PB) (R : List (List Int)) : ((keysOf B).filter fun k => !decide (k ∈ reachL B R)).length + (keptB B R).length = B.length := by
  have h1 : (keptB B R).length = ((keysOf B).filter fun k => decide (k ∈ reachL B R)).length := by rw [← kept_keys, keysOf_len]
  rw [h1]
  have key : ∀ (p : List Int → Bool) (l : List (List Int)), (l.filter fun k => !p k).length + (l.filter p).length = l.length := by
    intro p l
    induction l with
    | nil => rfl
    | cons x r ih =>
      cases h : p x <;> simp [h] <;> omega
  have := key (fun k => decide (k ∈ reachL B R)) (keysOf B)
  rw [keysOf_len] at this
  exact this
theorem coll_code {B : List PB} (hv : validS B) {roots : List (List Int)} {ls : List PL} {now : Int} (hr : roots.length ≤ 256) (hl : ls.length ≤ 32) (ht : timely ls = true) (hn : isTime now = true) : aliveCode B roots ls now = 0 := by
  unfold aliveCode
  rw [if_pos ⟨hv, ht⟩, if_neg (by omega), if_pos hn]
end Go.Proofs.YtkifkdkjljcclaaGreat

namespace Go.Proofs.YtkifkdkjljcclaaGreat
open Go.Sx Go.RowKit

theorem run_mkLeaseF (f : Nat → Value) (n : Int) (w : World) : (Instr.build ty_impl_Lease #[(0, (.agg ((List.range 32).map f).toArray)), (1, (.int .i64 n))]).run Tryz.prog w = .ok (.agg ((List.range 32).map f ++ [Value.int .i64 n]).toArray) w := by kernel_rfl
theorem run_mkLease {k : List Int} (hk : keyOk k) (n : Int) (w : World) : (Instr.build ty_impl_Lease #[(0, (.agg (u8s k).toArray)), (1, (.int .i64 n))]).run Tryz.prog w = .ok (.agg (leaseC (k, n)).toArray) w := by
  unfold leaseC
  rw [list32 (l := u8s k) (by rw [u8s_len]; exact hk.1)]
  exact run_mkLeaseF _ n w
theorem c_lawCollected {w : World} {sc sm : Sl} {dc dm : List Int} (hc : SlAt w sc 1 (u8s dc)) (hcb : bytesOk dc) (hm : SlAt w sm 1 (u8s dm)) (hmb : bytesOk dm) :
    Ret Tryz.prog n_laws_FnCollected [.slice sc.a sc.n sc.c, .slice sm.a sm.n sm.c] w [.bool] (fun r _ => r = true) := laws_FnCollected_calls _ _ (by
  unfold laws_FnCollected
  refine r_join (σ := Unit) (fun _ w' => At w w' []) (fun _ w1 h => ?_) ?_
  rotate_left
  · refine r_callp (c_f6big sc) ?_
    by_cases hbig : 4096 < sc.n
    · exact r_true (decide_eq_true hbig) (r_ret (At.refl w) true rfl rfl)
    refine r_false (decide_eq_false hbig) ?_
    refine r_callp (c_f6big sm) ?_
    by_cases hbig2 : 4096 < sm.n
    · exact r_true (decide_eq_true hbig2) (r_ret (At.refl w) true rfl rfl)
    exact r_false (decide_eq_false hbig2) ⟨(), rfl, At.refl w⟩
  refine r_any fun _ => ?_
  refine r_call h (c_P6Rooted (hc.at h) hcb) fun r40 w2 _ _ ⟨L1, L2, B, ks, hL, hO, hOk, hv, hkl⟩ => ?_
  obtain ⟨g, sk⟩ := r40
  dsimp only at hO hOk ⊢
  have h := h.join hL
  have h : At w w2 (L1 ++ (L2 ++ [])) := by
    rw [List.append_assoc] at h
    exact h
  refine r_new h fun b5 w3 h => ?_
  refine r_stA h 0 rfl rfl hO.sz rfl hO.one fun wk hk0 => ?_
  have hk0 : At w wk ([(b5, g, ty_impl_Store)] ++ (L1 ++ (L2 ++ []))) := hk0
  have hz : sizeBs B ≤ 1073741824 := by have := sizeBs_valid hv; omega
  have hB : RdStore wk g B := hO.rd hk0.pl1
  have sR : KsR wk sk ks := hOk.rd hk0.pl2
  have lb : ldOk wk 1 (⟨b5, 0, none⟩ : Addr) .agg g := ldOk_blk hk0 0 rfl hO.sz
  have l5 : ∃ s5 : Sl, s5.n = B.length ∧ ldOk wk 1 ((⟨b5, 0, none⟩ : Addr).add 0) .slice s5 := by
    obtain ⟨s, bs, rfl, hpb, hs⟩ := id hB
    exact ⟨s, by rw [hs.n, ← hpb, List.length_map], ldOk_own (sh := .slice) hk0 0 rfl 0 rfl (by simp [Sh.emb])⟩
  obtain ⟨s5, hs5, l5⟩ := l5
  have hB128 := hv.1
  have hKl : (keysOf B).length = B.length := keysOf_len B
  have h := At.refl wk
  refine r_ldN _ (ldOk_below h.below lb) ?_
  refine r_call h (c_spec_KeysOfStore (hB.at h) hz hv) fun r45 w4 _ _ ⟨Lk, hLk, hOK, hck⟩ => ?_
  obtain ⟨r45, c45⟩ := r45
  dsimp only at hOK hck ⊢
  subst hck
  have h := h.join hLk
  have hkn := hOK.n
  refine r_bs0 T_sl_Lease h fun y48 w5 hy hyn => ?_
  refine r_join (σ := Sl) (fun sl w' => ∃ (ls : List PL) (Ll : List Blk), OwnLeaseS sl ls Ll ∧ (ls = [] ∨ ∃ k, keyOk k ∧ ls = [(k, 5)]) ∧ At wk w' (Ll ++ (Lk ++ []))) (fun sl w6 hJ => ?_) ?_
  rotate_left
  · refine r_if ((r45.n : Int) > 0) rfl (fun hpos => ?_) (fun hz0 => ?_)
    · obtain ⟨Ly, hOy, h⟩ := hy.split
      have hm := ((hm.at hk0).at h)
      refine r_call h (c_P6Pick r45.n hm hmb (by omega) (by omega)) fun r57 w6 h _ ⟨i, hi, hi2⟩ => ?_
      subst hi
      obtain ⟨kx, pk, hkx, hkm, hpk, hko, hkl2⟩ := KsR.get (hOK.rd h.pl1 : KsR _ _ _) (i := i) (by omega)
      refine r_ix pk hpk (by omega) (by omega) ?_
      simp only [Int.toNat_natCast]
      refine r_ldN (u8s kx).toArray hkl2 ?_
      refine r_pur (sh := .agg) _ (fun w' => run_mkLease hko 5 w') ?_
      refine r_push T_sl_Lease (hOy.slo h) (v := .agg (leaseC (kx, 5)).toArray) (by simpa [Value.cells] using leaseC_len (l := (kx, 5)) hko) (by omega) (by simpa [Value.cells] using leaseC_one (kx, 5)) (by omega) (by omega) fun y62 w7 hS hn62 => ?_
      obtain ⟨Ll, hOl, h⟩ := hS.split
      exact ⟨y62, rfl, [(kx, 5)], Ll, ⟨by simpa [Value.cells] using hOl, fun l hl => by rw [List.mem_singleton.1 hl]; exact hko⟩, .inr ⟨kx, hko, rfl⟩, h⟩
    · obtain ⟨Ly, hOy, h⟩ := hy.split
      exact ⟨y48, rfl, [], Ly, ⟨by simpa using hOy, by simp⟩, .inl rfl, h⟩
  obtain ⟨ls, Ll, hOl, hls, h⟩ := hJ
  refine r_any fun _ => ?_
  have lR : LsR w6 sl ls := hOl.rd h
  have hll : ls.length ≤ 1 := by rcases hls with rfl | ⟨k, _, rfl⟩ <;> simp
  have htl : timely ls = true := by
    rcases hls with rfl | ⟨k, _, rfl⟩
    · rfl
    · simp [timely, isTime]
  have hln := lR.n
  have hk6 := hk0.join h.nil
  have hB := hB.at h
  have sR := sR.at h
  have lb := ldOk_below h.below lb
  have l5 := ldOk_below h.below l5
  have hm := (hm.at hk0).at h
  clear h hO hOk hL hLk hOK hy hOl
  have h := At.refl w6
  refine r_call h (c_P6Pick 10 (hm.at h) hmb (by omega) (by omega)) fun r64 w7 h _ ⟨now, hnow, hnow2⟩ => ?_
  subst hnow
  have hcode := coll_code hv (roots := ks) (ls := ls) (now := (now : Int)) (by omega) (by omega) htl (by simp only [isTime]; exact decide_eq_true ⟨by omega, by omega⟩)
  have hcv := kept_valid hv (needRoots ks ls (now : Int))
  have hcode2 := coll_code hcv (roots := ks) (ls := ls) (now := (now : Int)) (by omega) (by omega) htl (by simp only [isTime]; exact decide_eq_true ⟨by omega, by omega⟩)
  have e1 : collAns B ks ls (now : Int) = (keptB B (needRoots ks ls (now : Int)), 0) := by unfold collAns keptB; rw [if_pos hcode]
  have e2 : collAns (keptB B (needRoots ks ls (now : Int))) ks ls (now : Int) = (keptB B (needRoots ks ls (now : Int)), 0) := by
    have : collAns (keptB B (needRoots ks ls (now : Int))) ks ls (now : Int) = (keptB (keptB B (needRoots ks ls (now : Int))) (needRoots ks ls (now : Int)), 0) := by
      generalize keptB B (needRoots ks ls (now : Int)) = C at *
      unfold collAns keptB
      rw [if_pos hcode2]
    rw [this, kept_twice hv]
  have e3 : deadAns B ks ls (now : Int) = ((keysOf B).filter fun k => !decide (k ∈ reachL B (needRoots ks ls (now : Int))), 0) := by unfold deadAns; rw [if_pos hcode]
  have hcount := kept_count B (needRoots ks ls (now : Int))
  have hreach := kept_reached hv (needRoots ks ls (now : Int))
  have hmiss := kept_missing hv (R := needRoots ks ls (now : Int)) (S := ks) (fun k hk => List.mem_append_left _ hk)
  have hR : needRoots ks ls (now : Int) = ks ++ leaseKeys (now : Int) ls := rfl
  have hRl : (needRoots ks ls (now : Int)).length ≤ 5 := by
    have := leaseKeys_len (now : Int) ls
    rw [hR, List.length_append]
    omega
  have hzC : sizeBs (keptB B (needRoots ks ls (now : Int))) ≤ 1073741824 := by have := sizeBs_valid hcv; omega
  generalize hRR : needRoots ks ls (now : Int) = R at *
  generalize hCC : keptB B R = C at *
  refine r_ldN _ (ldOk_below h.below lb) ?_
  refine r_call h (c_impl_Collect (hB.at h) (sR.at h) (lR.at h) hz (by unfold sizeKeyS; omega) (by unfold sizeLeaseS; omega)) fun r70 w8 _ _ ⟨La, hLa, hOa, hca⟩ => ?_
  obtain ⟨r70, c70⟩ := r70
  dsimp only at hOa hca ⊢
  rw [e1] at hOa hca
  subst hca
  have h := h.join hLa
  refine r_new h fun b11 w9 h => ?_
  refine r_stA h 0 rfl rfl hOa.sz rfl hOa.one fun w10 h => ?_
  have h : At w6 w10 ([(b11, r70, ty_impl_Store)] ++ (La ++ [])) := h
  refine r_ldN _ (ldOk_below h.below lb) ?_
  refine r_call h (c_spec_Collect (hB.at h) (sR.at h) (lR.at h) hz (by unfold sizeKeyS; omega) (by unfold sizeLeaseS; omega)) fun r78 w11 _ _ ⟨Lb, hLb, hOb, hcb⟩ => ?_
  obtain ⟨r78, c78⟩ := r78
  dsimp only at hOb hcb ⊢
  rw [e1] at hOb hcb
  subst hcb
  have h := h.join hLb
  refine r_new h fun b13 w12 h => ?_
  refine r_stA h 0 rfl rfl hOb.sz rfl hOb.one fun w13 h => ?_
  have h : At w6 w13 ([(b13, r78, ty_impl_Store)] ++ (Lb ++ ([(b11, r70, ty_impl_Store)] ++ (La ++ [])))) := h
  refine r_ldN _ (ldOk_below h.below lb) ?_
  refine r_call h (c_impl_DeadIn (hB.at h) (sR.at h) (lR.at h) hz (by unfold sizeKeyS; omega) (by unfold sizeLeaseS; omega)) fun r86 w14 _ _ ⟨Lc, hLc, hOc, hcc⟩ => ?_
  obtain ⟨r86, c86⟩ := r86
  dsimp only at hOc hcc ⊢
  rw [e3] at hOc hcc
  subst hcc
  have h := h.join hLc
  refine r_ldN _ (ldOk_below h.below lb) ?_
  refine r_call h (c_spec_DeadIn (hB.at h) (sR.at h) (lR.at h) hz (by unfold sizeKeyS; omega) (by unfold sizeLeaseS; omega)) fun r94 w15 _ _ ⟨Ld, hLd, hOd, hcd⟩ => ?_
  obtain ⟨r94, c94⟩ := r94
  dsimp only at hOd hcd ⊢
  rw [e3] at hOd hcd
  subst hcd
  have h := h.join hLd
  refine r_ldA h.pl2 0 rfl rfl hOb.sz ?_
  refine r_call h (c_impl_Collect (hOb.rd h.pl3) (sR.at h) (lR.at h) hzC (by unfold sizeKeyS; omega) (by unfold sizeLeaseS; omega)) fun r102 w16 _ _ ⟨Le, hLe, hOe, hce⟩ => ?_
  obtain ⟨r102, c102⟩ := r102
  dsimp only at hOe hce ⊢
  rw [e2] at hOe hce
  subst hce
  have h := h.join hLe
  refine r_new h fun b19 w17 h => ?_
  refine r_stA h 0 rfl rfl hOe.sz rfl hOe.one fun wz h => ?_
  have h : At w6 wz ([(b19, r102, ty_impl_Store)] ++ (Le ++ (Ld ++ (Lc ++ ([(b13, r78, ty_impl_Store)] ++ (Lb ++ ([(b11, r70, ty_impl_Store)] ++ (La ++ [])))))))) := h
  have aR : RdStore wz r70 C := hOa.rd h.pl7
  have bR : RdStore wz r78 C := hOb.rd h.pl5
  have eR : RdStore wz r102 C := hOe.rd h.pl1
  have cR : KsR wz r86 ((keysOf B).filter fun k => !decide (k ∈ reachL B R)) := hOc.rd h.pl3
  have dR : KsR wz r94 ((keysOf B).filter fun k => !decide (k ∈ reachL B R)) := hOd.rd h.pl2
  have l11 : ldOk wz 1 (⟨b11, 0, none⟩ : Addr) .agg r70 := ldOk_blk h.pl6 0 rfl hOa.sz
  have l13 : ldOk wz 1 (⟨b13, 0, none⟩ : Addr) .agg r78 := ldOk_blk h.pl4 0 rfl hOb.sz
  have l19 : ldOk wz 1 (⟨b19, 0, none⟩ : Addr) .agg r102 := ldOk_blk h 0 rfl hOe.sz
  have hB := hB.at h
  have sR := sR.at h
  have lR := lR.at h
  have lb := ldOk_below h.below lb
  have l5 := ldOk_below h.below l5
  have hwz := hk6.join h.nil
  have m13 : ∃ s13 : Sl, s13.n = C.length ∧ ldOk wz 1 ((⟨b13, 0, none⟩ : Addr).add 0) .slice s13 := by
    obtain ⟨s, bs, rfl, hpb, hs⟩ := id bR
    exact ⟨s, by rw [hs.n, ← hpb, List.length_map], ldOk_own (sh := .slice) h.pl4 0 rfl 0 rfl (by simp [Sh.emb])⟩
  obtain ⟨s13, hs13, m13⟩ := m13
  have hdl : ((keysOf B).filter fun k => !decide (k ∈ reachL B R)).length ≤ B.length := by omega
  have hcn := cR.n
  have hdn := dR.n
  have hCl : C.length ≤ B.length := by omega
  clear h hOa hOb hOc hOd hOe hLa hLb hLc hLd hLe
  refine r_join (σ := Unit) (fun _ w' => At wz w' []) (fun _ w18 h => ?_) ?_
  rotate_left
  · refine r_false rfl ?_
    refine r_false rfl ?_
    refine r_false rfl ?_
    have h := At.refl wz
    refine r_ldN _ (ldOk_below h.below l11) ?_
    refine r_ldN _ (ldOk_below h.below l13) ?_
    refine r_call h (c_SameStore (aR.at h) (bR.at h) hzC) fun r119 w18 h _ hr => ?_
    subst hr
    refine r_false (by simp) ?_
    refine r_false rfl ?_
    refine r_call h (c_EqualKeys (cR.at h) (dR.at h) (by omega)) fun r130 w19 h _ hr => ?_
    subst hr
    refine r_false (by simp) ?_
    refine r_false rfl ?_
    refine r_ldN _ (ldOk_below h.below l19) ?_
    refine r_ldN _ (ldOk_below h.below l13) ?_
    refine r_call h (c_SameStore (eR.at h) (bR.at h) hzC) fun r140 w20 h _ hr => ?_
    subst hr
    refine r_false (by simp) ?_
    refine r_ldN (sh := .slice) s13 (ldOk_below h.below m13) ?_
    refine r_ldN (sh := .slice) s5 (ldOk_below h.below l5) ?_
    rw [w64 (n := (r94.n : Int) + (s13.n : Int)) (by omega) (by omega)]
    refine r_ne (fun hne => absurd (by omega) hne) (fun _ => ?_)
    exact ⟨(), rfl, h⟩
  refine r_any fun _ => ?_
  have hskn := sR.n
  refine r_bs0 T_sl_Key h fun y155 w19 hy hyn => ?_
  refine r_append T_sl_Key hy (sR.at hy.at_).of.sl (by rw [flatU8]; exact u8s_one) (by omega) (by omega) fun y157 w20 hS hn157 => ?_
  have hS : SlO wz w20 [] ty_impl_Key 32 y157 (ks.flatMap u8s) := by simpa using hS
  refine r_join (σ := Sl) (fun sa w' => ∃ La, OwnKeyS sa R La ∧ At wz w' (La ++ [])) (fun sa w21 hJ => ?_) ?_
  rotate_left
  · refine r_join (σ := Bool) (fun b w' => b = decide (ls ≠ [] ∧ (now : Int) ≤ 5) ∧ w' = w20) (fun b w21 hJ => ?_) ?_
    rotate_left
    · refine r_if ((sl.n : Int) > 0) rfl (fun hpos => ?_) (fun hz0 => ?_)
      · refine ⟨_, rfl, ?_, rfl⟩
        have : ls ≠ [] := fun hh => by rw [hh] at hln; simp at hln; omega
        simp [this]
      · refine ⟨false, rfl, ?_, rfl⟩
        have : ls = [] := List.eq_nil_of_length_eq_zero (by omega)
        simp [this]
    obtain ⟨rfl, rfl⟩ := hJ
    refine r_any fun _ => ?_
    refine r_if (ls ≠ [] ∧ (now : Int) ≤ 5) rfl (fun hyes => ?_) (fun hno => ?_)
    · rcases hls with rfl | ⟨k, hko, rfl⟩
      · exact absurd rfl hyes.1
      obtain ⟨l, pl, hl1, _, hpl, hlo, _, hlk, _⟩ := (LsR.at lR hS.at_).get (i := 0) (by simp)
      simp at hl1
      subst hl1
      refine r_ix pl hpl (by omega) (by simp at hln; omega) ?_
      refine r_ldN (u8s k).toArray hlk ?_
      refine r_push T_sl_Key hS (v := .agg (u8s k).toArray) (by simp [Value.cells, hko.1]) (by omega) (by simpa [Value.cells] using u8s_one) (by omega) (by omega) fun y171 w22 hS2 hn171 => ?_
      obtain ⟨La, hOa, h⟩ := hS2.split
      refine ⟨y171, rfl, La, ⟨?_, ?_⟩, h⟩
      · have : R = ks ++ [k] := by
          first | rw [← hRR, hR] | rw [hR]
          unfold leaseKeys
          have hn5 := hyes.2
          have h5 : decide ((5 : Int) ≥ (now : Int)) = true := decide_eq_true (by omega)
          simp [h5]
        rw [this]
        simpa [Value.cells, List.flatMap_append] using hOa
      · intro z hz'
        first | rw [← hRR, hR] at hz' | rw [hR] at hz'
        rcases List.mem_append.1 hz' with hz' | hz'
        · exact sR.ok z hz'
        · exact leaseKeys_ok (fun l hl => lR.ok l hl) z hz'
    · obtain ⟨La, hOa, h⟩ := hS.split
      have hRk : R = ks := by
        first | rw [← hRR, hR] | rw [hR]
        rcases hls with rfl | ⟨k, hko, rfl⟩
        · simp [leaseKeys]
        · have : ¬ (now : Int) ≤ 5 := fun hh => hno ⟨by simp, hh⟩
          unfold leaseKeys
          have h5 : decide ((5 : Int) ≥ (now : Int)) = false := decide_eq_false (by omega)
          simp [h5]
      exact ⟨y157, rfl, La, by rw [hRk]; exact ⟨hOa, sR.ok⟩, h⟩
  obtain ⟨La, hOa, h⟩ := hJ
  refine r_any fun _ => ?_
  have f1 : reachAns true B R = (keysOf C, 0) := by unfold reachAns; rw [if_pos hv, if_neg (by omega), hreach]
  have f2 : reachAns false B ks = (reachedK B ks false, 0) := by unfold reachAns; rw [if_pos hv, if_neg (by omega)]
  have f3 : reachAns false C ks = (reachedK B ks false, 0) := by unfold reachAns; rw [if_pos hcv, if_neg (by omega), hmiss]
  have hml : (reachedK B ks false).length ≤ 1073741824 := by
    have h1 := reachedK_len B ks false
    have h2 := sizeBs_valid hv
    omega
  have hCk : (keysOf C).length = C.length := keysOf_len C
  refine r_ldN _ (ldOk_below h.below lb) ?_
  refine r_call h (c_impl_ReachableFrom (hB.at h) (hOa.rd h) hz (by unfold sizeKeyS; omega)) fun r175 w22 _ _ ⟨Lb, hLb, hOb, hcb⟩ => ?_
  obtain ⟨r175, c175⟩ := r175
  dsimp only at hOb hcb ⊢
  rw [f1] at hOb hcb
  subst hcb
  have h := h.join hLb
  refine r_ldN _ (ldOk_below h.below l13) ?_
  refine r_call h (c_impl_KeysOfStore (bR.at h) hzC hcv) fun r180 w23 _ _ ⟨Lc, hLc, hOc, hcc⟩ => ?_
  obtain ⟨r180, c180⟩ := r180
  dsimp only at hOc hcc ⊢
  subst hcc
  have h := h.join hLc
  refine r_ldN _ (ldOk_below h.below lb) ?_
  refine r_call h (c_impl_MissingFrom (hB.at h) (sR.at h) hz (by unfold sizeKeyS; omega)) fun r186 w24 _ _ ⟨Ld, hLd, hOd, hcd⟩ => ?_
  obtain ⟨r186, c186⟩ := r186
  dsimp only at hOd hcd ⊢
  rw [f2] at hOd hcd
  subst hcd
  have h := h.join hLd
  refine r_ldN _ (ldOk_below h.below l13) ?_
  refine r_call h (c_impl_MissingFrom (bR.at h) (sR.at h) hzC (by unfold sizeKeyS; omega)) fun r192 w25 _ _ ⟨Le, hLe, hOe, hce⟩ => ?_
  obtain ⟨r192, c192⟩ := r192
  dsimp only at hOe hce ⊢
  rw [f3] at hOe hce
  subst hce
  have h := h.join hLe
  refine r_ldN _ (ldOk_below h.below lb) ?_
  refine r_call h (c_spec_MissingFrom (hB.at h) (sR.at h) hz (by unfold sizeKeyS; omega)) fun r198 w26 _ _ ⟨Lf, hLf, hOf, hcf⟩ => ?_
  obtain ⟨r198, c198⟩ := r198
  dsimp only at hOf hcf ⊢
  rw [f2] at hOf hcf
  subst hcf
  have h := h.join hLf
  have h : At wz w26 ([] ++ (Lf ++ (Le ++ (Ld ++ (Lc ++ (Lb ++ (La ++ []))))))) := h
  have gb : KsR w26 r175 (keysOf C) := hOb.rd h.pl5
  have gc : KsR w26 r180 (keysOf C) := hOc.rd h.pl4
  have gd : KsR w26 r186 (reachedK B ks false) := hOd.rd h.pl3
  have ge : KsR w26 r192 (reachedK B ks false) := hOe.rd h.pl2
  have gf : KsR w26 r198 (reachedK B ks false) := hOf.rd h.pl1
  have hwy := hwz.join h.nil
  clear h
  have h := At.refl w26
  refine r_true rfl ?_
  refine r_true rfl ?_
  refine r_call h (c_EqualKeys (gb.at h) (gc.at h) (by omega)) fun r210 w27 h _ hr => ?_
  subst hr
  refine r_true (by simp) ?_
  refine r_true rfl ?_
  refine r_true rfl ?_
  refine r_call h (c_EqualKeys (gd.at h) (gf.at h) hml) fun r224 w28 h _ hr => ?_
  subst hr
  refine r_true (by simp) ?_
  refine r_call h (c_EqualKeys (ge.at h) (gf.at h) hml) fun r229 w29 h _ hr => ?_
  subst hr
  exact r_ret (hwy.join h).nil _ rfl (by simp))
end Go.Proofs.YtkifkdkjljcclaaGreat
