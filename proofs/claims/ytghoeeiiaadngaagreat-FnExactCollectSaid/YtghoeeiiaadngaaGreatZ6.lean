/- DeadIn, Collect: what the program and the reference answer. -/
import Derived.Test.YtghoeeiiaadngaaGreatZ5
namespace Go.Proofs.YtghoeeiiaadngaaGreat
open Go.Sx Go.RowKit

def deadAns (B : List PB) (roots : List (List Int)) (ls : List PL) (now : Int) : List (List Int) × Int := if aliveCode B roots ls now = 0 then ((keysOf B).filter fun k => !decide (k ∈ reachL B (needRoots roots ls now)), 0) else ([], aliveCode B roots ls now)
def collAns (B : List PB) (roots : List (List Int)) (ls : List PL) (now : Int) : List PB × Int := if aliveCode B roots ls now = 0 then (B.filter fun b => decide (b.key ∈ reachL B (needRoots roots ls now)), 0) else ([], aliveCode B roots ls now)
theorem deadAns_small (B : List PB) (roots : List (List Int)) (ls : List PL) (now : Int) : sizeKeyS (deadAns B roots ls now).1 ≤ sizeBs B := by
  unfold deadAns sizeKeyS
  split
  · have h1 := List.length_filter_le (fun k => !decide (k ∈ reachL B (needRoots roots ls now))) (keysOf B)
    rw [keysOf_len] at h1
    have h2 := le_sizeBs B
    dsimp only
    omega
  · simp
theorem deadAns_msmall (B : List PB) (roots : List (List Int)) (ls : List PL) (now : Int) : msizeKeyS (deadAns B roots ls now).1 ≤ 32 * sizeBs B := by
  have := deadAns_small B roots ls now
  unfold sizeKeyS at this
  unfold msizeKeyS
  omega
theorem collAns_small (B : List PB) (roots : List (List Int)) (ls : List PL) (now : Int) : sizeBs (collAns B roots ls now).1 ≤ sizeBs B := by
  unfold collAns
  split
  · exact sizeBs_sub List.filter_sublist
  · simp [sizeBs]
theorem msizeL_eq (ls : List PL) : msizeLeaseS ls = 33 * sizeLeaseS ls := rfl

/-! ### The program -/
theorem c_DeadIn_1 {w : World} {p : Addr} {rm : Nat} {o : Obj} {out : List (List Int)} {k : List Int} (hp : ldOk w 1 p .val (.map (some rm))) (hM : w.heap[rm]? = some o) (hm : MapIs o (yesOf out)) (hok : ∀ k ∈ out, keyOk k) (hk : keyOk k) : Ret Tryz.prog n_impl_DeadIn_1 [.agg (u8s k).toArray, .pointer (some p)] w [.bool] (fun r _ => r = decide (k ∈ out)) := impl_DeadIn_1_calls _ _ (by
  unfold impl_DeadIn_1
  refine r_newM (At.refl w) hM fun b2 w1 h hM => ?_
  refine r_ldN (sh := .val) (.map (some rm)) (ldOk_below h.below hp) ?_
  refine r_ldA h 0 rfl rfl (by simp [Value.cells, hk.1]) ?_
  refine r_semL (l := [.bool]) (decide (k ∈ out)) _ (look_yes hok hk hM hm) ?_
  exact r_ret h.nil _ rfl rfl)
theorem c_Collect_1 {w : World} {p : Addr} {rm : Nat} {o : Obj} {out : List (List Int)} {k : List Int} (hp : ldOk w 1 p .val (.map (some rm))) (hM : w.heap[rm]? = some o) (hm : MapIs o (yesOf out)) (hok : ∀ k ∈ out, keyOk k) (hk : keyOk k) : Ret Tryz.prog n_impl_Collect_1 [.agg (u8s k).toArray, .pointer (some p)] w [.bool] (fun r _ => r = decide (k ∈ out)) := impl_Collect_1_calls _ _ (by
  unfold impl_Collect_1
  refine r_newM (At.refl w) hM fun b2 w1 h hM => ?_
  refine r_ldN (sh := .val) (.map (some rm)) (ldOk_below h.below hp) ?_
  refine r_ldA h 0 rfl rfl (by simp [Value.cells, hk.1]) ?_
  refine r_semL (l := [.bool]) (decide (k ∈ out)) _ (look_yes hok hk hM hm) ?_
  exact r_ret h.nil _ rfl rfl)

theorem c_impl_DeadIn {w : World} {r : Array Value} {x y : Sl} {B : List PB} {ks : List (List Int)} {ls : List PL} {now : Int} (hr : RdStore w r B) (hx : RdKeyS w x ks) (hy : RdLeaseS w y ls) (hz : sizeBs B ≤ 1073741824) (hzk : sizeKeyS ks ≤ 1073741824) (hzl : sizeLeaseS ls ≤ 1073741824) :
    Ret Tryz.prog n_impl_DeadIn [.agg r, .slice x.a x.n x.c, .slice y.a y.n y.c, .int .i64 now] w [.slice, .int .i64] (fun r w' => ∃ L, At w w' L ∧ OwnKeyS r.1 (deadAns B ks ls now).1 L ∧ r.2 = (deadAns B ks ls now).2) := impl_DeadIn_calls _ _ _ _ (by
  unfold impl_DeadIn
  obtain ⟨s, bs, rfl, hpb, hs⟩ := hr
  have hx : KsR w x ks := hx
  have hy : LsR w y ls := hy
  have hl := le_sizeBs B
  have hbl : bs.length = B.length := by rw [← hpb]; simp
  refine r_new (At.refl w) fun b4 w1 h => ?_
  refine r_ldA h 0 rfl rfl rfl ?_
  refine r_call h (c_alive (hs.at h) hpb (hx.at h) (hy.at h) (by omega) hzk hzl) fun r18 w2 h2 _ hq => ?_
  obtain ⟨r1, m0, code⟩ := r18
  obtain ⟨hc, ⟨m, hm0⟩, hq⟩ := hq
  dsimp only at hc hm0 hq ⊢
  subst hm0
  subst hc
  by_cases h0 : aliveCode B ks ls now = 0
  · obtain ⟨hv, b, L, rm, o, out, rfl, hmm, hL, hO, hM, hm, hok, hmem⟩ := hq h0
    cases hmm
    have h : At w w2 ([(b4, #[.slice s.a s.n s.c], ty_impl_Store)] ++ (L ++ [])) := by rw [List.append_nil]; exact (h.join hL).swap
    have hB128 : B.length ≤ 128 := hv.1
    refine r_newM h hM fun b11 w3 h hM => ?_
    refine r_stM hM hm.no h 0 rfl rfl (by simp [Value.cells]) rfl fun w4 h hM => ?_
    have h : At w w4 ([(b11, #[.map (some rm)], ty_map_impl_Key_bool), (b4, #[.slice s.a s.n s.c], ty_impl_Store)] ++ (L ++ [])) := h
    refine r_false (by rw [h0]; rfl) ?_
    refine r_dp rfl ?_
    obtain ⟨sk, sb, Lk, Lb, rfl, hOk, hOb⟩ := hO
    have h : At w w4 ([(b11, #[.map (some rm)], ty_map_impl_Key_bool), (b4, #[.slice s.a s.n s.c], ty_impl_Store), (b, #[.slice sk.a sk.n sk.c, .slice sb.a sb.n sb.c], ty_impl_shop)] ++ (Lk ++ (Lb ++ []))) := by simpa using h
    refine r_ld h 2 rfl (add_lit _ _ _) sk (by simp [Sh.emb]) rfl ?_
    have hkn : sk.n = (keysOf B).length := by have := hOk.1; rw [flatMap_length (z := 32) (fun x hx => by rw [u8s_len]; exact (keysOf_ok B x hx).1)] at this; omega
    have hkl : (keysOf B).length = B.length := keysOf_len B
    refine r_callR (c_DeleteFuncM hM hm.no (cap := #[.pointer (some ⟨b11, 0, none⟩)]) (hOk.slo h.pl1) (keysOf_ok B) hkn (by omega) (g := n_impl_DeadIn_1) (by kernel_rfl) (fun k => decide (k ∈ out)) (fun w' k hA hM hk => c_DeadIn_1 (ldOk_own hA 0 rfl 0 rfl (by simp [Sh.emb])) hM hm hok hk)) ?_
    rintro v w5 ⟨r30, rfl, hS, hn⟩
    refine ⟨r30, rfl, ?_⟩
    obtain ⟨Lr, hOr, h⟩ := hS.split
    have hans : deadAns B ks ls now = ((keysOf B).filter fun k => !decide (k ∈ out), 0) := by
      unfold deadAns
      rw [if_pos h0]
      congr 1
      refine List.filter_congr fun k _ => ?_
      congr 1
      rw [decide_eq_decide, mem_reachL, hmem]
    rw [hans]
    exact r_ret h.nil (r30, (0 : Int)) rfl ⟨Lr, h.left, ⟨hOr, fun k hk => keysOf_ok B k (List.mem_filter.1 hk).1⟩, rfl⟩
  · refine r_new h2 fun b11 w3 h => ?_
    refine r_st h 0 (o := 0) rfl rfl (by simp [Value.cells]) rfl fun w4 h => ?_
    refine r_true (by simpa using h0) ?_
    have hans : deadAns B ks ls now = ([], aliveCode B ks ls now) := by unfold deadAns; rw [if_neg h0]
    rw [hans]
    exact r_ret h.nil (⟨none, 0, 0⟩, _) rfl ⟨[], h.nil, OwnKeyS.none, rfl⟩)

theorem c_impl_Collect {w : World} {r : Array Value} {x y : Sl} {B : List PB} {ks : List (List Int)} {ls : List PL} {now : Int} (hr : RdStore w r B) (hx : RdKeyS w x ks) (hy : RdLeaseS w y ls) (hz : sizeBs B ≤ 1073741824) (hzk : sizeKeyS ks ≤ 1073741824) (hzl : sizeLeaseS ls ≤ 1073741824) :
    Ret Tryz.prog n_impl_Collect [.agg r, .slice x.a x.n x.c, .slice y.a y.n y.c, .int .i64 now] w [.agg, .int .i64] (fun r w' => ∃ L, At w w' L ∧ OwnStore r.1 (collAns B ks ls now).1 L ∧ r.2 = (collAns B ks ls now).2) := impl_Collect_calls _ _ _ _ (by
  unfold impl_Collect
  have hBok := hr.ok
  obtain ⟨s, bs, rfl, hpb, hs⟩ := hr
  have hx : KsR w x ks := hx
  have hy : LsR w y ls := hy
  have hl := le_sizeBs B
  have hbl : bs.length = B.length := by rw [← hpb]; simp
  refine r_new (At.refl w) fun b4 w1 h => ?_
  refine r_new h fun b8 w1 h => ?_
  refine r_ldA h 1 rfl rfl rfl ?_
  refine r_call h (c_alive (hs.at h) hpb (hx.at h) (hy.at h) (by omega) hzk hzl) fun r18 w2 h2 _ hq => ?_
  obtain ⟨r1, m0, code⟩ := r18
  obtain ⟨hc, ⟨m, hm0⟩, hq⟩ := hq
  dsimp only at hc hm0 hq ⊢
  subst hm0
  subst hc
  by_cases h0 : aliveCode B ks ls now = 0
  · obtain ⟨hv, b, L, rm, o, out, rfl, hmm, hL, hO, hM, hm, hok, hmem⟩ := hq h0
    cases hmm
    have h : At w w2 ([(b8, #[.slice none 0 0], ty_impl_Store), (b4, #[.slice s.a s.n s.c], ty_impl_Store)] ++ (L ++ [])) := by rw [List.append_nil]; exact (h.join hL).swap
    have hB128 : B.length ≤ 128 := hv.1
    refine r_newM h hM fun b11 w3 h hM => ?_
    refine r_stM hM hm.no h 0 rfl rfl (by simp [Value.cells]) rfl fun w4 h hM => ?_
    have h : At w w4 ([(b11, #[.map (some rm)], ty_map_impl_Key_bool), (b8, #[.slice none 0 0], ty_impl_Store), (b4, #[.slice s.a s.n s.c], ty_impl_Store)] ++ (L ++ [])) := h
    refine r_false (by rw [h0]; rfl) ?_
    have hd : ∀ b ∈ bs, b.data.length ≤ 35184372088832 := fun b hb => by
      have := hv.2.1 b.pb (by rw [← hpb]; exact List.mem_map_of_mem hb)
      simp only [BR.pb] at this
      omega
    have sh1 := hO.rd h.pl1 (keysOf_ok _) (fun b hb => (hs.at h.nil).ok b hb)
    have hp11 : ldOk w4 1 ((⟨b11, 0, none⟩ : Addr).add 0) .val (.map (some rm)) := ldOk_own h 0 rfl 0 rfl (by simp [Sh.emb])
    refine r_call h (c_kept (cap := #[.pointer (some ⟨b11, 0, none⟩)]) sh1 (by rw [hpb]) (by omega) hd (g := n_impl_Collect_1) (by kernel_rfl) (fun k => decide (k ∈ out)) (fun w' k hb hk => c_Collect_1 (ldOk_below hb hp11) (hb.keeps hM) hm hok hk)) fun r28 w5 h5 _ ⟨t, bs', L', hr, hpb', hL', hO'⟩ => ?_
    rw [hpb] at hpb'
    have hOS := ownStore_of hr hpb' hO' (fun b hb => hBok b (List.mem_filter.1 hb).1)
    have h := (h.join hL').rot
    refine r_stA h 1 rfl rfl hOS.sz rfl hOS.one fun w7 h => ?_
    refine r_ldA h 1 rfl rfl hOS.sz ?_
    have hans : collAns B ks ls now = (B.filter (fun b => decide (b.key ∈ out)), 0) := by
      unfold collAns
      rw [if_pos h0]
      congr 1
      refine List.filter_congr fun b _ => ?_
      rw [decide_eq_decide, mem_reachL, hmem]
    rw [hans]
    exact r_ret h.nil (_, _) rfl ⟨L', (At.right (A := [_, _, _]) h).left, hOS, rfl⟩
  · refine r_new h2 fun b11 w3 h => ?_
    refine r_st h 0 (o := 0) rfl rfl (by simp [Value.cells]) rfl fun w4 h => ?_
    refine r_true (by simpa using h0) ?_
    refine r_pur (sh := .agg) _ run_noStore ?_
    refine r_stA h 1 rfl rfl rfl rfl (by simp [oneC]) fun w5 h => ?_
    refine r_ldA h 1 rfl rfl rfl ?_
    have hans : collAns B ks ls now = ([], aliveCode B ks ls now) := by unfold collAns; rw [if_neg h0]
    rw [hans]
    exact r_ret h.nil (_, _) rfl ⟨[], h.nil, OwnStore.nil, rfl⟩)

/-! ### The reference -/
theorem c_spec_DeadIn {w : World} {r : Array Value} {x y : Sl} {B : List PB} {ks : List (List Int)} {ls : List PL} {now : Int} (hr : RdStore w r B) (hx : RdKeyS w x ks) (hy : RdLeaseS w y ls) (hz : sizeBs B ≤ 1073741824) (hzk : sizeKeyS ks ≤ 1073741824) (hzl : sizeLeaseS ls ≤ 1073741824) :
    Ret Tryz.prog n_spec_DeadIn [.agg r, .slice x.a x.n x.c, .slice y.a y.n y.c, .int .i64 now] w [.slice, .int .i64] (fun r w' => ∃ L, At w w' L ∧ OwnKeyS r.1 (deadAns B ks ls now).1 L ∧ r.2 = (deadAns B ks ls now).2) := spec_DeadIn_calls _ _ _ _ (by
  unfold spec_DeadIn
  obtain ⟨s, bs, rfl, hpb, hs⟩ := hr
  have hx : KsR w x ks := hx
  have hy : LsR w y ls := hy
  have hl := le_sizeBs B
  have hbl : bs.length = B.length := by rw [← hpb]; simp
  refine r_new (At.refl w) fun b4 w1 h => ?_
  refine r_call h (c_l05Needed (p := ⟨b4, 0, none⟩) (fun n => ldOk_own h 0 rfl 0 rfl (by simp [Sh.emb])) (hs.at h) hpb (hx.at h) (hy.at h) hzl) fun r19 w2 h2 _ hq => ?_
  obtain ⟨r1, f0, code⟩ := r19
  obtain ⟨hc, hq⟩ := hq
  dsimp only at hc hq ⊢
  subst hc
  by_cases h0 : aliveCode B ks ls now = 0
  · obtain ⟨hv, b, L, Lf, D, rfl, hL, hO, hOf, hD⟩ := hq h0
    have h : At w w2 ([(b4, #[.slice s.a s.n s.c], ty_impl_Store)] ++ (Lf ++ (L ++ []))) := (h.join hL).swap
    have hB128 : B.length ≤ 128 := hv.1
    have hkl : (keysOf B).length = B.length := keysOf_len B
    obtain ⟨sk, sb, rx⟩ := hO.ex (keysOf_ok _)
    replace rx := fun {w' : World} {ls : List Blk} (hA : At w w' (L ++ ls)) => rx hA (fun b hb => (hs.at hA.nil).ok b hb)
    refine r_false (by rw [h0]; rfl) ?_
    refine r_bs0 T_sl_Key h fun y27 w3 hy27 hyn27 => ?_
    obtain ⟨Lo, hOo, h⟩ := hy27.split
    have hfn : f0.n = B.length := by have := hOf.1; rw [bools_len, flagsOf_len] at this; omega
    refine r_loop (σ := Sl × Int) (fun i w' => ∃ (j : Nat) (Lo : List Blk), i.2 = j ∧ j ≤ B.length ∧ i.1.n ≤ j ∧ OwnS ty_impl_Key 32 i.1 ((((keysOf B).take j).filter fun k => !decide (k ∈ D)).flatMap u8s) Lo ∧ At w w' (Lo ++ ([(b4, #[.slice s.a s.n s.c], ty_impl_Store)] ++ (Lf ++ (L ++ []))))) (fun i _ => (f0.n - i.2).toNat) (y27, 0) rfl
      ⟨0, Lo, rfl, by omega, by dsimp only; omega, by simpa using hOo, h⟩ ?_
    clear hOo h hy27
    rintro ⟨so, i⟩ w4 ⟨j, Lo, hij, hj, hsn, hOo, h⟩
    dsimp only at hij hsn hOo
    subst hij
    refine r_any fun _ => ?_
    dsimp only
    refine r_if ((j : Int) < (f0.n : Int)) rfl (fun hlt => ?_) (fun hge => ?_)
    · obtain ⟨k, q, hk, hkm, hq, hko, hkc⟩ := (rx h.pl3).2.2.1.get (i := j) (by omega)
      have hskn := (rx h.pl3).2.2.1.n
      have hfg : (bools (flagsOf B D))[j]? = some (.bool (decide (k ∈ D))) := by unfold bools; rw [List.getElem?_map, flagsOf_get hk]; rfl
      obtain ⟨pf, hpf, hcf⟩ := (hOf.sl h.pl2 (List.sublist_append_left _ _)).cell _ _ hfg
      have hstep : ((keysOf B).take (j + 1)).filter (fun k => !decide (k ∈ D)) = ((keysOf B).take j).filter (fun k => !decide (k ∈ D)) ++ if k ∈ D then [] else [k] := by
        rw [take_succ_get hk, List.filter_append]
        congr 1
        by_cases h : k ∈ D
        · rw [if_pos h]; simp [h]
        · rw [if_neg h]; simp [h]
      refine r_ix pf hpf (by omega) (by omega) ?_
      refine r_ldN (sh := .bool) (decide (k ∈ D)) (by simp only [Int.toNat_natCast, Nat.mul_one]; exact hcf) ?_
      by_cases hkD : k ∈ D
      · refine r_false (by simp [hkD]) ?_
        rw [if_pos hkD, List.append_nil] at hstep
        exact ⟨(so, ((j + 1 : Nat) : Int)), by rw [w64 (by omega) (by omega)]; rfl, ⟨j + 1, Lo, rfl, by omega, by dsimp only; omega, by rw [hstep]; exact hOo, h⟩, by dsimp only; omega⟩
      · refine r_true (by simp [hkD]) ?_
        rw [if_neg hkD] at hstep
        refine r_dp rfl ?_
        refine r_ldN sk ((rx h.pl3).1 1) ?_
        refine r_ix q hq (by omega) (by omega) ?_
        refine r_ldN (u8s k).toArray (by simp only [Int.toNat_natCast]; exact hkc) ?_
        refine r_push T_sl_Key (hOo.slo h) (v := .agg (u8s k).toArray) (by simp [Value.cells, hko.1]) (by omega) (by simpa [Value.cells] using u8s_one) (by omega) (by omega) fun y48 w5 hS hn => ?_
        obtain ⟨Lo', hOo', h⟩ := hS.split
        refine ⟨(y48, ((j + 1 : Nat) : Int)), by rw [w64 (by omega) (by omega)]; rfl, ⟨j + 1, Lo', rfl, by omega, by dsimp only; omega, ?_, h⟩, by dsimp only; omega⟩
        rw [hstep, List.flatMap_append]
        simpa [Value.cells] using hOo'
    · have hjl : j = B.length := by omega
      subst hjl
      rw [List.take_of_length_le (by omega)] at hOo
      have hans : deadAns B ks ls now = ((keysOf B).filter fun k => !decide (k ∈ D), 0) := by
        unfold deadAns
        rw [if_pos h0]
        congr 1
        refine List.filter_congr fun k hk => ?_
        congr 1
        rw [decide_eq_decide, mem_reachL, hD k hk]
      rw [hans]
      exact r_ret h.nil (so, (0 : Int)) rfl ⟨Lo, h.left, ⟨hOo, fun k hk => keysOf_ok B k (List.mem_filter.1 hk).1⟩, rfl⟩
  · refine r_true (by simpa using h0) ?_
    have hans : deadAns B ks ls now = ([], aliveCode B ks ls now) := by unfold deadAns; rw [if_neg h0]
    rw [hans]
    refine r_bs0 T_sl_Key h2.nil fun y25 w3 hy25 hyn => ?_
    obtain ⟨Ly, hOy, hA⟩ := hy25.split
    exact r_ret hA.nil (y25, _) rfl ⟨Ly, by simpa using hA, ⟨by simpa using hOy, by simp⟩, rfl⟩)

theorem c_spec_Collect {w : World} {r : Array Value} {x y : Sl} {B : List PB} {ks : List (List Int)} {ls : List PL} {now : Int} (hr : RdStore w r B) (hx : RdKeyS w x ks) (hy : RdLeaseS w y ls) (hz : sizeBs B ≤ 1073741824) (hzk : sizeKeyS ks ≤ 1073741824) (hzl : sizeLeaseS ls ≤ 1073741824) :
    Ret Tryz.prog n_spec_Collect [.agg r, .slice x.a x.n x.c, .slice y.a y.n y.c, .int .i64 now] w [.agg, .int .i64] (fun r w' => ∃ L, At w w' L ∧ OwnStore r.1 (collAns B ks ls now).1 L ∧ r.2 = (collAns B ks ls now).2) := spec_Collect_calls _ _ _ _ (by
  unfold spec_Collect
  have hBok := hr.ok
  obtain ⟨s, bs, rfl, hpb, hs⟩ := hr
  have hx : KsR w x ks := hx
  have hy : LsR w y ls := hy
  have hl := le_sizeBs B
  have hbl : bs.length = B.length := by rw [← hpb]; simp
  refine r_new (At.refl w) fun b4 w1 h => ?_
  refine r_new h fun b8 w1 h => ?_
  refine r_call h (c_l05Needed (p := ⟨b4, 0, none⟩) (fun n => ldOk_own h 1 rfl 0 rfl (by simp [Sh.emb])) (hs.at h) hpb (hx.at h) (hy.at h) hzl) fun r17 w2 h2 _ hq => ?_
  obtain ⟨r1, f0, code⟩ := r17
  obtain ⟨hc, hq⟩ := hq
  dsimp only at hc hq ⊢
  subst hc
  by_cases h0 : aliveCode B ks ls now = 0
  · obtain ⟨hv, b, L, Lf, D, rfl, hL, hO, hOf, hD⟩ := hq h0
    have h : At w w2 ([(b8, #[.slice none 0 0], ty_impl_Store), (b4, #[.slice s.a s.n s.c], ty_impl_Store)] ++ (Lf ++ (L ++ []))) := (h.join hL).swap
    have hB128 : B.length ≤ 128 := hv.1
    have hkl : (keysOf B).length = B.length := keysOf_len B
    have hbok := fun {w' : World} {bl : List Blk} (h : At w w' bl) b hb => (hs.at h.nil).ok b hb
    have hd : ∀ b ∈ bs, b.data.length ≤ 35184372088832 := fun b hb => by
      have := hv.2.1 b.pb (by rw [← hpb]; exact List.mem_map_of_mem hb)
      simp only [BR.pb] at this
      omega
    refine r_false (by rw [h0]; rfl) ?_
    refine r_call h (c_keep (hO.rd h.pl2 (keysOf_ok _) (hbok h)) (by omega) (hOf.sl h.pl1 (List.sublist_append_left _ _)) (by rw [flagsOf_len]; omega) (by omega)) fun r27 w3 h3 _ ⟨b', L', hr, hL', hO'⟩ => ?_
    subst hr
    have hA := h.join hL'
    have hkl := keepL_len (flagsOf B D) bs
    refine r_call h3 (c_spec_store (hO'.rd hA (fun x hx => keysOf_ok B x ((keepL_sub _ _).subset hx)) (fun x hx => (hs.at hA.nil).ok x ((keepL_sub _ _).subset hx))) (by omega) (fun x hx => hd x ((keepL_sub _ _).subset hx))) fun r28 w4 _ _ ⟨t, bs', L'', hr, hpb', hL'', hO''⟩ => ?_
    have hfl : flagsOf B D = (keysOf B).map fun k => decide (k ∈ D) := rfl
    rw [hfl, keepL_bs hpb (fun x => decide (x ∈ D))] at hpb'
    have hOS := ownStore_of hr hpb' hO'' (fun b hb => hBok b (List.mem_filter.1 hb).1)
    have h9 := (h3.join hL'').rot
    refine r_stA h9 0 rfl rfl hOS.sz rfl hOS.one fun w10 h10 => ?_
    refine r_ldA h10 0 rfl rfl hOS.sz ?_
    have hans : collAns B ks ls now = (B.filter (fun b => decide (b.key ∈ D)), 0) := by
      unfold collAns
      rw [if_pos h0]
      congr 1
      refine List.filter_congr fun b hb => ?_
      rw [decide_eq_decide, mem_reachL, hD b.key (List.mem_map_of_mem hb)]
    rw [hans]
    exact r_ret h10.nil (_, _) rfl ⟨L'', (At.right (A := [_, _]) h10).left, hOS, rfl⟩
  · refine r_true (by simpa using h0) ?_
    refine r_pur (sh := .agg) _ run_noStore ?_
    refine r_stA h2 0 rfl rfl rfl rfl (by simp [oneC]) fun w5 h => ?_
    refine r_ldA h 0 rfl rfl rfl ?_
    have hans : collAns B ks ls now = ([], aliveCode B ks ls now) := by unfold collAns; rw [if_neg h0]
    rw [hans]
    exact r_ret h.nil (_, _) rfl ⟨[], h.nil, OwnStore.nil, rfl⟩)
end Go.Proofs.YtghoeeiiaadngaaGreat
