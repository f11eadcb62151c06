/- DeadIn, Collect: what the program and the reference answer. The laws' own helpers: sizes, picks, stores drawn, keys and stores compared. ChunkPartial, ListProofFromCopy: what both sides answer, plain. -/
import Derived.Test.YtkifkdkjljcclaaGreatPkLCol38
import Derived.Test.YtkifkdkjljcclaaGreatPkLCol36
import Derived.Test.YtkifkdkjljcclaaGreatPkLCol28
import Derived.Test.YtkifkdkjljcclaaGreatPkLCol37
import Derived.Test.YtkifkdkjljcclaaGreatPkLCol25
import Derived.Test.YtkifkdkjljcclaaGreatPkLCol27
import Derived.Test.YtkifkdkjljcclaaGreatPkLCol26
namespace Go.Proofs.YtkifkdkjljcclaaGreat
open Go.Sx Go.RowKit

def deadAns (B : List PB) (roots : List (List Int)) (ls : List PL) (now : Int) : List (List Int) × Int := if aliveCode B roots ls now = 0 then ((keysOf B).filter fun k => !decide (k ∈ reachL B (needRoots roots ls now)), 0) else ([], aliveCode B roots ls now)
def collAns (B : List PB) (roots : List (List Int)) (ls : List PL) (now : Int) : List PB × Int := if aliveCode B roots ls now = 0 then (B.filter fun b => decide (b.key ∈ reachL B (needRoots roots ls now)), 0) else ([], aliveCode B roots ls now)
theorem c_DeadIn_1 {w : World} {p : Addr} {rm : Nat} {o : Obj} {out : List (List Int)} {k : List Int} (hp : ldOk w 1 p .val (.map (some rm))) (hM : w.heap[rm]? = some o) (hm : MapIs o (yesOf out)) (hok : ∀ k ∈ out, keyOk k) (hk : keyOk k) : Ret Tryz.prog n_impl_DeadIn_1 [.agg (u8s k).toArray, .pointer (some p)] w [.bool] (fun r _ => r = decide (k ∈ out)) := impl_DeadIn_1_calls _ _ (by
  unfold impl_DeadIn_1
  refine r_newM (At.refl w) hM fun b2 w1 h hM => ?_
  refine r_ldN (sh := .val) (.map (some rm)) (ldOk_below h.below hp) ?_
  refine r_ldA h 0 rfl rfl (by simp [Value.cells, hk.1]) ?_
  refine r_semL (l := [.bool]) (decide (k ∈ out)) _ (look_yes hok hk hM hm) ?_
  exact r_ret h.nil _ rfl rfl)
theorem c_Collect_1 {w : World} {p : Addr} {rm : Nat} {o : Obj} {out : List (List Int)} {k : List Int} (hp : ldOk w 1 p .val (.map (some rm))) (hM : w.heap[rm]? = some o) (hm : MapIs o (yesOf out)) (hok : ∀ k ∈ out, keyOk k) (hk : keyOk k) : Ret Tryz.prog n_impl_Collect_1 [.agg (u8s k).toArray, .pointer (some p)] w [.bool] (fun r _ => r = decide (k ∈ out)) := impl_Collect_1_calls _ _ (by
  unfold impl_Collect_1
  refine r_newM (At.refl w) hM fun b2 w1 h hM => ?_
  refine r_ldN (sh := .val) (.map (some rm)) (ldOk_below h.below hp) ?_
  refine r_ldA h 0 rfl rfl (by simp [Value.cells, hk.1]) ?_
  refine r_semL (l := [.bool]) (decide (k ∈ out)) _ (look_yes hok hk hM hm) ?_
  exact r_ret h.nil _ rfl rfl)

theorem c_impl_DeadIn {w : World} {r : Array Value} {x y : Sl} {B : List PB} {ks : List (List Int)} {ls : List PL} {now : Int} (hr : RdStore w r B) (hx : RdKeyS w x ks) (hy : RdLeaseS w y ls) (hz : sizeBs B ≤ 1073741824) (hzk : sizeKeyS ks ≤ 1073741824) (hzl : sizeLeaseS ls ≤ 1073741824) :
    Ret Tryz.prog n_impl_DeadIn [.agg r, .slice x.a x.n x.c, .slice y.a y.n y.c, .int .i64 now] w [.slice, .int .i64] (fun r w' => ∃ L, At w w' L ∧ OwnKeyS r.1 (deadAns B ks ls now).1 L ∧ r.2 = (deadAns B ks ls now).2) := impl_DeadIn_calls _ _ _ _ (by
  unfold impl_DeadIn
  obtain ⟨s, bs, rfl, hpb, hs⟩ := hr
  have hx : KsR w x ks := hx
  have hy : LsR w y ls := hy
  have hl := le_sizeBs B
  have hbl : bs.length = B.length := by rw [← hpb]; simp
  refine r_new (At.refl w) fun b4 w1 h => ?_
  refine r_ldA h 0 rfl rfl rfl ?_
  refine r_call h (c_alive (hs.at h) hpb (hx.at h) (hy.at h) (by omega) hzk hzl) fun r18 w2 h2 _ hq => ?_
  obtain ⟨r1, m0, code⟩ := r18
  obtain ⟨hc, ⟨m, hm0⟩, hq⟩ := hq
  dsimp only at hc hm0 hq ⊢
  subst hm0
  subst hc
  by_cases h0 : aliveCode B ks ls now = 0
  · obtain ⟨hv, b, L, rm, o, out, rfl, hmm, hL, hO, hM, hm, hok, hmem⟩ := hq h0
    cases hmm
    have h : At w w2 ([(b4, #[.slice s.a s.n s.c], ty_impl_Store)] ++ (L ++ [])) := by rw [List.append_nil]; exact (h.join hL).swap
    have hB128 : B.length ≤ 128 := hv.1
    refine r_newM h hM fun b11 w3 h hM => ?_
    refine r_stM hM hm.no h 0 rfl rfl (by simp [Value.cells]) rfl fun w4 h hM => ?_
    have h : At w w4 ([(b11, #[.map (some rm)], ty_map_impl_Key_bool), (b4, #[.slice s.a s.n s.c], ty_impl_Store)] ++ (L ++ [])) := h
    refine r_false (by rw [h0]; rfl) ?_
    refine r_dp rfl ?_
    obtain ⟨sk, sb, Lk, Lb, rfl, hOk, hOb⟩ := hO
    have h : At w w4 ([(b11, #[.map (some rm)], ty_map_impl_Key_bool), (b4, #[.slice s.a s.n s.c], ty_impl_Store), (b, #[.slice sk.a sk.n sk.c, .slice sb.a sb.n sb.c], ty_impl_shop)] ++ (Lk ++ (Lb ++ []))) := by simpa using h
    refine r_ld h 2 rfl (add_lit _ _ _) sk (by simp [Sh.emb]) rfl ?_
    have hkn : sk.n = (keysOf B).length := by have := hOk.1; rw [flatMap_length (z := 32) (fun x hx => by rw [u8s_len]; exact (keysOf_ok B x hx).1)] at this; omega
    have hkl : (keysOf B).length = B.length := keysOf_len B
    refine r_callR (c_DeleteFuncM hM hm.no (cap := #[.pointer (some ⟨b11, 0, none⟩)]) (hOk.slo h.pl1) (keysOf_ok B) hkn (by omega) (g := n_impl_DeadIn_1) (by kernel_rfl) (fun k => decide (k ∈ out)) (fun w' k hA hM hk => c_DeadIn_1 (ldOk_own hA 0 rfl 0 rfl (by simp [Sh.emb])) hM hm hok hk)) ?_
    rintro v w5 ⟨r30, rfl, hS, hn⟩
    refine ⟨r30, rfl, ?_⟩
    obtain ⟨Lr, hOr, h⟩ := hS.split
    have hans : deadAns B ks ls now = ((keysOf B).filter fun k => !decide (k ∈ out), 0) := by
      unfold deadAns
      rw [if_pos h0]
      congr 1
      refine List.filter_congr fun k _ => ?_
      congr 1
      rw [decide_eq_decide, mem_reachL, hmem]
    rw [hans]
    exact r_ret h.nil (r30, (0 : Int)) rfl ⟨Lr, h.left, ⟨hOr, fun k hk => keysOf_ok B k (List.mem_filter.1 hk).1⟩, rfl⟩
  · refine r_new h2 fun b11 w3 h => ?_
    refine r_st h 0 (o := 0) rfl rfl (by simp [Value.cells]) rfl fun w4 h => ?_
    refine r_true (by simpa using h0) ?_
    have hans : deadAns B ks ls now = ([], aliveCode B ks ls now) := by unfold deadAns; rw [if_neg h0]
    rw [hans]
    exact r_ret h.nil (⟨none, 0, 0⟩, _) rfl ⟨[], h.nil, OwnKeyS.none, rfl⟩)

theorem c_impl_Collect {w : World} {r : Array Value} {x y : Sl} {B : List PB} {ks : List (List Int)} {ls : List PL} {now : Int} (hr : RdStore w r B) (hx : RdKeyS w x ks) (hy : RdLeaseS w y ls) (hz : sizeBs B ≤ 1073741824) (hzk : sizeKeyS ks ≤ 1073741824) (hzl : sizeLeaseS ls ≤ 1073741824) :
    Ret Tryz.prog n_impl_Collect [.agg r, .slice x.a x.n x.c, .slice y.a y.n y.c, .int .i64 now] w [.agg, .int .i64] (fun r w' => ∃ L, At w w' L ∧ OwnStore r.1 (collAns B ks ls now).1 L ∧ r.2 = (collAns B ks ls now).2) := impl_Collect_calls _ _ _ _ (by
  unfold impl_Collect
  have hBok := hr.ok
  obtain ⟨s, bs, rfl, hpb, hs⟩ := hr
  have hx : KsR w x ks := hx
  have hy : LsR w y ls := hy
  have hl := le_sizeBs B
  have hbl : bs.length = B.length := by rw [← hpb]; simp
  refine r_new (At.refl w) fun b4 w1 h => ?_
  refine r_new h fun b8 w1 h => ?_
  refine r_ldA h 1 rfl rfl rfl ?_
  refine r_call h (c_alive (hs.at h) hpb (hx.at h) (hy.at h) (by omega) hzk hzl) fun r18 w2 h2 _ hq => ?_
  obtain ⟨r1, m0, code⟩ := r18
  obtain ⟨hc, ⟨m, hm0⟩, hq⟩ := hq
  dsimp only at hc hm0 hq ⊢
  subst hm0
  subst hc
  by_cases h0 : aliveCode B ks ls now = 0
  · obtain ⟨hv, b, L, rm, o, out, rfl, hmm, hL, hO, hM, hm, hok, hmem⟩ := hq h0
    cases hmm
    have h : At w w2 ([(b8, #[.slice none 0 0], ty_impl_Store), (b4, #[.slice s.a s.n s.c], ty_impl_Store)] ++ (L ++ [])) := by rw [List.append_nil]; exact (h.join hL).swap
    have hB128 : B.length ≤ 128 := hv.1
    refine r_newM h hM fun b11 w3 h hM => ?_
    refine r_stM hM hm.no h 0 rfl rfl (by simp [Value.cells]) rfl fun w4 h hM => ?_
    have h : At w w4 ([(b11, #[.map (some rm)], ty_map_impl_Key_bool), (b8, #[.slice none 0 0], ty_impl_Store), (b4, #[.slice s.a s.n s.c], ty_impl_Store)] ++ (L ++ [])) := h
    refine r_false (by rw [h0]; rfl) ?_
    have hd : ∀ b ∈ bs, b.data.length ≤ 35184372088832 := fun b hb => by
      have := hv.2.1 b.pb (by rw [← hpb]; exact List.mem_map_of_mem hb)
      simp only [BR.pb] at this
      omega
    have sh1 := hO.rd h.pl1 (keysOf_ok _) (fun b hb => (hs.at h.nil).ok b hb)
    have hp11 : ldOk w4 1 ((⟨b11, 0, none⟩ : Addr).add 0) .val (.map (some rm)) := ldOk_own h 0 rfl 0 rfl (by simp [Sh.emb])
    refine r_call h (c_kept (cap := #[.pointer (some ⟨b11, 0, none⟩)]) sh1 (by rw [hpb]) (by omega) hd (g := n_impl_Collect_1) (by kernel_rfl) (fun k => decide (k ∈ out)) (fun w' k hb hk => c_Collect_1 (ldOk_below hb hp11) (hb.keeps hM) hm hok hk)) fun r28 w5 h5 _ ⟨t, bs', L', hr, hpb', hL', hO'⟩ => ?_
    rw [hpb] at hpb'
    have hOS := ownStore_of hr hpb' hO' (fun b hb => hBok b (List.mem_filter.1 hb).1)
    have h := (h.join hL').rot
    refine r_stA h 1 rfl rfl hOS.sz rfl hOS.one fun w7 h => ?_
    refine r_ldA h 1 rfl rfl hOS.sz ?_
    have hans : collAns B ks ls now = (B.filter (fun b => decide (b.key ∈ out)), 0) := by
      unfold collAns
      rw [if_pos h0]
      congr 1
      refine List.filter_congr fun b _ => ?_
      rw [decide_eq_decide, mem_reachL, hmem]
    rw [hans]
    exact r_ret h.nil (_, _) rfl ⟨L', (At.right (A := [_, _, _]) h).left, hOS, rfl⟩
  · refine r_new h2 fun b11 w3 h => ?_
    refine r_st h 0 (o := 0) rfl rfl (by simp [Value.cells]) rfl fun w4 h => ?_
    refine r_true (by simpa using h0) ?_
    refine r_pur (sh := .agg) _ run_noStore ?_
    refine r_stA h 1 rfl rfl rfl rfl (by simp [oneC]) fun w5 h => ?_
    refine r_ldA h 1 rfl rfl rfl ?_
    have hans : collAns B ks ls now = ([], aliveCode B ks ls now) := by unfold collAns; rw [if_neg h0]
    rw [hans]
    exact r_ret h.nil (_, _) rfl ⟨[], h.nil, OwnStore.nil, rfl⟩)

theorem c_spec_DeadIn {w : World} {r : Array Value} {x y : Sl} {B : List PB} {ks : List (List Int)} {ls : List PL} {now : Int} (hr : RdStore w r B) (hx : RdKeyS w x ks) (hy : RdLeaseS w y ls) (hz : sizeBs B ≤ 1073741824) (hzk : sizeKeyS ks ≤ 1073741824) (hzl : sizeLeaseS ls ≤ 1073741824) :
    Ret Tryz.prog n_spec_DeadIn [.agg r, .slice x.a x.n x.c, .slice y.a y.n y.c, .int .i64 now] w [.slice, .int .i64] (fun r w' => ∃ L, At w w' L ∧ OwnKeyS r.1 (deadAns B ks ls now).1 L ∧ r.2 = (deadAns B ks ls now).2) := spec_DeadIn_calls _ _ _ _ (by
  unfold spec_DeadIn
  obtain ⟨s, bs, rfl, hpb, hs⟩ := hr
  have hx : KsR w x ks := hx
  have hy : LsR w y ls := hy
  have hl := le_sizeBs B
  have hbl : bs.length = B.length := by rw [← hpb]; simp
  refine r_new (At.refl w) fun b4 w1 h => ?_
  refine r_call h (c_l05Needed (p := ⟨b4, 0, none⟩) (fun n => ldOk_own h 0 rfl 0 rfl (by simp [Sh.emb])) (hs.at h) hpb (hx.at h) (hy.at h) hzl) fun r19 w2 h2 _ hq => ?_
  obtain ⟨r1, f0, code⟩ := r19
  obtain ⟨hc, hq⟩ := hq
  dsimp only at hc hq ⊢
  subst hc
  by_cases h0 : aliveCode B ks ls now = 0
  · obtain ⟨hv, b, L, Lf, D, rfl, hL, hO, hOf, hD⟩ := hq h0
    have h : At w w2 ([(b4, #[.slice s.a s.n s.c], ty_impl_Store)] ++ (Lf ++ (L ++ []))) := (h.join hL).swap
    have hB128 : B.length ≤ 128 := hv.1
    have hkl : (keysOf B).length = B.length := keysOf_len B
    obtain ⟨sk, sb, rx⟩ := hO.ex (keysOf_ok _)
    replace rx := fun {w' : World} {ls : List Blk} (hA : At w w' (L ++ ls)) => rx hA (fun b hb => (hs.at hA.nil).ok b hb)
    refine r_false (by rw [h0]; rfl) ?_
    refine r_bs0 T_sl_Key h fun y27 w3 hy27 hyn27 => ?_
    obtain ⟨Lo, hOo, h⟩ := hy27.split
    have hfn : f0.n = B.length := by have := hOf.1; rw [bools_len, flagsOf_len] at this; omega
    refine r_loop (σ := Sl × Int) (fun i w' => ∃ (j : Nat) (Lo : List Blk), i.2 = j ∧ j ≤ B.length ∧ i.1.n ≤ j ∧ OwnS ty_impl_Key 32 i.1 ((((keysOf B).take j).filter fun k => !decide (k ∈ D)).flatMap u8s) Lo ∧ At w w' (Lo ++ ([(b4, #[.slice s.a s.n s.c], ty_impl_Store)] ++ (Lf ++ (L ++ []))))) (fun i _ => (f0.n - i.2).toNat) (y27, 0) rfl
      ⟨0, Lo, rfl, by omega, by dsimp only; omega, by simpa using hOo, h⟩ ?_
    clear hOo h hy27
    rintro ⟨so, i⟩ w4 ⟨j, Lo, hij, hj, hsn, hOo, h⟩
    dsimp only at hij hsn hOo
    subst hij
    refine r_any fun _ => ?_
    dsimp only
    refine r_if ((j : Int) < (f0.n : Int)) rfl (fun hlt => ?_) (fun hge => ?_)
    · obtain ⟨k, q, hk, hkm, hq, hko, hkc⟩ := (rx h.pl3).2.2.1.get (i := j) (by omega)
      have hskn := (rx h.pl3).2.2.1.n
      have hfg : (bools (flagsOf B D))[j]? = some (.bool (decide (k ∈ D))) := by unfold bools; rw [List.getElem?_map, flagsOf_get hk]; rfl
      obtain ⟨pf, hpf, hcf⟩ := (hOf.sl h.pl2 (List.sublist_append_left _ _)).cell _ _ hfg
      have hstep : ((keysOf B).take (j + 1)).filter (fun k => !decide (k ∈ D)) = ((keysOf B).take j).filter (fun k => !decide (k ∈ D)) ++ if k ∈ D then [] else [k] := by
        rw [take_succ_get hk, List.filter_append]
        congr 1
        by_cases h : k ∈ D
        · rw [if_pos h]; simp [h]
        · rw [if_neg h]; simp [h]
      refine r_ix pf hpf (by omega) (by omega) ?_
      refine r_ldN (sh := .bool) (decide (k ∈ D)) (by simp only [Int.toNat_natCast, Nat.mul_one]; exact hcf) ?_
      by_cases hkD : k ∈ D
      · refine r_false (by simp [hkD]) ?_
        rw [if_pos hkD, List.append_nil] at hstep
        exact ⟨(so, ((j + 1 : Nat) : Int)), by rw [w64 (by omega) (by omega)]; rfl, ⟨j + 1, Lo, rfl, by omega, by dsimp only; omega, by rw [hstep]; exact hOo, h⟩, by dsimp only; omega⟩
      · refine r_true (by simp [hkD]) ?_
        rw [if_neg hkD] at hstep
        refine r_dp rfl ?_
        refine r_ldN sk ((rx h.pl3).1 1) ?_
        refine r_ix q hq (by omega) (by omega) ?_
        refine r_ldN (u8s k).toArray (by simp only [Int.toNat_natCast]; exact hkc) ?_
        refine r_push T_sl_Key (hOo.slo h) (v := .agg (u8s k).toArray) (by simp [Value.cells, hko.1]) (by omega) (by simpa [Value.cells] using u8s_one) (by omega) (by omega) fun y48 w5 hS hn => ?_
        obtain ⟨Lo', hOo', h⟩ := hS.split
        refine ⟨(y48, ((j + 1 : Nat) : Int)), by rw [w64 (by omega) (by omega)]; rfl, ⟨j + 1, Lo', rfl, by omega, by dsimp only; omega, ?_, h⟩, by dsimp only; omega⟩
        rw [hstep, List.flatMap_append]
        simpa [Value.cells] using hOo'
    · have hjl : j = B.length := by omega
      subst hjl
      rw [List.take_of_length_le (by omega)] at hOo
      have hans : deadAns B ks ls now = ((keysOf B).filter fun k => !decide (k ∈ D), 0) := by
        unfold deadAns
        rw [if_pos h0]
        congr 1
        refine List.filter_congr fun k hk => ?_
        congr 1
        rw [decide_eq_decide, mem_reachL, hD k hk]
      rw [hans]
      exact r_ret h.nil (so, (0 : Int)) rfl ⟨Lo, h.left, ⟨hOo, fun k hk => keysOf_ok B k (List.mem_filter.1 hk).1⟩, rfl⟩
  · refine r_true (by simpa using h0) ?_
    have hans : deadAns B ks ls now = ([], aliveCode B ks ls now) := by unfold deadAns; rw [if_neg h0]
    rw [hans]
    refine r_bs0 T_sl_Key h2.nil fun y25 w3 hy25 hyn => ?_
    obtain ⟨Ly, hOy, hA⟩ := hy25.split
    exact r_ret hA.nil (y25, _) rfl ⟨Ly, by simpa using hA, ⟨by simpa using hOy, by simp⟩, rfl⟩)

theorem c_spec_Collect {w : World} {r : Array Value} {x y : Sl} {B : List PB} {ks : List (List Int)} {ls : List PL} {now : Int} (hr : RdStore w r B) (hx : RdKeyS w x ks) (hy : RdLeaseS w y ls) (hz : sizeBs B ≤ 1073741824) (hzk : sizeKeyS ks ≤ 1073741824) (hzl : sizeLeaseS ls ≤ 1073741824) :
    Ret Tryz.prog n_spec_Collect [.agg r, .slice x.a x.n x.c, .slice y.a y.n y.c, .int .i64 now] w [.agg, .int .i64] (fun r w' => ∃ L, At w w' L ∧ OwnStore r.1 (collAns B ks ls now).1 L ∧ r.2 = (collAns B ks ls now).2) := spec_Collect_calls _ _ _ _ (by
  unfold spec_Collect
  have hBok := hr.ok
  obtain ⟨s, bs, rfl, hpb, hs⟩ := hr
  have hx : KsR w x ks := hx
  have hy : LsR w y ls := hy
  have hl := le_sizeBs B
  have hbl : bs.length = B.length := by rw [← hpb]; simp
  refine r_new (At.refl w) fun b4 w1 h => ?_
  refine r_new h fun b8 w1 h => ?_
  refine r_call h (c_l05Needed (p := ⟨b4, 0, none⟩) (fun n => ldOk_own h 1 rfl 0 rfl (by simp [Sh.emb])) (hs.at h) hpb (hx.at h) (hy.at h) hzl) fun r17 w2 h2 _ hq => ?_
  obtain ⟨r1, f0, code⟩ := r17
  obtain ⟨hc, hq⟩ := hq
  dsimp only at hc hq ⊢
  subst hc
  by_cases h0 : aliveCode B ks ls now = 0
  · obtain ⟨hv, b, L, Lf, D, rfl, hL, hO, hOf, hD⟩ := hq h0
    have h : At w w2 ([(b8, #[.slice none 0 0], ty_impl_Store), (b4, #[.slice s.a s.n s.c], ty_impl_Store)] ++ (Lf ++ (L ++ []))) := (h.join hL).swap
    have hB128 : B.length ≤ 128 := hv.1
    have hkl : (keysOf B).length = B.length := keysOf_len B
    have hbok := fun {w' : World} {bl : List Blk} (h : At w w' bl) b hb => (hs.at h.nil).ok b hb
    have hd : ∀ b ∈ bs, b.data.length ≤ 35184372088832 := fun b hb => by
      have := hv.2.1 b.pb (by rw [← hpb]; exact List.mem_map_of_mem hb)
      simp only [BR.pb] at this
      omega
    refine r_false (by rw [h0]; rfl) ?_
    refine r_call h (c_keep (hO.rd h.pl2 (keysOf_ok _) (hbok h)) (by omega) (hOf.sl h.pl1 (List.sublist_append_left _ _)) (by rw [flagsOf_len]; omega) (by omega)) fun r27 w3 h3 _ ⟨b', L', hr, hL', hO'⟩ => ?_
    subst hr
    have hA := h.join hL'
    have hkl := keepL_len (flagsOf B D) bs
    refine r_call h3 (c_spec_store (hO'.rd hA (fun x hx => keysOf_ok B x ((keepL_sub _ _).subset hx)) (fun x hx => (hs.at hA.nil).ok x ((keepL_sub _ _).subset hx))) (by omega) (fun x hx => hd x ((keepL_sub _ _).subset hx))) fun r28 w4 _ _ ⟨t, bs', L'', hr, hpb', hL'', hO''⟩ => ?_
    have hfl : flagsOf B D = (keysOf B).map fun k => decide (k ∈ D) := rfl
    rw [hfl, keepL_bs hpb (fun x => decide (x ∈ D))] at hpb'
    have hOS := ownStore_of hr hpb' hO'' (fun b hb => hBok b (List.mem_filter.1 hb).1)
    have h9 := (h3.join hL'').rot
    refine r_stA h9 0 rfl rfl hOS.sz rfl hOS.one fun w10 h10 => ?_
    refine r_ldA h10 0 rfl rfl hOS.sz ?_
    have hans : collAns B ks ls now = (B.filter (fun b => decide (b.key ∈ D)), 0) := by
      unfold collAns
      rw [if_pos h0]
      congr 1
      refine List.filter_congr fun b hb => ?_
      rw [decide_eq_decide, mem_reachL, hD b.key (List.mem_map_of_mem hb)]
    rw [hans]
    exact r_ret h10.nil (_, _) rfl ⟨L'', (At.right (A := [_, _]) h10).left, hOS, rfl⟩
  · refine r_true (by simpa using h0) ?_
    refine r_pur (sh := .agg) _ run_noStore ?_
    refine r_stA h2 0 rfl rfl rfl rfl (by simp [oneC]) fun w5 h => ?_
    refine r_ldA h 0 rfl rfl rfl ?_
    have hans : collAns B ks ls now = ([], aliveCode B ks ls now) := by unfold collAns; rw [if_neg h0]
    rw [hans]
    exact r_ret h.nil (_, _) rfl ⟨[], h.nil, OwnStore.nil, rfl⟩)
end Go.Proofs.YtkifkdkjljcclaaGreat

namespace Go.Proofs.YtkifkdkjljcclaaGreat
open Go.Sx Go.RowKit

theorem c_f6big (s : Sl) : RetP Tryz.prog n_laws_f6big [.slice s.a s.n s.c] [.bool] (decide (4096 < s.n)) := fun w => laws_f6big_calls s (by
  unfold laws_f6big
  refine r_retP ?_
  have e : decide ((s.n : Int) > 4096) = decide (4096 < s.n) := decide_eq_decide.2 (by omega)
  rw [e]; rfl)
theorem c_P6Pick {w : World} {sd : Sl} {d : List Int} (N : Nat) (hd : SlAt w sd 1 (u8s d)) (hb : bytesOk d) (hN : 1 ≤ N) (hN2 : N ≤ 1048576) :
    Ret Tryz.prog n_spec_P6Pick [.slice sd.a sd.n sd.c, .int .i64 (N : Int)] w [.int .i64] (fun r _ => ∃ i : Nat, r = i ∧ i < N) := spec_P6Pick_calls _ _ (by
  unfold spec_P6Pick
  refine r_callR (c_l00From sd w) ?_
  rintro v w2 ⟨b, rfl, hS⟩
  refine ⟨⟨b, 0, none⟩, rfl, ?_⟩
  refine r_callR (c_pick (N : Int) hS hd hb (by omega) (by omega) (by omega)) ?_
  rintro v w3 ⟨r, rfl, h0, h1, a, st, _, _, h⟩
  refine ⟨r, rfl, ?_⟩
  exact r_ret h.nil r rfl ⟨r.toNat, (Int.toNat_of_nonneg h0).symm, by omega⟩)
theorem c_P6Rooted {w : World} {sd : Sl} {d : List Int} (hd : SlAt w sd 1 (u8s d)) (hb : bytesOk d) :
    Ret Tryz.prog n_spec_P6Rooted [.slice sd.a sd.n sd.c] w [.agg, .slice] (fun r w' => ∃ L1 L2 B ks, At w w' (L1 ++ L2) ∧ OwnStore r.1 B L1 ∧ OwnKeyS r.2 ks L2 ∧ validS B ∧ ks.length ≤ 4) := spec_P6Rooted_calls _ (by
  unfold spec_P6Rooted
  refine r_new (At.refl w) fun b2 w1 h1 => ?_
  refine r_callR (c_l00From sd w1) ?_
  rintro v w2 ⟨b, rfl, hS⟩
  refine ⟨⟨b, 0, none⟩, rfl, ?_⟩
  refine r_callR (c_l05Drawn hS (hd.at h1) hb (by omega)) ?_
  rintro v w3 ⟨g, sk, B, ks, L, rfl, hv, hkl, ⟨L1, L2, rfl, hO, hOk⟩, a, st, h0, h2, h⟩
  refine ⟨(g, sk), rfl, ?_⟩
  dsimp only
  refine r_new h fun b5 w4 h => ?_
  refine r_stA h 0 rfl rfl hO.sz rfl hO.one fun w5 h => ?_
  have h : At w1 w5 ([(b5, g, ty_impl_Store)] ++ ([(b, srcC sd a st, ty_spec_l00Src)] ++ (L1 ++ (L2 ++ [])))) := by
    rw [← List.append_assoc L1]
    exact h
  refine r_callR (c_one (rest := [(b5, g, ty_impl_Store)] ++ (L1 ++ (L2 ++ []))) 4 ⟨a, st, h0, h2, h.pl1⟩ (hd.at h1) hb (by omega) (by omega) (by omega)) ?_
  rintro v w6 ⟨r15, rfl, hS⟩
  refine ⟨r15, rfl, ?_⟩
  cases r15 with
  | false =>
    refine r_false rfl ?_
    obtain ⟨a, st, h0, h2, h⟩ := hS
    have h := (h1.join h.tail).swap
    have h : At w w6 ([(b2, #[.slice none 0 0], ty_impl_Store), (b5, g, ty_impl_Store)] ++ (L1 ++ (L2 ++ []))) := h
    refine r_ldA h 1 rfl rfl hO.sz ?_
    refine r_stA h 0 rfl rfl hO.sz rfl hO.one fun w7 h => ?_
    refine r_ldA h 0 rfl rfl hO.sz ?_
    have h : At w w7 ([(b2, g, ty_impl_Store), (b5, g, ty_impl_Store)] ++ (L1 ++ (L2 ++ []))) := h
    rw [List.append_nil] at h
    exact r_ret h.nil (g, sk) rfl ⟨L1, L2, B, ks, h.right, hO, hOk, hv, by omega⟩
  | true =>
    refine r_true rfl ?_
    refine r_callR (c_l01Any hS (hd.at h1) hb (by omega)) ?_
    rintro v w7 ⟨x, rfl, hx, hxb, a, st, h0, h2, h⟩
    refine ⟨(u8s x).toArray, rfl, ?_⟩
    have hskn := hOk.n
    have h : At w1 w7 ([(b, srcC sd a st, ty_spec_l00Src)] ++ ([(b5, g, ty_impl_Store)] ++ (L1 ++ (L2 ++ [])))) := h
    refine r_push T_sl_Key (hOk.1.slo h.pl3) (v := .agg (u8s x).toArray) (by simp [Value.cells, hx]) (by omega) (by simpa [Value.cells] using u8s_one) (by omega) (by omega) fun y w8 hS8 hn8 => ?_
    obtain ⟨L', hO', h⟩ := hS8.split
    have hO' : OwnKeyS y (ks ++ [x]) L' := ⟨by simpa [Value.cells, List.flatMap_append] using hO', fun z hz => by
      rcases List.mem_append.1 hz with hz | hz
      · exact hOk.2 z hz
      · rw [List.mem_singleton.1 hz]; exact ⟨hx, hxb⟩⟩
    have h := h.dr1.pl1
    have h := (h1.join h).swap
    have h : At w w8 ([(b2, #[.slice none 0 0], ty_impl_Store), (b5, g, ty_impl_Store)] ++ (L' ++ (L1 ++ []))) := h
    refine r_ldA h 1 rfl rfl hO.sz ?_
    refine r_stA h 0 rfl rfl hO.sz rfl hO.one fun w9 h => ?_
    refine r_ldA h 0 rfl rfl hO.sz ?_
    have h : At w w9 ([(b2, g, ty_impl_Store), (b5, g, ty_impl_Store)] ++ (L' ++ (L1 ++ []))) := h
    rw [List.append_nil] at h
    exact r_ret h.nil (g, y) rfl ⟨L1, L', B, ks ++ [x], h.right.swap, hO, hO', hv, by simp; omega⟩)
theorem c_spec_KeysOfStore {w : World} {r : Array Value} {B : List PB} (hr : RdStore w r B) (hz : sizeBs B ≤ 1073741824) (hv : validS B) :
    Ret Tryz.prog n_spec_KeysOfStore [.agg r] w [.slice, .int .i64] (fun x w' => ∃ L, At w w' L ∧ OwnKeyS x.1 (keysOf B) L ∧ x.2 = 0) := spec_KeysOfStore_calls _ (by
  unfold spec_KeysOfStore
  obtain ⟨s, bs, rfl, hpb, hs⟩ := hr
  refine r_new (At.refl w) fun b1 w1 h => ?_
  refine r_call h (c_l05Open (p := ⟨b1, 0, none⟩) (fun n => ldOk_own h 0 rfl 0 rfl (by simp [Sh.emb])) (hs.at h.nil)) fun r w4 h4 hb4 ⟨hr2, b, hr1, hr⟩ => ?_
  rw [hpb] at hr hr2
  obtain ⟨L, hL, hO⟩ := hr hv
  rw [hr2, decide_eq_true hv, hr1]
  refine r_false rfl ?_
  have h := h.join hL
  obtain ⟨sk, sb, Lk, Lb, rfl, hOk, _⟩ := hO
  refine r_dp rfl ?_
  refine r_ld h 0 rfl (add_lit _ _ _) sk (by simp [Sh.emb]) rfl ?_
  exact r_ret h.nil (sk, (0 : Int)) rfl ⟨Lk, At.right (A := Lb) (At.tail h.left), ⟨hOk, keysOf_ok B⟩, rfl⟩)
theorem c_impl_KeysOfStore {w : World} {r : Array Value} {B : List PB} (hr : RdStore w r B) (hz : sizeBs B ≤ 1073741824) (hv : validS B) :
    Ret Tryz.prog n_impl_KeysOfStore [.agg r] w [.slice, .int .i64] (fun x w' => ∃ L, At w w' L ∧ OwnKeyS x.1 (keysOf B) L ∧ x.2 = 0) := impl_KeysOfStore_calls _ (by
  unfold impl_KeysOfStore
  obtain ⟨s, bs, rfl, hpb, hs⟩ := hr
  have hl := le_sizeBs B
  have hbl : bs.length = B.length := by rw [← hpb]; simp
  refine r_new (At.refl w) fun b1 w1 h => ?_
  refine r_ldA h 0 rfl rfl rfl ?_
  refine r_call h (c_newShop (hs.at h.nil) (by omega)) fun r w2 _ _ hr => ?_
  rw [hpb] at hr
  rcases hr with ⟨_, b, L, rfl, hL, hO⟩ | ⟨hno, _⟩
  · refine r_false rfl ?_
    refine r_dp rfl ?_
    have h := h.join hL
    obtain ⟨sk, sb, Lk, Lb, rfl, hOk, _⟩ := hO
    refine r_ld h 0 rfl (add_lit _ _ _) sk (by simp [Sh.emb]) rfl ?_
    exact r_ret h.nil (sk, (0 : Int)) rfl ⟨Lk, (At.tail h.left).left, ⟨hOk, keysOf_ok B⟩, rfl⟩
  · exact absurd hv hno)
theorem c_EqualKeys {w : World} {s t : Sl} {xs ys : List (List Int)} (hs : KsR w s xs) (ht : KsR w t ys) (hmax : xs.length ≤ 1073741824) : Ret Tryz.prog n_spec_EqualKeys [.slice s.a s.n s.c, .slice t.a t.n t.c] w [.bool] (fun r _ => r = decide (xs = ys)) := spec_EqualKeys_calls _ _ (by
  unfold spec_EqualKeys
  have hn := hs.n
  have hm := ht.n
  refine r_ne (fun hne => ?_) (fun heq => ?_)
  · exact r_ret (At.refl w) false rfl (decide_eq_false fun hh => hne (by rw [hn, hm, hh])).symm
  have hl : xs.length = ys.length := by omega
  refine r_loop (σ := Int) (fun i w' => ∃ j : Nat, i = j ∧ j ≤ xs.length ∧ xs.take j = ys.take j ∧ At w w' []) (fun i _ => (s.n - i).toNat) 0 rfl ⟨0, rfl, by omega, by simp, At.refl w⟩ ?_
  rintro i w2 ⟨j, rfl, hj, hsame, h⟩
  refine r_any fun _ => ?_
  refine r_if ((j : Int) < (s.n : Int)) rfl (fun hlt => ?_) (fun hge => ?_)
  · refine r_draw h fun w3 h => ?_
    obtain ⟨x, p, hx, hxm, hp, hxo, hxl⟩ := (hs.at h).get (i := j) (by omega)
    obtain ⟨y, q, hy, hym, hq, hyo, hyl⟩ := (ht.at h).get (i := j) (by omega)
    refine r_ix p hp (by omega) (by omega) ?_
    simp only [Int.toNat_natCast]
    refine r_ldN (u8s x).toArray hxl ?_
    refine r_ix q hq (by omega) (by omega) ?_
    simp only [Int.toNat_natCast]
    refine r_ldN (u8s y).toArray hyl ?_
    refine r_rootEq hxo.1 hyo.1 (fun hne => ?_) (fun heq => ?_)
    · exact r_ret h.nil false rfl (decide_eq_false fun hh => hne (by rw [hh, hy] at hx; exact (Option.some.inj hx).symm)).symm
    · refine ⟨((j + 1 : Nat) : Int), by rw [w64 (by omega) (by omega)]; rfl, ⟨j + 1, rfl, by omega, ?_, h⟩, by omega⟩
      rw [take_succ_get hx, take_succ_get hy, hsame, heq]
  · rw [List.take_of_length_le (by omega), List.take_of_length_le (by omega)] at hsame
    exact r_ret h.nil true rfl (decide_eq_true hsame).symm)
theorem c_SameStore {w : World} {r r' : Array Value} {B C : List PB} (hr : RdStore w r B) (hr' : RdStore w r' C) (hz : sizeBs B ≤ 1073741824) : Ret Tryz.prog n_spec_SameStore [.agg r, .agg r'] w [.bool] (fun x _ => x = decide (B = C)) := spec_SameStore_calls _ _ (by
  unfold spec_SameStore
  obtain ⟨s, bs, rfl, hpb, hs⟩ := hr
  obtain ⟨t, cs, rfl, hpc, ht⟩ := hr'
  have hn := hs.n
  have hm := ht.n
  have hl := le_sizeBs B
  have hbl : bs.length = B.length := by rw [← hpb]; simp
  have hcl : cs.length = C.length := by rw [← hpc]; simp
  refine r_new (At.refl w) fun b2 w1 h => ?_
  refine r_new h fun b3 w2 h => ?_
  have h : At w w2 [(b3, #[.slice t.a t.n t.c], ty_impl_Store), (b2, #[.slice s.a s.n s.c], ty_impl_Store)] := h
  refine r_ld h 1 rfl (add_lit _ _ _) s (by simp [Sh.emb]) rfl ?_
  refine r_ld h 0 rfl (add_lit _ _ _) t (by simp [Sh.emb]) rfl ?_
  refine r_ne (fun hne => ?_) (fun heq => ?_)
  · exact r_ret h.nil false rfl (decide_eq_false fun hh => hne (by rw [hn, hm, hbl, hcl, hh])).symm
  refine r_loop (σ := Int) (fun i w' => ∃ j : Nat, i = j ∧ j ≤ B.length ∧ B.take j = C.take j ∧ At w w' [(b3, #[.slice t.a t.n t.c], ty_impl_Store), (b2, #[.slice s.a s.n s.c], ty_impl_Store)]) (fun i _ => (s.n - i).toNat) 0 rfl ⟨0, rfl, by omega, by simp, h⟩ ?_
  clear h
  rintro i w3 ⟨j, rfl, hj, hsame, h⟩
  refine r_any fun _ => ?_
  refine r_ld h 1 rfl (add_lit _ _ _) s (by simp [Sh.emb]) rfl ?_
  refine r_if ((j : Int) < (s.n : Int)) rfl (fun hlt => ?_) (fun hge => ?_)
  · refine r_draw h fun w4 h => ?_
    obtain ⟨x, p, hx, hxm, hp, hxa, _⟩ := (hs.at h.nil).bat (i := j) (by omega)
    obtain ⟨y, q, hy, hym, hq, hya, _⟩ := (ht.at h.nil).bat (i := j) (by omega)
    have hxB : B[j]? = some x.pb := by rw [← hpb, List.getElem?_map, hx]; rfl
    have hyC : C[j]? = some y.pb := by rw [← hpc, List.getElem?_map, hy]; rfl
    have hxl := data_le_sizeBs (List.mem_of_getElem? hxB)
    have hxl : x.data.length ≤ sizeBs B := hxl
    refine r_ld h 1 rfl (add_lit _ _ _) s (by simp [Sh.emb]) rfl ?_
    refine r_ix p hp (by omega) (by omega) ?_
    refine r_ld h 0 rfl (add_lit _ _ _) t (by simp [Sh.emb]) rfl ?_
    refine r_ix q hq (by omega) (by omega) ?_
    simp only [Int.toNat_natCast]
    refine r_call h (c_l05SameBlob hxa hya (by omega)) fun r28 w5 h _ hr28 => ?_
    subst hr28
    refine r_chk2 (ldOk_own h 0 rfl 0 rfl (by simp [Sh.emb])) (ldOk_own h 1 rfl 0 rfl (by simp [Sh.emb])) ?_
    by_cases hxy : x.pb = y.pb
    · refine r_false (by rw [decide_eq_true hxy]; rfl) ?_
      refine ⟨((j + 1 : Nat) : Int), by rw [w64 (by omega) (by omega)]; rfl, ⟨j + 1, rfl, by omega, ?_, h⟩, by omega⟩
      rw [take_succ_get hxB, take_succ_get hyC, hsame, hxy]
    · refine r_true (by rw [decide_eq_false hxy]; rfl) ?_
      exact r_ret h.nil false rfl (decide_eq_false fun hh => hxy (by rw [hh, hyC] at hxB; exact (Option.some.inj hxB).symm)).symm
  · rw [List.take_of_length_le (by omega), List.take_of_length_le (by omega)] at hsame
    exact r_ret h.nil true rfl (decide_eq_true hsame).symm)
end Go.Proofs.YtkifkdkjljcclaaGreat

namespace Go.Proofs.YtkifkdkjljcclaaGreat
open Go.Sx Go.RowKit

theorem blobAt_mem {B : List PB} {k : List Int} (ha : Asc (keysOf B)) (h : k ∈ keysOf B) : blobAt B k ∈ B := by
  have hp := (List.getElem?_eq_some_iff.1 ((posK_mem ha).1 h)).1
  rw [keysOf_len] at hp
  unfold blobAt
  simp only [List.getD, List.getElem?_eq_getElem hp, Option.getD_some]
  exact List.getElem_mem _
def leafOk (n i : Int) : Prop := (n ≥ 1 ∧ n ≤ 256) ∧ i ≥ 0 ∧ i ≤ n - 1
instance (n i : Int) : Decidable (leafOk n i) := inferInstanceAs (Decidable (_ ∧ _))
end Go.Proofs.YtkifkdkjljcclaaGreat
