/- History: AncestorsOf, IsAncestor: both sides. -/
import Derived.Test.YtkifkdkjljcclaaGreatPkLAnc33
namespace Go.Proofs.YtkifkdkjljcclaaGreat
open Go.Sx Go.RowKit

theorem c_led_ancestors {w : World} {p : Addr} {rs : List CR} {ms : List ER} {b : PBk} {k : List Int} (hp : LedR w p rs ms (keysB b)) (hX : rs.map CR.pc = b.cms) (hv : validB b) (hk : k ∈ keysB b) :
    Ret Tryz.prog n_ptr_impl_ledger_ancestors [.pointer (some p), .agg (u8s k).toArray] w [.slice] (fun r w' => SlO w w' [] ty_impl_Key 32 r ((ancB b k).flatMap u8s) ∧ r.n = (ancB b k).length) := ptr_impl_ledger_ancestors_calls _ _ (by
  unfold ptr_impl_ledger_ancestors
  obtain ⟨s, t, sk, hls, hlt, hlk, hs, ht, hkk⟩ := hp.ex
  have hsn := hs.n
  have hrl : rs.length = b.cms.length := by rw [← hX]; simp
  have h40 := hv.1.1
  have hKl := keysB_len b
  have hko := keysB_ok b k hk
  refine r_new (At.refl w) fun b3 w1 h => ?_
  have h : At w w1 ([(b3, (u8s k).toArray, ty_impl_Key)] ++ []) := h
  refine r_ldA h 0 rfl rfl (by simp [hko.1]) ?_
  refine r_bs1 T_sl_Key h (by simp [Value.cells, hko.1]) (by omega) fun y10 w2 hy hyn => ?_
  refine r_loop (σ := Sl × Int) (fun st w' => ∃ (i : Nat) (out : List (List Int)), st.2 = i ∧ AncW b k i out ∧ SlO w w' ([(b3, (u8s k).toArray, ty_impl_Key)] ++ []) ty_impl_Key 32 st.1 (out.flatMap u8s) ∧ st.1.n = out.length) (fun st _ => (41 - st.2).toNat) (y10, 0) rfl
    ⟨0, [k], rfl, AncW.first b k, by simpa [Value.cells] using hy, by simpa using hyn⟩ ?_
  clear h hy hyn
  rintro ⟨so, i⟩ w3 ⟨i, out, hi, hW, hS, hsn2⟩
  dsimp only at hi hS hsn2
  subst hi
  have hol := hW.len hv hk
  have hile := hW.le
  have hin : ∀ x ∈ out, x ∈ keysB b := fun x hx => (hW.anc x hx).mem hv hk
  have hoo : ∀ x ∈ out, keyOk x := fun x hx => keysB_ok b x (hin x hx)
  refine r_any fun _ => ?_
  dsimp only
  refine r_if ((i : Int) < (so.n : Int)) rfl (fun hlt => ?_) (fun hge => ?_)
  · have hiy : out[i]? = some out[i] := List.getElem?_eq_getElem (by omega)
    have hyK := hin _ (List.getElem_mem (show i < out.length by omega))
    generalize out[i] = y at hiy hyK
    obtain ⟨cr, hcr, hcps⟩ := comAt_ix hX hyK
    have hyl := ixK_lt hyK
    have hyo := keysB_ok b y hyK
    obtain ⟨r', p', hr', hrm', hp', hko', hks', hcm'⟩ := hs.get (i := ixK (keysB b) y) (by omega)
    rw [hcr] at hr'
    cases hr'
    have hdn := hks'.n
    have hp3 : cr.ps.length ≤ 3 := (rows_ok hX hv cr hrm').2.1
    obtain ⟨L, hO, h⟩ := hS.split
    refine r_joinI ?_
    refine r_draw h fun w4 h => ?_
    have ls_ : ∀ {v : World} {X : List Blk}, At w v X → ldOk v 1 ((p.add 0).add 0) .slice s := fun h => by rw [Go.Deep.add_add]; exact ldOk_below h.below hls
    refine r_ldN s (ls_ h) ?_
    obtain ⟨y', qy, hy', _, hqy, _, hyl2⟩ := (ownS_ks hO h (List.sublist_append_left _ _) hoo).get (i := i) (by omega)
    rw [hiy] at hy'
    cases hy'
    refine r_ix qy hqy (by omega) (by omega) ?_
    simp only [Int.toNat_natCast]
    refine r_ldN (u8s y).toArray hyl2 ?_
    refine r_call h (c_led_at (hp.at h) hyo (by omega)) fun r27 w5 h _ hr27 => ?_
    subst hr27
    rw [ixI_pos hyK]
    refine r_chk1 (ls_ h) ?_
    refine r_ix p' hp' (by omega) (by omega) ?_
    simp only [Int.toNat_natCast]
    refine r_ldN cr.d (hcm'.at h).d ?_
    refine ⟨(cr.d, (cr.d.n : Int), 0), rfl, ?_⟩
    refine r_any fun _ => ?_
    dsimp only
    refine r_loop (σ := Sl × Int) (fun st w' => ∃ (j : Nat) (L' : List Blk), st.2 = j ∧ j ≤ cr.ps.length ∧ At w w' (L' ++ ([(b3, (u8s k).toArray, ty_impl_Key)] ++ [])) ∧ OwnS ty_impl_Key 32 st.1 (((cr.ps.take j).foldl meetK out).flatMap u8s) L' ∧ st.1.n = ((cr.ps.take j).foldl meetK out).length) (fun st _ => (cr.d.n - st.2).toNat) (so, 0) rfl
      ⟨0, L, rfl, by omega, h, by simpa using hO, by simpa using hsn2⟩ ?_
    clear h hO
    rintro ⟨s12, j⟩ w5 ⟨j, L', hj0, hj, h, hO, hsn3⟩
    dsimp only at hj0 hO hsn3
    subst hj0
    have hcur : ∀ x ∈ (cr.ps.take j).foldl meetK out, keyOk x := fun x hx => by
      rcases (meets_mem _ _ _).1 hx with hx | hx
      · exact hoo x hx
      · exact hks'.ok x (List.mem_of_mem_take hx)
    have hcl2 : ((cr.ps.take j).foldl meetK out).length ≤ 43 := by
      have h1 := nodup_le (s := (cr.ps.take j).foldl meetK out) (t := out ++ cr.ps.take j) (meets_nodup _ hW.nodup) (fun x hx => by rw [List.mem_append]; exact (meets_mem _ _ _).1 hx)
      rw [List.length_append, List.length_take] at h1
      omega
    refine r_any fun _ => ?_
    dsimp only
    refine r_if ((j : Int) < (cr.d.n : Int)) rfl (fun hlt2 => ?_) (fun hge2 => ?_)
    · obtain ⟨pk, qk, hpk, hpkm, hqk, hpko, hpkl⟩ := (hks'.at h).get (i := j) (by omega)
      refine r_ix qk hqk (by omega) (by omega) ?_
      refine r_ldN (u8s pk).toArray (by simp only [Int.toNat_natCast]; exact hpkl) ?_
      refine r_new h fun b8 w6 h => ?_
      refine r_stA h 0 rfl rfl (by simp [hpko.1]) (by simp [Value.cells]) (by simpa using u8s_one) fun w7 h => ?_
      have h : At w w7 ([(b8, (u8s pk).toArray, ty_impl_Key)] ++ (L' ++ ([(b3, (u8s k).toArray, ty_impl_Key)] ++ []))) := h
      refine r_ldA h 0 rfl rfl (by simp [hpko.1]) ?_
      refine r_call h (c_ContainsK (ownS_ks hO h ((List.sublist_append_left _ _).trans (List.sublist_append_right _ _)) hcur) hpko (by omega)) fun r48 w8 h _ hr48 => ?_
      subst hr48
      have hstep : (cr.ps.take (j + 1)).foldl meetK out = meetK ((cr.ps.take j).foldl meetK out) pk := by rw [take_succ_get hpk, List.foldl_append]; rfl
      by_cases hmem : pk ∈ (cr.ps.take j).foldl meetK out
      · rw [decide_eq_true hmem]
        refine r_false rfl ?_
        have hm2 : meetK ((cr.ps.take j).foldl meetK out) pk = (cr.ps.take j).foldl meetK out := if_pos hmem
        exact ⟨(s12, ((j + 1 : Nat) : Int)), by rw [w64 (by omega) (by omega)]; rfl, ⟨j + 1, L', rfl, by omega, h.right, by rw [hstep, hm2]; exact hO, by rw [hstep, hm2]; exact hsn3⟩, by dsimp only; omega⟩
      · rw [decide_eq_false hmem]
        refine r_true rfl ?_
        have hm2 : meetK ((cr.ps.take j).foldl meetK out) pk = (cr.ps.take j).foldl meetK out ++ [pk] := if_neg hmem
        refine r_ldA h 0 rfl rfl (by simp [hpko.1]) ?_
        refine r_push T_sl_Key (hO.slo h.pl1) (by simp [Value.cells, hpko.1]) (by omega) (by simpa [Value.cells] using u8s_one) (by omega) (by omega) fun y57 w9 hS7 hn7 => ?_
        obtain ⟨L7, hO7, h⟩ := hS7.split
        refine ⟨(y57, ((j + 1 : Nat) : Int)), by rw [w64 (by omega) (by omega)]; rfl, ⟨j + 1, L7, rfl, by omega, h.dr1, ?_, ?_⟩, by dsimp only; omega⟩
        · rw [hstep, hm2, List.flatMap_append]
          simpa [Value.cells] using hO7
        · dsimp only
          rw [hstep, hm2, List.length_append]
          simp only [List.length_cons, List.length_nil]
          omega
    · have hjl : j = cr.ps.length := by omega
      subst hjl
      rw [List.take_of_length_le (Nat.le_refl _), hcps] at hO hsn3
      exact ⟨(s12, ((i + 1 : Nat) : Int)), by rw [w64 (by omega) (by omega)]; rfl, ⟨i + 1, _, rfl, hW.next hiy, hO.slo h, hsn3⟩, by dsimp only; omega⟩
  · obtain ⟨L, hO, h⟩ := hS.split
    refine r_call h (c_sorted (ownS_ks hO h (List.sublist_append_left _ _) hoo) (by omega)) fun r46 w5 h5 _ ⟨o2, ha, hm, _, _, hS5, hn5⟩ => ?_
    have he : o2 = ancB b k := ancB_of hv hk ha fun x => by rw [hm]; exact hW.all (by omega) x
    rw [he] at hS5 hn5
    exact r_ret h5.nil r46 rfl ⟨(SlO.lift h hS5).base, hn5⟩)

theorem c_led_isAncestor {w : World} {p : Addr} {rs : List CR} {ms : List ER} {b : PBk} {a k : List Int} (hp : LedR w p rs ms (keysB b)) (hX : rs.map CR.pc = b.cms) (hv : validB b) (ha : keyOk a) (hk : k ∈ keysB b) :
    Ret Tryz.prog n_ptr_impl_ledger_isAncestor [.pointer (some p), .agg (u8s a).toArray, .agg (u8s k).toArray] w [.bool] (fun r _ => r = decide (a ∈ ancB b k)) := ptr_impl_ledger_isAncestor_calls _ _ _ (by
  unfold ptr_impl_ledger_isAncestor
  have hko := keysB_ok b k hk
  refine r_new (At.refl w) fun b4 w1 h => ?_
  refine r_new h fun b5 w2 h => ?_
  have h : At w w2 [(b5, (u8s k).toArray, ty_impl_Key), (b4, (u8s a).toArray, ty_impl_Key)] := h
  refine r_draw h fun w3 h => ?_
  refine r_ldA h 0 rfl rfl (by simp [hko.1]) ?_
  refine r_ldA h 1 rfl rfl (by simp [ha.1]) ?_
  refine r_call h (c_led_ancestors (hp.at h) hX hv hk) fun r9 w4 h _ ⟨hS, hn⟩ => ?_
  refine r_chk1 (ldOk_blk h 1 rfl (by simp [ha.1])) ?_
  have hl := ancB_len hv hk
  refine r_call h (c_ContainsK (slO_ks hS (fun x hx => keysB_ok b x (ancB_sub hv hk hx))) ha (by omega)) fun r11 w5 h _ hr => ?_
  subst hr
  exact r_ret h.nil _ rfl rfl)

theorem KsR.one {w0 w : World} {ls : List Blk} {s : Sl} {k : List Int} (hS : SlO w0 w ls ty_impl_Key 32 s (Value.agg (u8s k).toArray).cells.toList) (hk : keyOk k) : KsR w s [k] := slO_ks (ks := [k]) (by simpa [Value.cells] using hS) (by simpa using hk)
theorem KsR.two {w0 w : World} {ls : List Blk} {s : Sl} {a k : List Int} (hS : SlO w0 w ls ty_impl_Key 32 s ((Value.agg (u8s a).toArray).cells.toList ++ (Value.agg (u8s k).toArray).cells.toList)) (ha : keyOk a) (hk : keyOk k) : KsR w s [a, k] := slO_ks (ks := [a, k]) (by simpa [Value.cells] using hS) (by simp [ha, hk])

theorem c_impl_AncestorsOf {w : World} {r q : Array Value} {b : PBk} {k : List Int} (hr : RdBook w r b) (hq : RdKey w q k) (hz : sizeBook b ≤ 1073741824) :
    Ret Tryz.prog n_impl_AncestorsOf [.agg r, .agg q] w [.slice, .int .i64] (fun x w' => ∃ L, At w w' L ∧ OwnKeyS x.1 (ancAns b k).1 L ∧ x.2 = (ancAns b k).2) := impl_AncestorsOf_calls _ _ (by
  unfold impl_AncestorsOf
  obtain ⟨rfl, hk⟩ := hq
  obtain ⟨s, t, rfl, ⟨rs, hX, hs⟩, ⟨ms, hM, ht⟩⟩ := hr
  refine r_new (At.refl w) fun b2 w1 h => ?_
  refine r_new h fun b3 w2 h => ?_
  have h : At w w2 [(b3, (u8s k).toArray, ty_impl_Key), (b2, bkC s t, ty_impl_Book)] := h
  refine r_ldA h 1 rfl rfl rfl ?_
  refine r_ldA h 0 rfl rfl (by simp [hk.1]) ?_
  refine r_bs1 T_sl_Key h (by simp [Value.cells, hk.1]) (by omega) fun y11 w3 hy hyn => ?_
  refine r_call hy.at_ (c_open (hs.at hy.at_) (ht.at hy.at_) hX hM (KsR.one hy hk) hz (by simp)) fun r12 w4 h _ ⟨h1, h2⟩ => ?_
  obtain ⟨o, c⟩ := r12
  dsimp only at h1 h2 ⊢
  subst h1
  refine r_ne (fun hne => ?_) (fun heq => ?_)
  · exact r_ret h.nil (⟨none, 0, 0⟩, openCode b [k]) rfl ⟨[], h.nil, by unfold ancAns; rw [if_neg hne]; exact ⟨OwnKeyS.none, rfl⟩⟩
  · obtain ⟨hv, hin, bl, L, rfl, hL, hO⟩ := h2 heq
    have hkK := hin k (by simp)
    have hlen : L.length = L.length := rfl
    refine r_ldA h 0 rfl rfl (by simp [hk.1]) ?_
    refine r_call h (c_led_ancestors (hO.rd hL (List.Sublist.refl _) (hs.at h) (ht.at h)) hX hv hkK) fun r20 w5 _ _ ⟨hS, hn⟩ => ?_
    obtain ⟨Lr, hA, hOr⟩ := slO_ownKeyS (SlO.lift h hS).base (fun x hx => keysB_ok b x (ancB_sub hv hkK hx))
    exact r_ret hA.nil (r20, 0) rfl ⟨Lr, hA, by unfold ancAns; rw [if_pos heq]; exact ⟨hOr, rfl⟩⟩)

theorem c_spec_AncestorsOf {w : World} {r q : Array Value} {b : PBk} {k : List Int} (hr : RdBook w r b) (hq : RdKey w q k) (hz : sizeBook b ≤ 1073741824) :
    Ret Tryz.prog n_spec_AncestorsOf [.agg r, .agg q] w [.slice, .int .i64] (fun x w' => ∃ L, At w w' L ∧ OwnKeyS x.1 (ancAns b k).1 L ∧ x.2 = (ancAns b k).2) := spec_AncestorsOf_calls _ _ (by
  unfold spec_AncestorsOf
  obtain ⟨rfl, hk⟩ := hq
  obtain ⟨s, t, rfl, ⟨rs, hX, hs⟩, ⟨ms, hM, ht⟩⟩ := hr
  refine r_new (At.refl w) fun b2 w1 h => ?_
  refine r_new h fun b3 w2 h => ?_
  have h : At w w2 [(b3, (u8s k).toArray, ty_impl_Key), (b2, bkC s t, ty_impl_Book)] := h
  refine r_ldA h 0 rfl rfl (by simp [hk.1]) ?_
  refine r_call h (c_l07At (bkR_own h 1 rfl (hs.at h) (ht.at h)) hX hM hz hk) fun r10 w3 h _ ⟨h1, h2⟩ => ?_
  obtain ⟨i, c⟩ := r10
  dsimp only at h1 h2 ⊢
  subst h1
  refine r_ne (fun hne => ?_) (fun heq => ?_)
  · refine r_bs0 T_sl_Key h fun y15 w4 hy hyn => ?_
    obtain ⟨L, hA, hO⟩ := slO_ownKeyS (ks := []) (s := y15) (by simpa using hy.base) (by simp)
    exact r_ret hA.nil (y15, openCode b [k]) rfl ⟨L, hA, by unfold ancAns; rw [if_neg hne]; exact ⟨hO, rfl⟩⟩
  · obtain ⟨hv, hkK, rfl⟩ := h2 heq
    refine r_call h (c_l07Above (bkR_own h 1 rfl (hs.at h) (ht.at h)) hX hv hkK) fun r18 w5 _ _ ⟨hS, hn⟩ => ?_
    obtain ⟨Lr, hA, hOr⟩ := slO_ownKeyS (SlO.lift h hS).base (fun x hx => keysB_ok b x (ancB_sub hv hkK hx))
    exact r_ret hA.nil (r18, 0) rfl ⟨Lr, hA, by unfold ancAns; rw [if_pos heq]; exact ⟨hOr, rfl⟩⟩)

theorem c_impl_IsAncestor {w : World} {r q q' : Array Value} {b : PBk} {a k : List Int} (hr : RdBook w r b) (hqa : RdKey w q a) (hq : RdKey w q' k) (hz : sizeBook b ≤ 1073741824) :
    Ret Tryz.prog n_impl_IsAncestor [.agg r, .agg q, .agg q'] w [.bool, .int .i64] (fun x _ => x.1 = (isAncAns b a k).1 ∧ x.2 = (isAncAns b a k).2) := impl_IsAncestor_calls _ _ _ (by
  unfold impl_IsAncestor
  obtain ⟨rfl, ha⟩ := hqa
  obtain ⟨rfl, hk⟩ := hq
  obtain ⟨s, t, rfl, ⟨rs, hX, hs⟩, ⟨ms, hM, ht⟩⟩ := hr
  refine r_new (At.refl w) fun b3 w1 h => ?_
  refine r_new h fun b4 w2 h => ?_
  refine r_new h fun b5 w3 h => ?_
  have h : At w w3 [(b5, (u8s k).toArray, ty_impl_Key), (b4, (u8s a).toArray, ty_impl_Key), (b3, bkC s t, ty_impl_Book)] := h
  refine r_ldA h 2 rfl rfl rfl ?_
  refine r_ldA h 1 rfl rfl (by simp [ha.1]) ?_
  refine r_ldA h 0 rfl rfl (by simp [hk.1]) ?_
  refine r_bs2 T_sl_Key h (by simp [Value.cells, ha.1]) (by simp [Value.cells, hk.1]) (by omega) fun y14 w4 hy hyn => ?_
  refine r_call hy.at_ (c_open (hs.at hy.at_) (ht.at hy.at_) hX hM (KsR.two hy ha hk) hz (by simp)) fun r15 w5 h _ ⟨h1, h2⟩ => ?_
  obtain ⟨o, c⟩ := r15
  dsimp only at h1 h2 ⊢
  subst h1
  refine r_ne (fun hne => ?_) (fun heq => ?_)
  · exact r_ret h.nil (false, openCode b [a, k]) rfl (by unfold isAncAns; rw [if_neg hne]; exact ⟨rfl, rfl⟩)
  · obtain ⟨hv, hin, bl, L, rfl, hL, hO⟩ := h2 heq
    have hkK := hin k (by simp)
    refine r_ldA h 1 rfl rfl (by simp [ha.1]) ?_
    refine r_ldA h 0 rfl rfl (by simp [hk.1]) ?_
    refine r_call h (c_led_isAncestor (hO.rd hL (List.Sublist.refl _) (hs.at h) (ht.at h)) hX hv ha hkK) fun r24 w6 h _ hr => ?_
    subst hr
    exact r_ret h.nil (_, 0) rfl (by unfold isAncAns; rw [if_pos heq]; exact ⟨rfl, rfl⟩))

theorem c_spec_IsAncestor {w : World} {r q q' : Array Value} {b : PBk} {a k : List Int} (hr : RdBook w r b) (hqa : RdKey w q a) (hq : RdKey w q' k) (hz : sizeBook b ≤ 1073741824) :
    Ret Tryz.prog n_spec_IsAncestor [.agg r, .agg q, .agg q'] w [.bool, .int .i64] (fun x _ => x.1 = (isAncAns b a k).1 ∧ x.2 = (isAncAns b a k).2) := spec_IsAncestor_calls _ _ _ (by
  unfold spec_IsAncestor
  obtain ⟨rfl, ha⟩ := hqa
  obtain ⟨rfl, hk⟩ := hq
  obtain ⟨s, t, rfl, ⟨rs, hX, hs⟩, ⟨ms, hM, ht⟩⟩ := hr
  refine r_new (At.refl w) fun b3 w1 h => ?_
  refine r_new h fun b4 w2 h => ?_
  refine r_new h fun b5 w3 h => ?_
  have h : At w w3 [(b5, (u8s k).toArray, ty_impl_Key), (b4, (u8s a).toArray, ty_impl_Key), (b3, bkC s t, ty_impl_Book)] := h
  refine r_ldA h 1 rfl rfl (by simp [ha.1]) ?_
  refine r_ldA h 0 rfl rfl (by simp [hk.1]) ?_
  refine r_call h (c_l07Two (bkR_own h 2 rfl (hs.at h) (ht.at h)) hX hM hz ha hk) fun r14 w4 h _ ⟨h1, h2⟩ => ?_
  obtain ⟨i, j, c⟩ := r14
  dsimp only at h1 h2 ⊢
  subst h1
  refine r_ne (fun hne => ?_) (fun heq => ?_)
  · exact r_ret h.nil (false, openCode b [a, k]) rfl (by unfold isAncAns; rw [if_neg hne]; exact ⟨rfl, rfl⟩)
  · obtain ⟨hv, haK, hkK, rfl, rfl⟩ := h2 heq
    refine r_draw h fun w5 h => ?_
    refine r_ldA h 1 rfl rfl (by simp [ha.1]) ?_
    refine r_call h (c_l07Above (bkR_own h 2 rfl (hs.at h) (ht.at h)) hX hv hkK) fun r22 w6 h _ ⟨hS, hn⟩ => ?_
    refine r_chk1 (ldOk_blk h 1 rfl (by simp [ha.1])) ?_
    have hl := ancB_len hv hkK
    refine r_call h (c_l01Has (slO_ks hS (fun x hx => keysB_ok b x (ancB_sub hv hkK hx))) ha (by omega)) fun r24 w7 h _ hr => ?_
    subst hr
    exact r_ret h.nil (_, 0) rfl (by unfold isAncAns; rw [if_pos heq]; exact ⟨rfl, rfl⟩))
end Go.Proofs.YtkifkdkjljcclaaGreat
