/- History: BasesOf: the reference. Printed in part (b9.py). -/
import Derived.Test.YtaadgdbegpmlmaaGreatPkLBO33
namespace Go.Proofs.YtaadgdbegpmlmaaGreat
open Go.Sx Go.RowKit

theorem c_l07Bases {w : World} {p : Addr} {rs : List CR} {ms : List ER} {b : PBk} {a k : List Int} (hp : BkR w p rs ms) (hX : rs.map CR.pc = b.cms) (hv : validB b) (ha : a ∈ keysB b) (hk : k ∈ keysB b) :
    Ret Tryz.prog n_spec_l07Bases [.pointer (some p), .int .i64 (ixK (keysB b) a : Int), .int .i64 (ixK (keysB b) k : Int)] w [.slice] (fun r w' => SlO w w' [] ty_impl_Key 32 r ((basesB b a k).flatMap u8s) ∧ r.n = (basesB b a k).length) := spec_l07Bases_calls _ _ _ (by
  unfold spec_l07Bases
  have hrl : rs.length = b.cms.length := by rw [← hX]; simp
  have h40 := hv.1.1
  have hKl := keysB_len b
  have hal := ancB_len hv ha
  have hkl := ancB_len hv hk
  have hoka : ∀ x ∈ ancB b a, keyOk x := fun x hx => keysB_ok b x (ancB_sub hv ha hx)
  have hokk : ∀ x ∈ ancB b k, keyOk x := fun x hx => keysB_ok b x (ancB_sub hv hk hx)
  refine r_call (At.refl w) (c_l07Keys hp (rows_ok hX hv) (by omega)) fun r17 w1 _ _ ⟨hS, hn17⟩ => ?_
  rw [hX] at hS
  have hS : SlO w w1 [] ty_impl_Key 32 r17 ((keysB b).flatMap u8s) := hS
  obtain ⟨Lk, hOk, h⟩ := hS.split
  refine r_call h (c_l07Above (hp.at h) hX hv ha) fun r20 w2 _ _ ⟨hS, hn20⟩ => ?_
  obtain ⟨Lx, hOx, h⟩ := (SlO.lift h hS).split
  refine r_call h (c_l07Above (hp.at h) hX hv hk) fun r23 w3 _ _ ⟨hS, hn23⟩ => ?_
  obtain ⟨Ly, hOy, h⟩ := (SlO.lift h hS).split
  refine r_bs0 T_sl_Key h fun y24 w4 hy hyn => ?_
  obtain ⟨Lb, hOb, h⟩ := hy.split
  refine r_loop (σ := Sl × Int) (fun st w' => ∃ (j : Nat) (Lb : List Blk), st.2 = j ∧ j ≤ (ancB b a).length ∧ At w w' (Lb ++ (Ly ++ (Lx ++ (Lk ++ [])))) ∧ OwnS ty_impl_Key 32 st.1 ((((ancB b a).take j).filter fun x => decide (x ∈ ancB b k)).flatMap u8s) Lb ∧ st.1.n = (((ancB b a).take j).filter fun x => decide (x ∈ ancB b k)).length) (fun st _ => (r20.n - st.2).toNat) (y24, 0) rfl
    ⟨0, Lb, rfl, by omega, h, by simpa using hOb, by simpa using hyn⟩ ?_
  clear h hy hyn hOb hS
  rintro ⟨sb, j⟩ w5 ⟨j, Lb, hj0, hj, h, hOb, hnb⟩
  dsimp only at hj0 hOb hnb
  subst hj0
  have hfl := List.length_filter_le (fun x => decide (x ∈ ancB b k)) ((ancB b a).take j)
  rw [List.length_take] at hfl
  refine r_any fun _ => ?_
  dsimp only
  refine r_if ((j : Int) < (r20.n : Int)) rfl (fun hlt => ?_) (fun hge => ?_)
  · have xs_ : ∀ {v : World}, At w v (Lb ++ (Ly ++ (Lx ++ (Lk ++ [])))) → KsR v r20 (ancB b a) := fun h => ownS_ks hOx h ((List.sublist_append_left _ _).trans ((List.sublist_append_right _ _).trans (List.sublist_append_right _ _))) hoka
    obtain ⟨x, q, hx, hxm, hq, hxo, hxl⟩ := (xs_ h).get (i := j) (by omega)
    refine r_ix q hq (by omega) (by omega) ?_
    simp only [Int.toNat_natCast]
    refine r_ldN (u8s x).toArray hxl ?_
    refine r_call h (c_l01Has (ownS_ks hOy h ((List.sublist_append_left _ _).trans (List.sublist_append_right _ _)) hokk) hxo (by omega)) fun r36 w6 h _ hr36 => ?_
    subst hr36
    have e : ((ancB b a).take (j + 1)).filter (fun x => decide (x ∈ ancB b k)) = ((ancB b a).take j).filter (fun x => decide (x ∈ ancB b k)) ++ if x ∈ ancB b k then [x] else [] := by
      rw [take_succ_get hx, List.filter_append]
      by_cases hh : x ∈ ancB b k <;> simp [hh]
    by_cases hmem : x ∈ ancB b k
    · rw [decide_eq_true hmem]
      refine r_true rfl ?_
      rw [if_pos hmem] at e
      obtain ⟨x2, q2, hx2, _, hq2, _, hxl2⟩ := (xs_ h).get (i := j) (by omega)
      rw [hx] at hx2
      cases hx2
      refine r_ix q2 hq2 (by omega) (by omega) ?_
      simp only [Int.toNat_natCast]
      refine r_ldN (u8s x).toArray hxl2 ?_
      refine r_push T_sl_Key (hOb.slo h) (by simp [Value.cells, hxo.1]) (by omega) (by simpa [Value.cells] using u8s_one) (by omega) (by omega) fun y43 w7 hS7 hn7 => ?_
      obtain ⟨L7, hO7, h⟩ := hS7.split
      refine ⟨(y43, ((j + 1 : Nat) : Int)), by rw [w64 (by omega) (by omega)]; rfl, ⟨j + 1, L7, rfl, by omega, h, ?_, ?_⟩, by dsimp only; omega⟩
      · rw [e, List.flatMap_append]
        simpa [Value.cells] using hO7
      · dsimp only
        rw [e, List.length_append]
        simp only [List.length_cons, List.length_nil]
        omega
    · rw [decide_eq_false hmem]
      refine r_false rfl ?_
      rw [if_neg hmem, List.append_nil] at e
      exact ⟨(sb, ((j + 1 : Nat) : Int)), by rw [w64 (by omega) (by omega)]; rfl, ⟨j + 1, Lb, rfl, by omega, h, by rw [e]; exact hOb, by rw [e]; exact hnb⟩, by dsimp only; omega⟩
  have hjl : j = (ancB b a).length := by omega
  subst hjl
  rw [List.take_of_length_le (Nat.le_refl _)] at hOb hnb
  have hOb : OwnS ty_impl_Key 32 sb ((bothB b a k).flatMap u8s) Lb := hOb
  have hnb : sb.n = (bothB b a k).length := hnb
  have hnd := bothB_nodup b a k
  have hbl := bothB_len hv ha k
  have hbK : ∀ x ∈ bothB b a k, x ∈ keysB b := fun x hx => bothB_sub hv ha hx
  rw [basesB_eq]
  generalize bothB b a k = B at hOb hnb hnd hbl hbK
  have hbo : ∀ x ∈ B, keyOk x := fun x hx => keysB_ok b x (hbK x hx)
  refine r_bs0 T_sl_Key h fun y44 w6 hy hyn => ?_
  obtain ⟨Lo, hOo, h⟩ := hy.split
  refine r_loop (σ := Sl × Int) (fun st w' => ∃ (n : Nat) (Lo : List Blk), st.2 = n ∧ n ≤ B.length ∧ At w w' (Lo ++ (Lb ++ (Ly ++ (Lx ++ (Lk ++ []))))) ∧ OwnS ty_impl_Key 32 st.1 (((B.take n).filter fun x => !belowB b B x).flatMap u8s) Lo ∧ st.1.n = ((B.take n).filter fun x => !belowB b B x).length) (fun st _ => (sb.n - st.2).toNat) (y44, 0) rfl
    ⟨0, Lo, rfl, by omega, h, by simpa using hOo, by simpa using hyn⟩ ?_
  clear h hy hyn hOo
  rintro ⟨so, n⟩ w7 ⟨n, Lo, hn0, hn, h, hOo, hno⟩
  dsimp only at hn0 hOo hno
  subst hn0
  have hfl2 := List.length_filter_le (fun x => !belowB b B x) (B.take n)
  rw [List.length_take] at hfl2
  refine r_any fun _ => ?_
  dsimp only
  have both : ∀ {v : World}, At w v (Lo ++ (Lb ++ (Ly ++ (Lx ++ (Lk ++ []))))) → KsR v sb B := fun h => ownS_ks hOb h ((List.sublist_append_left _ _).trans (List.sublist_append_right _ _)) hbo
  have keys : ∀ {v : World}, At w v (Lo ++ (Lb ++ (Ly ++ (Lx ++ (Lk ++ []))))) → KsR v r17 (keysB b) := fun h => ownS_ks hOk h ((List.sublist_append_left _ _).trans ((List.sublist_append_right _ _).trans ((List.sublist_append_right _ _).trans ((List.sublist_append_right _ _).trans (List.sublist_append_right _ _))))) (keysB_ok b)
  refine r_if ((n : Int) < (sb.n : Int)) rfl (fun hlt => ?_) (fun hge2 => ?_)
  · obtain ⟨x, qx, hx, hxm, hqx, hxo, _⟩ := (both h).get (i := n) (by omega)
    have hxe : ∀ {v : World}, At w v (Lo ++ (Lb ++ (Ly ++ (Lx ++ (Lk ++ []))))) → ∃ q, sb.a = some q ∧ ldOk v 32 (q.add (n * 32)) .agg (u8s x).toArray := fun h => by
      obtain ⟨x2, q2, hx2, _, hq2, _, hxl2⟩ := (both h).get (i := n) (by omega)
      rw [hx] at hx2
      cases hx2
      exact ⟨q2, hq2, hxl2⟩
    have lx : ∀ {v : World}, At w v (Lo ++ (Lb ++ (Ly ++ (Lx ++ (Lk ++ []))))) → ldOk v 32 (qx.add (n * 32)) .agg (u8s x).toArray := fun h => by
      obtain ⟨q2, hq2, hl⟩ := hxe h
      rw [hqx] at hq2
      cases hq2
      exact hl
    refine r_loop (σ := Bool × Int) (fun st w' => ∃ m : Nat, st.2 = m ∧ m ≤ B.length ∧ st.1 = !((B.take m).any fun y => decide (x ≠ y) && decide (x ∈ ancB b y)) ∧ At w w' (Lo ++ (Lb ++ (Ly ++ (Lx ++ (Lk ++ [])))))) (fun st _ => (sb.n - st.2).toNat) (true, 0) rfl
      ⟨0, rfl, by omega, by simp, h⟩ ?_
    clear h
    rintro ⟨last, m⟩ w8 ⟨m, hm0, hm, hlast, h⟩
    dsimp only at hm0 hlast
    subst hm0
    refine r_any fun _ => ?_
    dsimp only
    refine r_if ((m : Int) < (sb.n : Int)) rfl (fun hlt3 => ?_) (fun hge3 => ?_)
    · refine r_draw h fun w9 h => ?_
      obtain ⟨y, qy, hyy, hym, hqy, hyo, _⟩ := (both h).get (i := m) (by omega)
      rw [hqx] at hqy
      cases hqy
      have hyK := hbK y hym
      have hyal := ancB_len hv hyK
      have hyanc : ∀ z ∈ ancB b y, keyOk z := fun z hz => keysB_ok b z (ancB_sub hv hyK hz)
      have ly : ∀ {v : World}, At w v (Lo ++ (Lb ++ (Ly ++ (Lx ++ (Lk ++ []))))) → ldOk v 32 (qx.add (m * 32)) .agg (u8s y).toArray := fun h => by
        obtain ⟨y2, q2, hy2, _, hq2, _, hyl2⟩ := (both h).get (i := m) (by omega)
        rw [hyy] at hy2
        cases hy2
        rw [hqx] at hq2
        cases hq2
        exact hyl2
      have hany : ((B.take (m + 1)).any fun y => decide (x ≠ y) && decide (x ∈ ancB b y)) = (((B.take m).any fun y => decide (x ≠ y) && decide (x ∈ ancB b y)) || (decide (x ≠ y) && decide (x ∈ ancB b y))) := by
        rw [take_succ_get hyy, List.any_append]
        simp
      refine r_ne (fun hne => ?_) (fun heq => ?_)
      · have hxy : x ≠ y := fun hh => by
          subst hh
          have := (List.getElem?_inj (by omega : n < B.length) hnd).1 (hx.trans hyy.symm)
          omega
        refine r_ix qx hqx (by omega) (by omega) ?_
        simp only [Int.toNat_natCast]
        refine r_ix qx hqx (by omega) (by omega) ?_
        simp only [Int.toNat_natCast]
        refine r_all2 ?_ ?_
        · refine r_ldN (u8s y).toArray (ly h) ?_
          refine r_all2 ?_ ?_
          · refine r_call h (c_l07Find (keys h) hyo (by omega)) fun r67 v1 h _ hr67 => ?_
            subst hr67
            rw [ixI_pos hyK]
            refine r_all2 ?_ ?_
            · refine r_call h (c_l07Above (hp.at h) hX hv hyK) fun r68 v2 h _ ⟨hS68, hn68⟩ => ?_
              refine r_ldN (u8s x).toArray (lx h) ?_
              refine r_call h (c_l01Has (slO_ks hS68 hyanc) hxo (by omega)) fun r73 v3 h _ hr73 => ?_
              subst hr73
              by_cases hmem : x ∈ ancB b y
              · rw [decide_eq_true hmem]
                refine r_true rfl ?_
                refine ⟨(false, ((m + 1 : Nat) : Int)), by rw [w64 (by omega) (by omega)]; rfl, ⟨m + 1, rfl, by omega, ?_, h⟩, by dsimp only; omega⟩
                rw [hany, decide_eq_true hmem, decide_eq_true hxy]
                simp
              · rw [decide_eq_false hmem]
                refine r_false rfl ?_
                refine ⟨(last, ((m + 1 : Nat) : Int)), by rw [w64 (by omega) (by omega)]; rfl, ⟨m + 1, rfl, by omega, ?_, h⟩, by dsimp only; omega⟩
                rw [hany, decide_eq_false hmem]
                simpa using hlast
            · refine r_ldN (u8s x).toArray (lx h) ?_
              refine r_call h (c_l07Above (hp.at h) hX hv hyK) fun r68 v2 h _ ⟨hS68, hn68⟩ => ?_
              refine r_call h (c_l01Has (slO_ks hS68 hyanc) hxo (by omega)) fun r73 v3 h _ hr73 => ?_
              subst hr73
              by_cases hmem : x ∈ ancB b y
              · rw [decide_eq_true hmem]
                refine r_true rfl ?_
                refine ⟨(false, ((m + 1 : Nat) : Int)), by rw [w64 (by omega) (by omega)]; rfl, ⟨m + 1, rfl, by omega, ?_, h⟩, by dsimp only; omega⟩
                rw [hany, decide_eq_true hmem, decide_eq_true hxy]
                simp
              · rw [decide_eq_false hmem]
                refine r_false rfl ?_
                refine ⟨(last, ((m + 1 : Nat) : Int)), by rw [w64 (by omega) (by omega)]; rfl, ⟨m + 1, rfl, by omega, ?_, h⟩, by dsimp only; omega⟩
                rw [hany, decide_eq_false hmem]
                simpa using hlast
          · refine r_ldN (u8s x).toArray (lx h) ?_
            refine r_call h (c_l07Find (keys h) hyo (by omega)) fun r67 v1 h _ hr67 => ?_
            subst hr67
            rw [ixI_pos hyK]
            refine r_call h (c_l07Above (hp.at h) hX hv hyK) fun r68 v2 h _ ⟨hS68, hn68⟩ => ?_
            refine r_call h (c_l01Has (slO_ks hS68 hyanc) hxo (by omega)) fun r73 v3 h _ hr73 => ?_
            subst hr73
            by_cases hmem : x ∈ ancB b y
            · rw [decide_eq_true hmem]
              refine r_true rfl ?_
              refine ⟨(false, ((m + 1 : Nat) : Int)), by rw [w64 (by omega) (by omega)]; rfl, ⟨m + 1, rfl, by omega, ?_, h⟩, by dsimp only; omega⟩
              rw [hany, decide_eq_true hmem, decide_eq_true hxy]
              simp
            · rw [decide_eq_false hmem]
              refine r_false rfl ?_
              refine ⟨(last, ((m + 1 : Nat) : Int)), by rw [w64 (by omega) (by omega)]; rfl, ⟨m + 1, rfl, by omega, ?_, h⟩, by dsimp only; omega⟩
              rw [hany, decide_eq_false hmem]
              simpa using hlast
        · refine r_ldN (u8s x).toArray (lx h) ?_
          refine r_ldN (u8s y).toArray (ly h) ?_
          refine r_call h (c_l07Find (keys h) hyo (by omega)) fun r67 v1 h _ hr67 => ?_
          subst hr67
          rw [ixI_pos hyK]
          refine r_call h (c_l07Above (hp.at h) hX hv hyK) fun r68 v2 h _ ⟨hS68, hn68⟩ => ?_
          refine r_call h (c_l01Has (slO_ks hS68 hyanc) hxo (by omega)) fun r73 v3 h _ hr73 => ?_
          subst hr73
          by_cases hmem : x ∈ ancB b y
          · rw [decide_eq_true hmem]
            refine r_true rfl ?_
            refine ⟨(false, ((m + 1 : Nat) : Int)), by rw [w64 (by omega) (by omega)]; rfl, ⟨m + 1, rfl, by omega, ?_, h⟩, by dsimp only; omega⟩
            rw [hany, decide_eq_true hmem, decide_eq_true hxy]
            simp
          · rw [decide_eq_false hmem]
            refine r_false rfl ?_
            refine ⟨(last, ((m + 1 : Nat) : Int)), by rw [w64 (by omega) (by omega)]; rfl, ⟨m + 1, rfl, by omega, ?_, h⟩, by dsimp only; omega⟩
            rw [hany, decide_eq_false hmem]
            simpa using hlast
      · have hmn : m = n := by omega
        have hxy : x = y := by
          subst hmn
          rw [hx] at hyy
          exact Option.some.inj hyy
        have nx : ∃ s' : Bool × Int, embL [.bool, .int .i64] s' = [Value.bool last, .int .i64 (IntKind.wrap .i64 ((m : Int) + 1))] ∧ (∃ m : Nat, s'.2 = m ∧ m ≤ B.length ∧ s'.1 = !((B.take m).any fun y => decide (x ≠ y) && decide (x ∈ ancB b y)) ∧ At w w9 (Lo ++ (Lb ++ (Ly ++ (Lx ++ (Lk ++ [])))))) ∧ ((sb.n : Int) - s'.2).toNat < ((sb.n : Int) - (m : Int)).toNat := by
          refine ⟨(last, ((m + 1 : Nat) : Int)), by rw [w64 (by omega) (by omega)]; rfl, ⟨m + 1, rfl, by omega, ?_, h⟩, by dsimp only; omega⟩
          dsimp only
          rw [hany, decide_eq_false (fun hh : x ≠ y => hh hxy)]
          simpa using hlast
        exact r_all2 (r_all2 (r_all2 nx nx) nx) nx
    · have hml : m = B.length := by omega
      subst hml
      rw [List.take_of_length_le (Nat.le_refl _)] at hlast
      have hlast : last = !belowB b B x := hlast
      subst hlast
      have e : (B.take (n + 1)).filter (fun x => !belowB b B x) = (B.take n).filter (fun x => !belowB b B x) ++ if belowB b B x then [] else [x] := by
        rw [take_succ_get hx, List.filter_append]
        cases hh : belowB b B x <;> simp [hh]
      cases hh : belowB b B x with
      | true =>
        refine r_false rfl ?_
        rw [hh, if_pos rfl, List.append_nil] at e
        exact ⟨(so, ((n + 1 : Nat) : Int)), by rw [w64 (by omega) (by omega)]; rfl, ⟨n + 1, Lo, rfl, by omega, h, by rw [e]; exact hOo, by rw [e]; exact hno⟩, by dsimp only; omega⟩
      | false =>
        refine r_true rfl ?_
        rw [hh, if_neg (by simp)] at e
        refine r_ix qx hqx (by omega) (by omega) ?_
        simp only [Int.toNat_natCast]
        refine r_ldN (u8s x).toArray (lx h) ?_
        refine r_push T_sl_Key (hOo.slo h) (by simp [Value.cells, hxo.1]) (by omega) (by simpa [Value.cells] using u8s_one) (by omega) (by omega) fun y82 w9 hS9 hn9 => ?_
        obtain ⟨L9, hO9, h⟩ := hS9.split
        refine ⟨(y82, ((n + 1 : Nat) : Int)), by rw [w64 (by omega) (by omega)]; rfl, ⟨n + 1, L9, rfl, by omega, h, ?_, ?_⟩, by dsimp only; omega⟩
        · rw [e, List.flatMap_append]
          simpa [Value.cells] using hO9
        · dsimp only
          rw [e, List.length_append]
          simp only [List.length_cons, List.length_nil]
          omega
  · have hnl : n = B.length := by omega
    subst hnl
    rw [List.take_of_length_le (Nat.le_refl _)] at hOo hno
    exact r_ret h.nil so rfl ⟨(hOo.slo h).base, hno⟩)

theorem c_spec_BasesOf {w : World} {r q q' : Array Value} {b : PBk} {a k : List Int} (hr : RdBook w r b) (hqa : RdKey w q a) (hq : RdKey w q' k) (hz : sizeBook b ≤ 1073741824) :
    Ret Tryz.prog n_spec_BasesOf [.agg r, .agg q, .agg q'] w [.slice, .int .i64] (fun x w' => ∃ L, At w w' L ∧ OwnKeyS x.1 (basesAns b a k).1 L ∧ x.2 = (basesAns b a k).2) := spec_BasesOf_calls _ _ _ (by
  unfold spec_BasesOf
  obtain ⟨rfl, ha⟩ := hqa
  obtain ⟨rfl, hk⟩ := hq
  obtain ⟨s, t, rfl, ⟨rs, hX, hs⟩, ⟨ms, hM, ht⟩⟩ := hr
  refine r_new (At.refl w) fun b3 w1 h => ?_
  refine r_new h fun b4 w2 h => ?_
  refine r_new h fun b5 w3 h => ?_
  have h : At w w3 [(b5, (u8s k).toArray, ty_impl_Key), (b4, (u8s a).toArray, ty_impl_Key), (b3, bkC s t, ty_impl_Book)] := h
  refine r_ldA h 1 rfl rfl (by simp [ha.1]) ?_
  refine r_ldA h 0 rfl rfl (by simp [hk.1]) ?_
  refine r_call h (c_l07Two (bkR_own h 2 rfl (hs.at h) (ht.at h)) hX hM hz ha hk) fun r14 w4 h _ ⟨h1, h2⟩ => ?_
  obtain ⟨i, j, c⟩ := r14
  dsimp only at h1 h2 ⊢
  subst h1
  refine r_ne (fun hne => ?_) (fun heq => ?_)
  · refine r_bs0 T_sl_Key h fun y20 w5 hy hyn => ?_
    obtain ⟨L, hA, hO⟩ := slO_ownKeyS (ks := []) (s := y20) (by simpa using hy.base) (by simp)
    exact r_ret hA.nil (y20, openCode b [a, k]) rfl ⟨L, hA, by unfold basesAns; rw [if_neg hne]; exact ⟨hO, rfl⟩⟩
  · obtain ⟨hv, haK, hkK, rfl, rfl⟩ := h2 heq
    refine r_call h (c_l07Bases (bkR_own h 2 rfl (hs.at h) (ht.at h)) hX hv haK hkK) fun r24 w6 _ _ ⟨hS, hn⟩ => ?_
    obtain ⟨Lr, hA, hOr⟩ := slO_ownKeyS (SlO.lift h hS).base (fun x hx => keysB_ok b x (bothB_sub hv haK (List.mem_filter.1 hx).1))
    exact r_ret hA.nil (r24, 0) rfl ⟨Lr, hA, by unfold basesAns; rw [if_pos heq]; exact ⟨hOr, rfl⟩⟩)
end Go.Proofs.YtaadgdbegpmlmaaGreat
