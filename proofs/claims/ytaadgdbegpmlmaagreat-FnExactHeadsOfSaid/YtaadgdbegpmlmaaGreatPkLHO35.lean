/- History: HeadsOf: both sides. -/
import Derived.Test.YtaadgdbegpmlmaaGreatPkLHO34
namespace Go.Proofs.YtaadgdbegpmlmaaGreat
open Go.Sx Go.RowKit

theorem KsR.none (w : World) : KsR w ⟨Option.none, 0, 0⟩ [] := ⟨SlOf.nil (by omega), by simp⟩

theorem c_ContainsC {w0 w : World} {ls : List Blk} {s : Sl} {rs : List CR} (hA : At w0 w ls) (hs : CsR w s rs) (hmax : rs.length ≤ 1073741824) {g : FuncId} {cap : Array Value} (hg : isGo Tryz.prog g = true) (f : PC → Bool)
    (hf : ∀ (w' : World) (r : CR), At w0 w' ls → r ∈ rs → keyOk r.root → KsR w' r.d r.ps → Ret Tryz.prog g ((#[] : Array Value).toList ++ [.agg r.cells.toArray] ++ cap.toList) w' [.bool] (fun x _ => x = f r.pc)) :
    Ret Tryz.prog n_slices_ContainsFunc_sl_impl_Commit_impl_Commit [.slice s.a s.n s.c, .func (.func g) #[] cap] w [.bool] (fun x _ => x = (rs.map CR.pc).any f) := slices_ContainsFunc_sl_impl_Commit_impl_Commit_calls _ _ (by
  unfold slices_ContainsFunc_sl_impl_Commit_impl_Commit
  have ix : Ret Tryz.prog n_slices_IndexFunc_sl_impl_Commit_impl_Commit [.slice s.a s.n s.c, .func (.func g) #[] cap] w [.int .i64] (fun r _ => (0 ≤ r ∧ (rs.map CR.pc).any f = true) ∨ (r = -1 ∧ (rs.map CR.pc).any f = false)) := slices_IndexFunc_sl_impl_Commit_impl_Commit_calls _ _ (by
    unfold slices_IndexFunc_sl_impl_Commit_impl_Commit
    have hn := hs.n
    refine r_loop (σ := Int) (fun i w' => ∃ j : Nat, i = j ∧ j ≤ rs.length ∧ (∀ x ∈ rs.take j, f x.pc = false) ∧ At w w' []) (fun i _ => (s.n - i).toNat) 0 rfl ⟨0, rfl, by omega, by simp, At.refl w⟩ ?_
    rintro i w1 ⟨j, rfl, hj, hpre, h⟩
    refine r_any fun _ => ?_
    refine r_if ((j : Int) < (s.n : Int)) rfl (fun hlt => ?_) (fun hge => ?_)
    · obtain ⟨r, q, hr, hrm, hq, hko, hks, hcm⟩ := (hs.at h).get (i := j) (by omega)
      refine r_ix q hq (by omega) (by omega) ?_
      refine r_ldN r.cells.toArray (by simp only [Int.toNat_natCast]; exact hcm.all) ?_
      refine r_callV h hg (hf w1 r (hA.trans h.below) hrm hko hks) fun x w2 h2 _ hx => ?_
      subst hx
      refine r_cond (fun ht => ?_) (fun ht => ?_)
      · exact r_ret h2 (j : Int) rfl (.inl ⟨by show (0 : Int) ≤ j; omega, List.any_eq_true.2 ⟨r.pc, List.mem_map_of_mem hrm, ht⟩⟩)
      · refine ⟨((j + 1 : Nat) : Int), by rw [w64 (by omega) (by omega)]; rfl, ⟨j + 1, rfl, by omega, ?_, h2⟩, by omega⟩
        rw [take_succ_get hr]
        intro x hx
        rcases List.mem_append.1 hx with hx | hx
        · exact hpre x hx
        · rw [List.mem_singleton.1 hx]; exact ht
    · have : j = rs.length := by omega
      subst this
      rw [List.take_of_length_le (Nat.le_refl _)] at hpre
      exact r_ret h (-1 : Int) rfl (.inr ⟨rfl, List.any_eq_false.2 fun x hx => by
        obtain ⟨r, hr, rfl⟩ := List.mem_map.1 hx
        rw [hpre r hr]
        simp⟩))
  refine r_call (At.refl w) ix fun r w1 h _ hr => ?_
  rcases hr with ⟨h0, ht⟩ | ⟨rfl, hf0⟩
  · exact r_ret h _ rfl (by rw [ht]; exact decide_eq_true h0)
  · exact r_ret h _ rfl (by rw [hf0]; rfl))

theorem go_HeadsOf_1 : isGo Tryz.prog n_impl_HeadsOf_1 = true := by kernel_rfl
theorem go_HeadsOf_1_1 : isGo Tryz.prog n_impl_HeadsOf_1_1 = true := by kernel_rfl
def hasKid (b : PBk) (k : List Int) : Bool := b.cms.any fun c => decide (k ∈ c.ps)
theorem c_HeadsOf_1 {w : World} {p : Addr} {s : Sl} {rs : List CR} {b : PBk} {k : List Int} (hp : ldOk w 1 (p.add 0) .slice s) (hs : CsR w s rs) (hX : rs.map CR.pc = b.cms) (hm : rs.length ≤ 1073741824) (hpm : ∀ r ∈ rs, r.ps.length ≤ 1073741824) (hk : keyOk k) :
    Ret Tryz.prog n_impl_HeadsOf_1 [.agg (u8s k).toArray, .pointer (some p)] w [.bool] (fun x _ => x = hasKid b k) := impl_HeadsOf_1_calls _ _ (by
  unfold impl_HeadsOf_1
  refine r_new (At.refl w) fun b2 w1 h => ?_
  have h : At w w1 [(b2, (u8s k).toArray, ty_impl_Key)] := h
  refine r_ldN s (ldOk_below h.below hp) ?_
  refine r_call h (c_ContainsC (At.refl w1) (hs.at h) hm go_HeadsOf_1_1 (fun c => decide (k ∈ c.ps)) (fun w' r hA hr hko hks => ?_)) fun x w2 h2 _ hx => ?_
  · refine impl_HeadsOf_1_1_calls _ _ ?_
    unfold impl_HeadsOf_1_1
    have h' : At w w' [(b2, (u8s k).toArray, ty_impl_Key)] := h.trans hA.below
    refine r_new (At.refl w') fun b3 w3 h3 => ?_
    have h3 : At w' w3 [(b3, r.cells.toArray, ty_impl_Commit)] := h3
    refine r_ld h3 0 rfl (add_lit _ _ _) r.d (by simp [Sh.emb]) (by rw [Nat.zero_add]; exact cm_d hko ..) ?_
    refine r_ldN (u8s k).toArray (ldOk_below h3.below (ldOk_blk h' 0 rfl (by simp [hk.1]))) ?_
    refine r_call h3 (c_ContainsK (hks.at h3) hk (hpm r hr)) fun y w4 h4 _ hy => ?_
    subst hy
    exact r_ret h4.nil _ rfl rfl
  · subst hx
    exact r_ret h2.nil _ rfl (by rw [hX]; rfl))

theorem headsB_of {b : PBk} {out : List (List Int)} (ha : Asc out) (hm : ∀ x, x ∈ out ↔ x ∈ (keysB b).filter fun k => !hasKid b k) : out = headsB b :=
  asc_ext ha (sortK_asc _) fun x => by rw [hm]; unfold headsB; rw [sortK_mem]; rfl
theorem headsB_sub {b : PBk} {x : List Int} (hx : x ∈ headsB b) : x ∈ keysB b := by
  unfold headsB at hx
  rw [sortK_mem] at hx
  exact (List.mem_filter.1 hx).1
theorem headsB_len (b : PBk) : (headsB b).length ≤ b.cms.length := by
  have h1 := sortK_len ((keysB b).filter fun k => !b.cms.any fun c => decide (k ∈ c.ps))
  have h2 := List.length_filter_le (fun k => !b.cms.any fun c => decide (k ∈ c.ps)) (keysB b)
  rw [keysB_len] at h2
  show (sortK _).length ≤ _
  omega
theorem openCode_nil {b : PBk} (h : openCode b [] = 0) : validB b := by
  unfold openCode at h
  split at h
  · assumption
  · cases h
theorem headsAns_small (b : PBk) : sizeKeyS (headsAns b).1 ≤ 40 := by
  unfold headsAns
  split
  · rename_i h
    have := headsB_len b
    have := (openCode_nil h).1.1
    show (headsB b).length ≤ 40
    omega
  · simp [sizeKeyS]
theorem headsAns_msmall (b : PBk) : msizeKeyS (headsAns b).1 ≤ 1280 := by
  have := headsAns_small b
  unfold sizeKeyS at this
  unfold msizeKeyS
  omega

theorem c_impl_HeadsOf {w : World} {r : Array Value} {b : PBk} (hr : RdBook w r b) (hz : sizeBook b ≤ 1073741824) :
    Ret Tryz.prog n_impl_HeadsOf [.agg r] w [.slice, .int .i64] (fun x w' => ∃ L, At w w' L ∧ OwnKeyS x.1 (headsAns b).1 L ∧ x.2 = (headsAns b).2) := impl_HeadsOf_calls _ (by
  unfold impl_HeadsOf
  obtain ⟨s, t, rfl, ⟨rs, hX, hs⟩, ⟨ms, hM, ht⟩⟩ := hr
  have hrl : rs.length = b.cms.length := by rw [← hX]; simp
  refine r_new (At.refl w) fun b1 w1 h => ?_
  have h : At w w1 ([(b1, bkC s t, ty_impl_Book)] ++ []) := h
  refine r_ldA h 0 rfl rfl rfl ?_
  refine r_call h (c_open (x := ⟨Option.none, 0, 0⟩) (hs.at h) (ht.at h) hX hM (KsR.none _) hz (by simp)) fun r8 w2 _ hb ⟨h1, h2⟩ => ?_
  obtain ⟨o, c⟩ := r8
  dsimp only at h1 h2 ⊢
  subst h1
  have h' := h.trans hb
  refine r_ne (fun hne => ?_) (fun heq => ?_)
  · exact r_ret h'.nil (⟨Option.none, 0, 0⟩, openCode b []) rfl ⟨[], h'.nil, by unfold headsAns; rw [if_neg hne]; exact ⟨OwnKeyS.none, rfl⟩⟩
  · obtain ⟨hv, _, bl, L, rfl, hL, hO⟩ := h2 heq
    have h40 := hv.1.1
    have h : At w w2 (L ++ ([(b1, bkC s t, ty_impl_Book)] ++ [])) := h.join hL
    refine r_dp rfl ?_
    obtain ⟨s', t', sk, _, _, hlk, _, _, hkk⟩ := (hO.rd h (List.sublist_append_left _ _) (hs.at h) (ht.at h)).ex
    refine r_ldN sk hlk ?_
    have hKl := keysB_len b
    refine r_call h (c_CloneKeys hkk (by omega)) fun r18 w3 h3 _ ⟨hS, hn⟩ => ?_
    have hS := SlO.lift h hS
    have hpm : ∀ r ∈ rs, r.ps.length ≤ 1073741824 := fun r hr => by have : r.ps.length ≤ 3 := (rows_ok hX hv r hr).2.1; omega
    refine r_callR (c_DeleteFunc hS (keysB_ok b) hn (by omega) go_HeadsOf_1 (fun k => hasKid b k) (fun w' k hA hk => ?_)) ?_
    · have h1 := hA.pl1
      exact c_HeadsOf_1 (ldOk_own (sh := .slice) h1 0 rfl 0 rfl (by simp [Sh.emb])) (hs.at h1) hX (by omega) hpm hk
    · rintro v w4 ⟨r20, rfl, hS4, hn4⟩
      refine ⟨r20, rfl, ?_⟩
      have hok : ∀ k ∈ (keysB b).filter fun k => !hasKid b k, keyOk k := fun k hk => keysB_ok b k (List.mem_filter.1 hk).1
      have hfl := List.length_filter_le (fun k => !hasKid b k) (keysB b)
      refine r_call hS4.at_ (c_sorted (slO_ks hS4 hok) (by omega)) fun r21 w5 h5 _ ⟨o2, ha, hm, _, _, hS5, hn5⟩ => ?_
      have he : o2 = headsB b := headsB_of ha hm
      rw [he] at hS5 hn5
      obtain ⟨Lr, hA, hOr⟩ := slO_ownKeyS (SlO.lift hS4.at_ hS5).base (fun x hx => keysB_ok b x (headsB_sub hx))
      exact r_ret hA.nil (r21, 0) rfl ⟨Lr, hA, by unfold headsAns; rw [if_pos heq]; exact ⟨hOr, rfl⟩⟩)

theorem c_spec_HeadsOf {w : World} {r : Array Value} {b : PBk} (hr : RdBook w r b) (hz : sizeBook b ≤ 1073741824) :
    Ret Tryz.prog n_spec_HeadsOf [.agg r] w [.slice, .int .i64] (fun x w' => ∃ L, At w w' L ∧ OwnKeyS x.1 (headsAns b).1 L ∧ x.2 = (headsAns b).2) := spec_HeadsOf_calls _ (by
  unfold spec_HeadsOf
  obtain ⟨s, t, rfl, ⟨rs, hX, hs⟩, ⟨ms, hM, ht⟩⟩ := hr
  have hrl : rs.length = b.cms.length := by rw [← hX]; simp
  have hsn := hs.n
  refine r_new (At.refl w) fun b1 w1 h => ?_
  have h : At w w1 ([(b1, bkC s t, ty_impl_Book)] ++ []) := h
  refine r_call h (c_l07Book (bkR_own h 0 rfl (hs.at h) (ht.at h)) hX hM hz) fun r9 w2 h _ hr9 => ?_
  subst hr9
  by_cases hv : validB b
  · rw [decide_eq_true hv]
    refine r_false rfl ?_
    have h40 := hv.1.1
    have hKl := keysB_len b
    refine r_bs0 T_sl_Key h fun y12 w3 hy hyn => ?_
    have ls_ : ∀ {v : World} {V : List Blk}, At w v (V ++ ([(b1, bkC s t, ty_impl_Book)] ++ [])) → ldOk v 1 ((⟨b1, 0, none⟩ : Addr).add 0) .slice s := fun h => ldOk_own (sh := .slice) h.pl1 0 rfl 0 rfl (by simp [Sh.emb])
    obtain ⟨L0, hO0, h⟩ := hy.split
    refine r_loop (σ := Sl × Int) (fun st w' => ∃ (j : Nat) (L : List Blk), st.2 = j ∧ j ≤ rs.length ∧ At w w' (L ++ ([(b1, bkC s t, ty_impl_Book)] ++ [])) ∧ OwnS ty_impl_Key 32 st.1 (((rs.take j).flatMap CR.ps).flatMap u8s) L ∧ st.1.n = ((rs.take j).flatMap CR.ps).length ∧ st.1.n ≤ 3 * j) (fun st _ => (s.n - st.2).toNat) (y12, 0) rfl
      ⟨0, L0, rfl, by omega, h, by simpa using hO0, by simpa using hyn, by dsimp only; omega⟩ ?_
    clear h hy hyn hO0
    rintro ⟨sp, j⟩ w4 ⟨j, L, hj0, hj, h, hO, hn1, hn3⟩
    dsimp only at hj0 hO hn1 hn3
    subst hj0
    refine r_any fun _ => ?_
    dsimp only
    refine r_ldN s (ls_ h) ?_
    refine r_if ((j : Int) < (s.n : Int)) rfl (fun hlt => ?_) (fun hge => ?_)
    · obtain ⟨r, q, hr, hrm, hq, hko, hks, hcm⟩ := (hs.at h).get (i := j) (by omega)
      have hp3 : r.ps.length ≤ 3 := (rows_ok hX hv r hrm).2.1
      have hdn := hks.n
      refine r_ldN s (ls_ h) ?_
      refine r_ix q hq (by omega) (by omega) ?_
      simp only [Int.toNat_natCast]
      refine r_ldN r.d hcm.d ?_
      refine r_append T_sl_Key (hO.slo h) hks.of.sl (fun v hv => by
        obtain ⟨k, _, hk⟩ := List.mem_flatMap.1 hv
        exact u8s_one v hk) (by omega) (by omega) fun y27 w5 hS5 hn5 => ?_
      obtain ⟨L5, hO5, h⟩ := hS5.split
      have e : (rs.take (j + 1)).flatMap CR.ps = (rs.take j).flatMap CR.ps ++ r.ps := by rw [take_succ_get hr, List.flatMap_append]; simp
      refine ⟨(y27, ((j + 1 : Nat) : Int)), by rw [w64 (by omega) (by omega)]; rfl, ⟨j + 1, L5, rfl, by omega, h, by rw [e, List.flatMap_append]; exact hO5, by dsimp only; rw [e, List.length_append]; omega, by dsimp only; omega⟩, by dsimp only; omega⟩
    · have hjl : j = rs.length := by omega
      subst hjl
      rw [List.take_of_length_le (Nat.le_refl _)] at hO hn1
      have hall : ∀ k, k ∈ rs.flatMap CR.ps ↔ hasKid b k = true := by
        intro k
        unfold hasKid
        rw [List.any_eq_true, ← hX, List.mem_flatMap]
        constructor
        · rintro ⟨r, hr, hk⟩
          exact ⟨r.pc, List.mem_map_of_mem hr, decide_eq_true hk⟩
        · rintro ⟨c, hc, hk⟩
          obtain ⟨r, hr, rfl⟩ := List.mem_map.1 hc
          exact ⟨r, hr, of_decide_eq_true hk⟩
      have hpo : ∀ k ∈ rs.flatMap CR.ps, keyOk k := fun k hk => by
        obtain ⟨r, hr, hk⟩ := List.mem_flatMap.1 hk
        exact (hs.ok r hr).2.ok k hk
      have parents : ∀ {v : World} {V : List Blk}, At w v (V ++ (L ++ ([(b1, bkC s t, ty_impl_Book)] ++ []))) → KsR v sp (rs.flatMap CR.ps) := fun h => ownS_ks hO h ((List.sublist_append_left _ _).trans (List.sublist_append_right _ _)) hpo
      refine r_call h (c_l07Keys (bkR_own h.pl1 0 rfl (hs.at h) (ht.at h)) (rows_ok hX hv) (by omega)) fun r28 w5 _ _ ⟨hS, hn⟩ => ?_
      rw [hX] at hS
      have hS := SlO.lift h hS
      obtain ⟨Lk, hOk, h⟩ := hS.split
      have keys : ∀ {v : World} {V : List Blk}, At w v (V ++ (Lk ++ (L ++ ([(b1, bkC s t, ty_impl_Book)] ++ [])))) → KsR v r28 (keysB b) := fun h => ownS_ks hOk h ((List.sublist_append_left _ _).trans (List.sublist_append_right _ _)) (keysB_ok b)
      refine r_bs0 T_sl_Key h fun y29 w6 hy hyn => ?_
      obtain ⟨Lo, hOo, h⟩ := hy.split
      refine r_loop (σ := Sl × Int) (fun st w' => ∃ (j : Nat) (Lo : List Blk), st.2 = j ∧ j ≤ (keysB b).length ∧ At w w' (Lo ++ (Lk ++ (L ++ ([(b1, bkC s t, ty_impl_Book)] ++ [])))) ∧ OwnS ty_impl_Key 32 st.1 ((((keysB b).take j).filter fun k => !hasKid b k).flatMap u8s) Lo ∧ st.1.n = (((keysB b).take j).filter fun k => !hasKid b k).length) (fun st _ => (r28.n - st.2).toNat) (y29, 0) rfl
        ⟨0, Lo, rfl, by omega, h, by simpa using hOo, by simpa using hyn⟩ ?_
      clear h hy hyn hOo hS
      rintro ⟨so, j⟩ w7 ⟨j, Lo, hj0, hj, h, hOo, hno⟩
      dsimp only at hj0 hOo hno
      subst hj0
      have hfl := List.length_filter_le (fun k => !hasKid b k) ((keysB b).take j)
      rw [List.length_take] at hfl
      refine r_any fun _ => ?_
      dsimp only
      refine r_if ((j : Int) < (r28.n : Int)) rfl (fun hlt => ?_) (fun hge2 => ?_)
      · obtain ⟨k, q, hk, hkm, hq, hko, hkl⟩ := (keys h).get (i := j) (by omega)
        refine r_ix q hq (by omega) (by omega) ?_
        simp only [Int.toNat_natCast]
        refine r_ldN (u8s k).toArray hkl ?_
        have h2 : At w w7 ((Lo ++ Lk) ++ (L ++ ([(b1, bkC s t, ty_impl_Book)] ++ []))) := by rw [List.append_assoc]; exact h
        refine r_call h (c_l01Has (parents h2) hko (by omega)) fun r41 w8 h _ hr41 => ?_
        subst hr41
        have e : ((keysB b).take (j + 1)).filter (fun k => !hasKid b k) = ((keysB b).take j).filter (fun k => !hasKid b k) ++ if hasKid b k then [] else [k] := by
          rw [take_succ_get hk, List.filter_append]
          cases hh : hasKid b k <;> simp [hh]
        by_cases hkid : k ∈ rs.flatMap CR.ps
        · rw [decide_eq_true hkid]
          refine r_false rfl ?_
          rw [(hall k).1 hkid, if_pos rfl, List.append_nil] at e
          exact ⟨(so, ((j + 1 : Nat) : Int)), by rw [w64 (by omega) (by omega)]; rfl, ⟨j + 1, Lo, rfl, by omega, h, by rw [e]; exact hOo, by rw [e]; exact hno⟩, by dsimp only; omega⟩
        · rw [decide_eq_false hkid]
          refine r_true rfl ?_
          have hkf : hasKid b k = false := by
            cases hh : hasKid b k with
            | false => rfl
            | true => exact absurd ((hall k).2 hh) hkid
          rw [hkf, if_neg (by simp)] at e
          obtain ⟨k2, q2, hk2, _, hq2, _, hkl2⟩ := (keys h).get (i := j) (by omega)
          rw [hk] at hk2
          cases hk2
          refine r_ix q2 hq2 (by omega) (by omega) ?_
          simp only [Int.toNat_natCast]
          refine r_ldN (u8s k).toArray hkl2 ?_
          refine r_push T_sl_Key (hOo.slo h) (by simp [Value.cells, hko.1]) (by omega) (by simpa [Value.cells] using u8s_one) (by omega) (by omega) fun y49 w9 hS9 hn9 => ?_
          obtain ⟨L9, hO9, h⟩ := hS9.split
          refine ⟨(y49, ((j + 1 : Nat) : Int)), by rw [w64 (by omega) (by omega)]; rfl, ⟨j + 1, L9, rfl, by omega, h, ?_, ?_⟩, by dsimp only; omega⟩
          · rw [e, List.flatMap_append]
            simpa [Value.cells] using hO9
          · dsimp only
            rw [e, List.length_append]
            simp only [List.length_cons, List.length_nil]
            omega
      · have hjl : j = (keysB b).length := by omega
        subst hjl
        rw [List.take_of_length_le (Nat.le_refl _)] at hOo hno hfl
        have hok : ∀ k ∈ (keysB b).filter fun k => !hasKid b k, keyOk k := fun k hk => keysB_ok b k (List.mem_filter.1 hk).1
        refine r_call h (c_l01Sort (z := zero32) (ownS_ks hOo h (List.sublist_append_left _ _) hok) (by omega) rfl) fun r52 w8 h8 _ ⟨hS8, hn8⟩ => ?_
        have he : sortK ((keysB b).filter fun k => !hasKid b k) = headsB b := rfl
        rw [he] at hS8 hn8
        obtain ⟨Lr, hA, hOr⟩ := slO_ownKeyS (SlO.lift h hS8).base (fun x hx => keysB_ok b x (headsB_sub hx))
        have hc : openCode b [] = 0 := by unfold openCode; rw [if_pos hv, if_pos (by simp)]
        exact r_ret hA.nil (r52, 0) rfl ⟨Lr, hA, by unfold headsAns; rw [if_pos hc]; exact ⟨hOr, rfl⟩⟩
  · rw [decide_eq_false hv]
    refine r_true rfl ?_
    have hc : openCode b [] = 1 := by unfold openCode; rw [if_neg hv]
    refine r_bs0 T_sl_Key h fun y11 w3 hy hyn => ?_
    obtain ⟨L, hA, hO⟩ := slO_ownKeyS (ks := []) (s := y11) (by simpa using hy.base) (by simp)
    exact r_ret hA.nil (y11, 1) rfl ⟨L, hA, by unfold headsAns; rw [if_neg (by rw [hc]; decide), hc]; exact ⟨hO, rfl⟩⟩)
end Go.Proofs.YtaadgdbegpmlmaaGreat
