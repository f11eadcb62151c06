/- History: ChangesAt: both sides. -/
import Derived.Test.YtaadgdbegpmlmaaGreatPkLUC31
namespace Go.Proofs.YtaadgdbegpmlmaaGreat
open Go.Sx Go.RowKit

def mapOfB (b : PBk) (k : List Int) : List PE := mapAt b (ixK (keysB b) k)
def beforeB (b : PBk) (k : List Int) : List PE := match parsB b k with
  | [] => []
  | p :: _ => mapOfB b p
def chgB (b : PBk) (k : List Int) : List PCh := chgL (beforeB b k) (mapOfB b k)
theorem mapOfB_ok {b : PBk} (hv : validB b) {k : List Int} (hk : k ∈ keysB b) : okE (mapOfB b k) := by
  have hl := ixK_lt hk
  rw [keysB_len] at hl
  exact (hv.2 _ hl).2.1
theorem okE_nil : okE [] := ⟨fun j hj => (by cases hj), by simp⟩
theorem beforeB_ok {b : PBk} (hv : validB b) {k : List Int} (hk : k ∈ keysB b) : okE (beforeB b k) := by
  unfold beforeB
  split
  · exact okE_nil
  · rename_i p r hp
    exact mapOfB_ok hv (pars_mem hv hk (by rw [hp]; simp)).1
theorem chgB_len {b : PBk} (hv : validB b) {k : List Int} (hk : k ∈ keysB b) : (chgB b k).length ≤ 128 := by
  have h1 := chgL_len (beforeB b k) (mapOfB b k)
  have h2 := (beforeB_ok hv hk).2
  have h3 := (mapOfB_ok hv hk).2
  show (chgL _ _).length ≤ _
  omega
theorem mapRow {b : PBk} {ms : List ER} (hM : ms.map ER.es = b.maps) (hv : validB b) {k : List Int} (hk : k ∈ keysB b) : ∃ m, ms[ixK (keysB b) k]? = some m ∧ m.es = mapOfB b k := by
  have hml : ms.length = b.maps.length := by rw [← hM]; simp
  have hl := ixK_lt hk
  rw [keysB_len] at hl
  have h2 := hv.1.2
  have hg : ms[ixK (keysB b) k]? = some ms[ixK (keysB b) k] := List.getElem?_eq_getElem (by omega)
  exact ⟨_, hg, mapAt_row hM hg⟩

theorem c_led_mapOf {w : World} {p : Addr} {rs : List CR} {ms : List ER} {b : PBk} {k : List Int} (hp : LedR w p rs ms (keysB b)) (hM : ms.map ER.es = b.maps) (hv : validB b) (hk : k ∈ keysB b) :
    Ret Tryz.prog n_ptr_impl_ledger_mapOf [.pointer (some p), .agg (u8s k).toArray] w [.slice] (fun r w' => EsR w' r (mapOfB b k)) := ptr_impl_ledger_mapOf_calls _ _ (by
  unfold ptr_impl_ledger_mapOf
  obtain ⟨s, t, sk, hls, hlt, hlk, hs, ht, hkk⟩ := hp.ex
  have hko := keysB_ok b k hk
  have hKl := keysB_len b
  have h40 := hv.1.1
  obtain ⟨m, hm, hme⟩ := mapRow hM hv hk
  refine r_new (At.refl w) fun b3 w1 h => ?_
  have h : At w w1 [(b3, (u8s k).toArray, ty_impl_Key)] := h
  refine r_draw h fun w2 h => ?_
  have lt_ : ∀ {v : World} {X : List Blk}, At w v X → ldOk v 1 ((p.add 0).add 1) .slice t := fun h => by rw [Go.Deep.add_add]; exact ldOk_below h.below hlt
  refine r_ldN t (lt_ h) ?_
  refine r_ldA h 0 rfl rfl (by simp [hko.1]) ?_
  refine r_call h (c_led_at (hp.at h) hko (by omega)) fun r12 w3 h _ hr => ?_
  subst hr
  rw [ixI_pos hk]
  refine r_chk1 (lt_ h) ?_
  have hml := (List.getElem?_eq_some_iff.1 hm).1
  have htn := ht.n
  obtain ⟨m2, q, hm2, _, hq, hmo, hmd⟩ := (ht.at h).get (i := ixK (keysB b) k) hml
  rw [hm] at hm2
  cases hm2
  refine r_ix q hq (by omega) (by omega) ?_
  simp only [Int.toNat_natCast]
  refine r_ldN m.d hmd ?_
  exact r_ret h.nil m.d rfl (by rw [← hme]; exact hmo))

theorem c_led_changesAt {w : World} {p : Addr} {rs : List CR} {ms : List ER} {b : PBk} {k : List Int} (hp : LedR w p rs ms (keysB b)) (hX : rs.map CR.pc = b.cms) (hM : ms.map ER.es = b.maps) (hv : validB b) (hk : k ∈ keysB b) :
    Ret Tryz.prog n_ptr_impl_ledger_changesAt [.pointer (some p), .agg (u8s k).toArray] w [.slice] (fun r w' => SlO w w' [] ty_impl_Change 5 r ((chgB b k).flatMap chC) ∧ r.n = (chgB b k).length) := ptr_impl_ledger_changesAt_calls _ _ (by
  unfold ptr_impl_ledger_changesAt
  obtain ⟨s, t, sk, hls, hlt, hlk, hs, ht, hkk⟩ := hp.ex
  have hko := keysB_ok b k hk
  have hKl := keysB_len b
  have h40 := hv.1.1
  have hrl : rs.length = b.cms.length := by rw [← hX]; simp
  have hkl := ixK_lt hk
  have hsn := hs.n
  have hm64 := (mapOfB_ok hv hk).2
  have hb64 := (beforeB_ok hv hk).2
  obtain ⟨cr, hcr, hcps⟩ := comAt_ix hX hk
  refine r_new (At.refl w) fun b3 w1 h => ?_
  have h : At w w1 ([(b3, (u8s k).toArray, ty_impl_Key)] ++ []) := h
  refine r_bs0 T_sl_Entry h fun y7 w2 hy hyn => ?_
  obtain ⟨Ly, hOy, h⟩ := hy.split
  refine r_joinI ?_
  refine r_draw h fun w3 h => ?_
  have ls_ : ∀ {v : World} {X : List Blk}, At w v X → ldOk v 1 ((p.add 0).add 0) .slice s := fun h => by rw [Go.Deep.add_add]; exact ldOk_below h.below hls
  refine r_ldN s (ls_ h) ?_
  refine r_ldA h.pl1 0 rfl rfl (by simp [hko.1]) ?_
  refine r_call h (c_led_at (hp.at h) hko (by omega)) fun r15 w4 h _ hr => ?_
  subst hr
  rw [ixI_pos hk]
  refine r_chk1 (ls_ h) ?_
  obtain ⟨r', p', hr', hrm', hp', hko', hks', hcm'⟩ := (hs.at h).get (i := ixK (keysB b) k) (by omega)
  rw [hcr] at hr'
  cases hr'
  refine r_ix p' hp' (by omega) (by omega) ?_
  simp only [Int.toNat_natCast]
  refine r_ldN cr.d hcm'.d ?_
  refine ⟨cr.d, rfl, ?_⟩
  refine r_any fun _ => ?_
  have hdn := hks'.n
  rw [hcps] at hks' hdn
  refine r_if ((cr.d.n : Int) > 0) rfl (fun hpos => ?_) (fun hz => ?_)
  · obtain ⟨pk, qk, hpk, hpkm, hqk, hpko, hpkl⟩ := hks'.get (i := 0) (by omega)
    have hpK := (pars_mem hv hk hpkm).1
    have hbe : beforeB b k = mapOfB b pk := by
      unfold beforeB
      cases hps : parsB b k with
      | nil => rw [hps] at hpk; simp at hpk
      | cons x r => rw [hps] at hpk; simp at hpk; rw [hpk]
    refine r_ix qk hqk (by omega) (by omega) ?_
    refine r_ldN (u8s pk).toArray (by simp only [Int.toNat_zero]; exact hpkl) ?_
    refine r_call h (c_led_mapOf (hp.at h) hM hv hpK) fun r26 w5 h _ hE1 => ?_
    refine r_ldA h.pl1 0 rfl rfl (by simp [hko.1]) ?_
    refine r_call h (c_led_mapOf (hp.at h) hM hv hk) fun r30 w6 h hb6 hE2 => ?_
    rw [← hbe] at hE1
    refine r_call h (c_changes (SlOf.below hE1 hb6) hE2 (by omega) (by omega)) fun r31 w7 h7 _ ⟨hS, hn⟩ => ?_
    exact r_ret h7.nil r31 rfl ⟨(SlO.lift h hS).base, hn⟩
  · have hps : parsB b k = [] := List.eq_nil_of_length_eq_zero (by omega)
    have hbe : beforeB b k = [] := by unfold beforeB; rw [hps]
    refine r_ldA h.pl1 0 rfl rfl (by simp [hko.1]) ?_
    refine r_call h (c_led_mapOf (hp.at h) hM hv hk) fun r30 w6 h _ hE2 => ?_
    have hE1 : EsR w6 y7 (beforeB b k) := by
      rw [hbe]
      exact OwnS.of (xs := []) (by simpa using hOy) h (List.sublist_append_left _ _) (by simp) (by omega)
    refine r_call h (c_changes hE1 hE2 (by omega) (by omega)) fun r31 w7 h7 _ ⟨hS, hn⟩ => ?_
    exact r_ret h7.nil r31 rfl ⟨(SlO.lift h hS).base, hn⟩)

theorem c_spec_ChangesOf {w : World} {s t : Sl} {A B : List PE} (hs : EsR w s A) (ht : EsR w t B) (ha : okE A) (hb : okE B) : Ret Tryz.prog n_spec_ChangesOf [.slice s.a s.n s.c, .slice t.a t.n t.c] w [.slice, .int .i64] (fun r w' => (SlO w w' [] ty_impl_Change 5 r.1 ((chgL A B).flatMap chC) ∧ r.1.n = (chgL A B).length) ∧ r.2 = 0) := spec_ChangesOf_calls _ _ (by
  unfold spec_ChangesOf
  have ha2 := ha.2
  have hb2 := hb.2
  refine r_call (At.refl w) (c_l04Ok hs (by omega)) fun r7 w1 h _ hr => ?_
  subst hr
  refine r_false (by rw [decide_eq_true ha]; rfl) ?_
  refine r_call h (c_l04Ok (SlOf.at ht h) (by omega)) fun r11 w2 h _ hr => ?_
  subst hr
  refine r_false (by rw [decide_eq_true hb]; rfl) ?_
  refine r_call h (c_l04Changes (SlOf.at hs h) (SlOf.at ht h) (by omega) (by omega)) fun r17 w3 h3 _ ⟨hS, hn⟩ => ?_
  exact r_ret h3 (r17, 0) rfl ⟨⟨(SlO.lift h hS).base, hn⟩, rfl⟩)

theorem c_l07Changes {w : World} {p : Addr} {rs : List CR} {ms : List ER} {b : PBk} {k : List Int} (hp : BkR w p rs ms) (hX : rs.map CR.pc = b.cms) (hM : ms.map ER.es = b.maps) (hv : validB b) (hk : k ∈ keysB b) :
    Ret Tryz.prog n_spec_l07Changes [.pointer (some p), .int .i64 (ixK (keysB b) k : Int)] w [.slice, .int .i64] (fun r w' => (SlO w w' [] ty_impl_Change 5 r.1 ((chgB b k).flatMap chC) ∧ r.1.n = (chgB b k).length) ∧ r.2 = 0) := spec_l07Changes_calls _ _ (by
  unfold spec_l07Changes
  obtain ⟨s, t, hls, hlt, hs, ht⟩ := hp.ex
  have hsn := hs.n
  have htn := ht.n
  have hKl := keysB_len b
  have h40 := hv.1.1
  have hrl : rs.length = b.cms.length := by rw [← hX]; simp
  have hkl := ixK_lt hk
  obtain ⟨cr, hcr, hcps⟩ := comAt_ix hX hk
  have ls_ : ∀ {v : World} {X : List Blk}, At w v X → ldOk v 1 (p.add 0) .slice s := fun h => ldOk_below h.below hls
  have lt_ : ∀ {v : World} {X : List Blk}, At w v X → ldOk v 1 (p.add 1) .slice t := fun h => ldOk_below h.below hlt
  refine r_bs0 T_sl_Entry (At.refl w) fun y7 w1 hy hyn => ?_
  obtain ⟨Ly, hOy, h⟩ := hy.split
  refine r_join (σ := Sl) (fun sl w' => ∃ X, At w w' X ∧ EsR w' sl (beforeB b k)) (fun sl w2 ⟨X, h, hE1⟩ => ?_) ?_
  · refine r_any fun _ => ?_
    obtain ⟨m, hm, hme⟩ := mapRow hM hv hk
    refine r_ldN t (lt_ h) ?_
    have hml := (List.getElem?_eq_some_iff.1 hm).1
    obtain ⟨m2, q, hm2, _, hq, hmo, hmd⟩ := (ht.at h).get (i := ixK (keysB b) k) hml
    rw [hm] at hm2
    cases hm2
    refine r_ix q hq (by omega) (by omega) ?_
    simp only [Int.toNat_natCast]
    refine r_ldN m.d hmd ?_
    refine r_call h (c_spec_ChangesOf hE1 hmo (beforeB_ok hv hk) (by rw [hme]; exact mapOfB_ok hv hk)) fun r45 w3 h3 _ ⟨⟨hS, hn⟩, hc⟩ => ?_
    obtain ⟨r1, r2⟩ := r45
    dsimp only at hS hn hc ⊢
    subst hc
    rw [hme] at hS hn
    exact r_ret h3.nil (r1, 0) rfl ⟨⟨(SlO.lift h hS).base, hn⟩, rfl⟩
  · obtain ⟨r', p', hr', hrm', hp', hko', hks', hcm'⟩ := hs.get (i := ixK (keysB b) k) (by omega)
    rw [hcr] at hr'
    cases hr'
    have hdn := hks'.n
    rw [hcps] at hks' hdn
    have ld_ : ∀ {v : World} {X : List Blk}, At w v X → ldOk v 1 ((p'.add (ixK (keysB b) k * 35)).add 32) .slice cr.d := fun h => (hcm'.at h).d
    refine r_ldN s (ls_ h) ?_
    refine r_ix p' hp' (by omega) (by omega) ?_
    simp only [Int.toNat_natCast]
    refine r_ldN cr.d (ld_ h) ?_
    refine r_if ((cr.d.n : Int) > 0) rfl (fun hpos => ?_) (fun hz => ?_)
    · refine r_draw h fun w3 h => ?_
      obtain ⟨pk, qk, hpk, hpkm, hqk, hpko, hpkl⟩ := hks'.get (i := 0) (by omega)
      have hpK := (pars_mem hv hk hpkm).1
      have hpi := ixK_lt hpK
      have hbe : beforeB b k = mapOfB b pk := by
        unfold beforeB
        cases hps : parsB b k with
        | nil => rw [hps] at hpk; simp at hpk
        | cons x r => rw [hps] at hpk; simp at hpk; rw [hpk]
      have hq32 : ∀ {v : World} {X : List Blk}, At w v X → ldOk v 32 (qk.add (((0 : Int)).toNat * 32)) .agg (u8s pk).toArray := fun h => ldOk_below h.below hpkl
      refine r_ldN t (lt_ h) ?_
      refine r_ldN s (ls_ h) ?_
      refine r_ix p' hp' (by omega) (by omega) ?_
      simp only [Int.toNat_natCast]
      refine r_ldN cr.d (ld_ h) ?_
      refine r_ix qk hqk (by omega) (by omega) ?_
      refine r_ldN (u8s pk).toArray (hq32 h) ?_
      refine r_call h (c_l07Keys (hp.at h) (rows_ok hX hv) (by omega)) fun r23 w4 h _ ⟨hS, hn⟩ => ?_
      rw [hX] at hS
      refine r_chk (fun x hx => by
        simp only [List.mem_cons, List.not_mem_nil, or_false] at hx
        rcases hx with rfl | rfl | rfl | rfl
        · exact hq32 h
        · exact ld_ h
        · exact ls_ h
        · exact lt_ h) ?_
      refine r_call h (c_l07Find (slO_ks hS (keysB_ok b)) hpko (by rw [keysC_len]; omega)) fun r34 w5 h _ hr34 => ?_
      subst hr34
      rw [show ixI (keysC b.cms) pk = ixI (keysB b) pk from rfl, ixI_pos hpK]
      refine r_chk3 (ld_ h) (ls_ h) (lt_ h) ?_
      obtain ⟨m, hm, hme⟩ := mapRow hM hv hpK
      have hml := (List.getElem?_eq_some_iff.1 hm).1
      obtain ⟨m2, q, hm2, _, hq, hmo, hmd⟩ := (ht.at h).get (i := ixK (keysB b) pk) hml
      rw [hm] at hm2
      cases hm2
      refine r_ix q hq (by omega) (by omega) ?_
      simp only [Int.toNat_natCast]
      refine r_ldN m.d hmd ?_
      exact ⟨m.d, rfl, _, h, by rw [hbe, ← hme]; exact hmo⟩
    · have hps : parsB b k = [] := List.eq_nil_of_length_eq_zero (by omega)
      have hbe : beforeB b k = [] := by unfold beforeB; rw [hps]
      exact ⟨y7, rfl, _, h, by
        rw [hbe]
        exact OwnS.of (xs := []) (by simpa using hOy) h (List.sublist_append_left _ _) (by simp) (by omega)⟩)

end Go.Proofs.YtaadgdbegpmlmaaGreat
