/- The laws' own helpers: places, membership, keys of commits, lists compared. -/
import Derived.Test.YtkifkdkjljcclaaGreatPkLAnc40
namespace Go.Proofs.YtkifkdkjljcclaaGreat
open Go.Sx Go.RowKit

theorem c_a2Long (s t : Sl) : RetP Tryz.prog n_laws_a2Long [.slice s.a s.n s.c, .slice t.a t.n t.c] [.bool] (decide (3000 < s.n ∨ 3000 < t.n)) := fun w => laws_a2Long_calls s t (by
  unfold laws_a2Long
  refine r_if ((s.n : Int) > 3000) rfl (fun h => r_retP ?_) (fun h => r_retP ?_)
  · have : 3000 < s.n ∨ 3000 < t.n := .inl (by omega)
    simp [valL, embL, Sh.emb, this]
  · have e : decide ((t.n : Int) > 3000) = decide (3000 < s.n ∨ 3000 < t.n) := decide_eq_decide.2 (by omega)
    rw [e]; rfl)

theorem c_a2At {w0 w : World} {ls : List Blk} {s : Sl} {d : List Int} (k : Nat) (N : Nat) (hA : At w0 w ls) (hs : SlAt w0 s 1 (u8s d)) (hb : bytesOk d) (hN : N ≤ 1000000) :
    Ret Tryz.prog n_laws_a2At [.slice s.a s.n s.c, .int .i64 (k : Int), .int .i64 (N : Int)] w [.int .i64] (fun r _ => ∃ j : Nat, r = j ∧ (j < N ∨ j = 0)) := laws_a2At_calls _ _ _ (by
  unfold laws_a2At
  have hn := sl_len hs
  have hR : ∀ {ls' : List Blk} {w' : World}, At w w' ls' → At w0 w' [] := fun h => ⟨hA.below.trans (h.below.mono hA.size), by simp, by simp, by simp⟩
  refine r_join (σ := Unit) (fun _ w' => (k < s.n ∧ 1 ≤ N) ∧ At w w' []) (fun _ w1 h => ?_) ?_
  · obtain ⟨⟨hk, hN1⟩, h⟩ := h
    refine r_any fun _ => ?_
    obtain ⟨p, hp, hc⟩ := sl_cell hs (i := k) (by omega)
    refine r_ix p hp (by omega) (by omega) ?_
    refine r_ldO (hR h) (d.getD k 0) (by simp only [Int.toNat_natCast]; exact hc) (by simp) ?_
    have hbd := hb.get k
    rw [w64 (n := d.getD k 0) (by omega) (by omega)]
    refine r_pur _ (fun w' => run_rem (by omega) w') ?_
    have e1 := Int.emod_nonneg (d.getD k 0) (show (N : Int) ≠ 0 by omega)
    have e2 := Int.emod_lt_of_pos (d.getD k 0) (show (0 : Int) < N by omega)
    rw [Int.tmod_eq_emod_of_nonneg hbd.1]
    obtain ⟨r, hr⟩ : ∃ r : Nat, d.getD k 0 % (N : Int) = r := ⟨_, (Int.toNat_of_nonneg e1).symm⟩
    rw [hr] at e2 ⊢
    exact r_ret h (r : Int) rfl ⟨r, rfl, .inl (by omega)⟩
  · refine r_if ((k : Int) ≥ (s.n : Int)) rfl (fun hge => r_ret (At.refl w) 0 rfl ⟨0, rfl, .inr rfl⟩) (fun hlt => ?_)
    refine r_if ((N : Int) < 1) rfl (fun hge => r_ret (At.refl w) 0 rfl ⟨0, rfl, .inr rfl⟩) (fun hge => ?_)
    exact ⟨(), rfl, ⟨by omega, by omega⟩, At.refl w⟩)


theorem c_a2Has {w : World} {s : Sl} {ks : List (List Int)} {k : List Int} (hs : KsR w s ks) (hk : keyOk k) (hmax : ks.length ≤ 1073741824) : Ret Tryz.prog n_laws_a2Has [.slice s.a s.n s.c, .agg (u8s k).toArray] w [.bool] (fun r _ => r = decide (k ∈ ks)) := laws_a2Has_calls _ _ (by
  unfold laws_a2Has
  have hn := hs.n
  refine r_new (At.refl w) fun b3 w1 h => ?_
  refine r_loop (σ := Int) (fun i w' => ∃ j : Nat, i = j ∧ j ≤ ks.length ∧ k ∉ ks.take j ∧ At w w' [(b3, (u8s k).toArray, ty_impl_Key)]) (fun i _ => (s.n - i).toNat) 0 rfl ⟨0, rfl, by omega, by simp, h⟩ ?_
  clear h
  rintro i w2 ⟨j, rfl, hj, hno, h⟩
  refine r_any fun _ => ?_
  refine r_if ((j : Int) < (s.n : Int)) rfl (fun hlt => ?_) (fun hge => ?_)
  · refine r_draw h fun w3 h => ?_
    obtain ⟨x, p, hx, hxm, hp, hxo, hxl⟩ := (hs.at h).get (i := j) (by omega)
    refine r_ix p hp (by omega) (by omega) ?_
    simp only [Int.toNat_natCast]
    refine r_ldN (u8s x).toArray hxl ?_
    refine r_ldA h 0 rfl rfl (by simp [hk.1]) ?_
    refine r_pur _ (fun w' => run_eql_key _ _ hxo.1 hk.1 w') ?_
    by_cases hxk : x = k
    · refine r_true (decide_eq_true hxk) ?_
      exact r_ret h.nil true rfl (decide_eq_true (hxk ▸ hxm)).symm
    · refine r_false (decide_eq_false hxk) ?_
      refine ⟨((j + 1 : Nat) : Int), by rw [w64 (by omega) (by omega)]; rfl, ⟨j + 1, rfl, by omega, ?_, h⟩, by omega⟩
      rw [take_succ_get hx]
      intro hm
      rcases List.mem_append.1 hm with hm | hm
      · exact hno hm
      · exact hxk (List.mem_singleton.1 hm).symm
  · have : j = ks.length := by omega
    subst this
    rw [List.take_of_length_le (Nat.le_refl _)] at hno
    exact r_ret h.nil false rfl (decide_eq_false hno).symm)
theorem c_SameKeys {w : World} {s t : Sl} {xs ys : List (List Int)} (hs : KsR w s xs) (ht : KsR w t ys) (hmax : xs.length ≤ 1073741824) : Ret Tryz.prog n_spec_SameKeys [.slice s.a s.n s.c, .slice t.a t.n t.c] w [.bool] (fun r _ => r = decide (xs = ys)) := spec_SameKeys_calls _ _ (by
  unfold spec_SameKeys
  have key : Ret Tryz.prog n_spec_l03Lists [.slice s.a s.n s.c, .slice t.a t.n t.c] w [.bool] (fun r _ => r = decide (xs = ys)) := spec_l03Lists_calls _ _ (by
    unfold spec_l03Lists
    have hn := hs.n
    have hm := ht.n
    refine r_ne (fun hne => ?_) (fun heq => ?_)
    · exact r_ret (At.refl w) false rfl (decide_eq_false fun hh => hne (by rw [hn, hm, hh])).symm
    have hl : xs.length = ys.length := by omega
    refine r_loop (σ := Int) (fun i w' => ∃ j : Nat, i = j ∧ j ≤ xs.length ∧ xs.take j = ys.take j ∧ At w w' []) (fun i _ => (s.n - i).toNat) 0 rfl ⟨0, rfl, by omega, by simp, At.refl w⟩ ?_
    rintro i w2 ⟨j, rfl, hj, hsame, h⟩
    refine r_any fun _ => ?_
    refine r_if ((j : Int) < (s.n : Int)) rfl (fun hlt => ?_) (fun hge => ?_)
    · refine r_draw h fun w3 h => ?_
      obtain ⟨x, p, hx, hxm, hp, hxo, hxl⟩ := (hs.at h).get (i := j) (by omega)
      obtain ⟨y, q, hy, hym, hq, hyo, hyl⟩ := (ht.at h).get (i := j) (by omega)
      refine r_ix p hp (by omega) (by omega) ?_
      simp only [Int.toNat_natCast]
      refine r_ldN (u8s x).toArray hxl ?_
      refine r_ix q hq (by omega) (by omega) ?_
      simp only [Int.toNat_natCast]
      refine r_ldN (u8s y).toArray hyl ?_
      refine r_rootEq hxo.1 hyo.1 (fun hne => ?_) (fun heq => ?_)
      · exact r_ret h.nil false rfl (decide_eq_false fun hh => hne (by rw [hh, hy] at hx; exact (Option.some.inj hx).symm)).symm
      · refine ⟨((j + 1 : Nat) : Int), by rw [w64 (by omega) (by omega)]; rfl, ⟨j + 1, rfl, by omega, ?_, h⟩, by omega⟩
        rw [take_succ_get hx, take_succ_get hy, hsame, heq]
    · rw [List.take_of_length_le (by omega), List.take_of_length_le (by omega)] at hsame
      exact r_ret h.nil true rfl (decide_eq_true hsame).symm)
  refine r_call (At.refl w) key fun r w1 h _ hr => ?_
  subst hr
  exact r_ret h _ rfl rfl)
theorem c_spec_CommitKey {w : World} {r : CR} (hk : keyOk r.root) (hr : KsR w r.d r.ps) (hok : okC r.pc) : Ret Tryz.prog n_spec_CommitKey [.agg r.cells.toArray] w [.agg, .int .i64] (fun x _ => x.1 = (u8s (ckey r.pc)).toArray ∧ x.2 = 0) := spec_CommitKey_calls _ (by
  unfold spec_CommitKey
  have hcl := crcells_len hk
  have hp3 : r.ps.length ≤ 3 := hok.2.1
  have hn64 : r.note.size ≤ 64 := hok.2.2.2
  have hck := ckey_ok r.pc
  refine r_new (At.refl w) fun b1 w1 h => ?_
  refine r_new h fun b2 w2 h => ?_
  have h : At w w2 [(b2, Array.replicate 32 (.int .u8 0), ty_impl_Key), (b1, r.cells.toArray, ty_impl_Commit)] := h
  have cm_ : ∀ {v : World}, At w v [(b2, Array.replicate 32 (.int .u8 0), ty_impl_Key), (b1, r.cells.toArray, ty_impl_Commit)] → CmAt v ⟨b1, 0, none⟩ r := fun h => cmAt_of hk (ldOk_blk h 1 rfl (by simp [hcl]))
  refine r_call h (c_l07Ok (cm_ h) (hr.at h) (by omega)) fun r4 w3 h _ hr4 => ?_
  subst hr4
  refine r_false (by rw [decide_eq_true hok]; rfl) ?_
  refine r_call h (c_l07Key hk (cm_ h) (hr.at h) (by omega) (by omega)) fun r7 w4 h _ hr7 => ?_
  subst hr7
  refine r_stA h 0 rfl rfl (by simp [hck.1]) (by simp) (by simpa using u8s_one) fun w5 h => ?_
  refine r_ldA h 0 rfl rfl (by simp [hck.1]) ?_
  exact r_ret h.nil (_, 0) rfl ⟨rfl, rfl⟩)
theorem c_spec_FindCommit {w : World} {r q : Array Value} {b : PBk} {k : List Int} (hr : RdBook w r b) (hq : RdKey w q k) (hz : sizeBook b ≤ 1073741824) : Ret Tryz.prog n_spec_FindCommit [.agg r, .agg q] w [.int .i64, .int .i64] (fun r _ => r.2 = openCode b [k] ∧ (openCode b [k] = 0 → validB b ∧ k ∈ keysB b ∧ r.1 = (ixK (keysB b) k : Int))) := spec_FindCommit_calls _ _ (by
  unfold spec_FindCommit
  obtain ⟨rfl, hk⟩ := hq
  obtain ⟨s, t, rfl, ⟨rs, hX, hs⟩, ⟨ms, hM, ht⟩⟩ := hr
  refine r_new (At.refl w) fun b2 w1 h => ?_
  refine r_new h fun b3 w2 h => ?_
  have h : At w w2 [(b3, (u8s k).toArray, ty_impl_Key), (b2, bkC s t, ty_impl_Book)] := h
  refine r_ldA h 0 rfl rfl (by simp [hk.1]) ?_
  refine r_call h (c_l07At (bkR_own h 1 rfl (hs.at h) (ht.at h)) hX hM hz hk) fun r10 w3 h _ hr10 => ?_
  exact r_ret h.nil r10 rfl hr10)
theorem c_CompareKeys {w : World} {a b : Array Value} {x y : List Int} (ha : RdKey w a x) (hb : RdKey w b y) : Ret Tryz.prog n_spec_CompareKeys [.agg a, .agg b] w [.int .i64] (fun r _ => r = cmpL x y) := spec_CompareKeys_calls _ _ (by
  unfold spec_CompareKeys
  obtain ⟨rfl, hx⟩ := ha
  obtain ⟨rfl, hy⟩ := hb
  refine r_new (At.refl w) fun b2 w1 h => ?_
  refine r_new h fun b3 w2 h => ?_
  have h : At w w2 [(b3, (u8s y).toArray, ty_impl_Key), (b2, (u8s x).toArray, ty_impl_Key)] := h
  refine r_ldA h 1 rfl rfl (by simp [hx.1]) ?_
  refine r_ldA h 0 rfl rfl (by simp [hy.1]) ?_
  refine r_call h (c_l01Compare hx.1 hy.1 _) fun r w3 h _ hr => ?_
  subst hr
  exact r_ret h.nil _ rfl rfl)
theorem sumF_bd {α : Type} (f : α → Nat) (M : Nat) : ∀ (X : List α), (∀ x ∈ X, f x ≤ M) → sumF f X ≤ M * X.length
  | [], _ => by simp [sumF]
  | x :: r, h => by
    have h1 := h x (by simp)
    have h2 := sumF_bd f M r fun y hy => h y (by simp [hy])
    rw [sumF_cons, List.length_cons, Nat.mul_add, Nat.mul_one]
    omega
theorem sumE_le128 {es : List PE} (h : okE es) : sizeEntryS es ≤ 8256 := by
  have hl := h.2
  have : ∀ (X : List PE), (∀ e ∈ X, entGood e) → sumE X ≤ 128 * X.length := by
    intro X
    induction X with
    | nil => intro _; simp [sumE]
    | cons e r ih =>
      intro hX
      have h1 := hX e (by simp)
      have h2 := ih fun x hx => hX x (by simp [hx])
      have h3 := h1.1
      unfold nameOk at h3
      simp only [decide_eq_true_eq] at h3
      have h4 := h1.2
      rw [List.length_cons]
      show e.1.size + e.2.size + sumE r ≤ _
      omega
  have h2 := this es fun e he => entGood_of h he
  unfold sizeEntryS
  omega
theorem sizeBook_valid {b : PBk} (hv : validB b) : sizeBook b ≤ 1000000 := by
  have h40 := hv.1.1
  have hml := hv.1.2
  have h1 : sumF szC b.cms ≤ 67 * b.cms.length := sumF_bd _ _ _ fun c hc => by
    obtain ⟨i, hi, rfl⟩ := List.getElem_of_mem hc
    have hg := (hv.2 i hi).1
    have e : comAt b i = b.cms[i] := by simp [comAt, List.getD, hi]
    rw [e] at hg
    have := hg.2.1
    have := hg.2.2.2
    unfold szC
    omega
  have h2 : sumF sizeEntryS b.maps ≤ 8256 * b.maps.length := sumF_bd _ _ _ fun m hm => by
    obtain ⟨i, hi, rfl⟩ := List.getElem_of_mem hm
    have hg := (hv.2 i (by omega)).2.1
    have e : mapAt b i = b.maps[i] := by simp [mapAt, List.getD, hi]
    rw [e] at hg
    exact sumE_le128 hg
  unfold sizeBook sizeCommitS sizeEntrySS
  rw [hml] at h2 ⊢
  have h3 : 67 * b.cms.length ≤ 67 * 40 := Nat.mul_le_mul_left _ h40
  have h4 : 8256 * b.cms.length ≤ 8256 * 40 := Nat.mul_le_mul_left _ h40
  omega
theorem open_ok {b : PBk} (hv : validB b) {ks : List (List Int)} (h : ∀ k ∈ ks, k ∈ keysB b) : openCode b ks = 0 := by
  unfold openCode
  rw [if_pos hv, if_pos h]
end Go.Proofs.YtkifkdkjljcclaaGreat
