/- The program's lists: keys of lists, peaks, proofs of ranges and of growth. -/
import Derived.Test.YtjmncaoddfggnaaP0
namespace Go.Proofs.Ytjmncaoddfggnaa
open Go.Sx Go.RowKit

theorem SlO.ks {w0 w : World} {ls : List Blk} {e : Nat} {s : Sl} {l : List Int} (h : SlO w0 w ls e 32 s (u8s l)) (hb : bytesOk l) : KS w s l := by
  refine ⟨h.sl, hb, ?_⟩
  rcases h.own with ⟨_, h1, h2⟩ | ⟨_, _, _, _, h1, _⟩
  · omega
  · exact h1

theorem c_listKey {w0 : World} : ∀ (f : Nat) (s : Sl) (l : List Int) (w : World) (ls : List Blk), At w0 w ls → KS w0 s l → s.n ≤ f → s.n ≤ 65536 →
    Ret Try.prog n_impl_listKey [.slice s.a s.n s.c] w [.agg] (fun cs _ => cs = (u8s (lk l)).toArray)
  | f, s, l, w, ls, hA, hs, hf, hm => by
    generalize hT : lk l = T
    have hl := hs.len
    have hR : ∀ {ls' : List Blk} {w' : World}, At w w' ls' → At w0 w' [] := fun h => ⟨hA.below.trans (h.below.mono hA.size), by simp, by simp, by simp⟩
    refine impl_listKey_calls _ ?_
    unfold impl_listKey
    refine r_new (At.refl w) fun b2 w1 h => ?_
    refine r_callp (c_size_Key s) ?_
    have hT32 : T.length = 32 := by rw [← hT]; exact lk_len (n := s.n) (by omega)
    refine r_eq (fun h0 => ?_) (fun h0 => ?_)
    · refine r_call h (c_hash 3 (s := ⟨none, 0, 0⟩) (d := []) ⟨by simp [u8s], fun j v hv => by simp [u8s] at hv⟩ (fun b hb => by cases hb) (by simp)) fun k w2 h _ hk => ?_
      subst hk
      have : T = hashL 3 [] := by rw [← hT, lk, dif_pos (by omega)]
      rw [← this]
      refine r_stA h 0 rfl rfl (by simp [hT32]) (by simp [Value.cells]) (by simpa using u8s_one) fun w9 h9 => ?_
      refine r_ldA h9 0 rfl rfl (by simp [hT32]) ?_
      exact r_ret h9 _ rfl rfl
    · refine r_eq (fun h1 => ?_) (fun h1 => ?_)
      · obtain ⟨p, hp, hld⟩ := hs.head (by omega)
        refine r_ix p hp (by omega) (by omega) ?_
        refine r_ldO (hR h) _ (by have : p.add (Int.toNat 0 * 32) = p := by simp [Addr.add]
                                  rw [this]; exact hld) (by simp) ?_
        have : T = l.take 32 := by rw [← hT, lk_one (by omega), List.take_of_length_le (by omega)]
        rw [← this]
        refine r_stA h 0 rfl rfl (by simp [hT32]) (by simp [Value.cells]) (by simpa using u8s_one) fun w9 h9 => ?_
        refine r_ldA h9 0 rfl rfl (by simp [hT32]) ?_
        exact r_ret h9 _ rfl rfl
      · match f, hf with
        | 0, hf => omega
        | f + 1, hf =>
          obtain ⟨hh1, hh2⟩ := half_lt (n := s.n) (by omega)
          rw [lk_two (n := s.n) (by omega) (by omega)] at hT
          refine r_callp (c_leftOf s.n (by omega) (by omega)) ?_
          refine r_draw h fun w2 h => ?_
          refine r_heads hs rfl (by omega) fun s1 hs1 hn1 => ?_
          refine r_rest hs rfl (by omega) fun s2 hs2 hn2 => ?_
          have hl1 := hs1.len
          have hl2 := hs2.len
          refine r_call h (c_listKey f s1 _ w2 _ (hR h) hs1 (by omega) (by omega)) fun k1 w3 h _ hk1 => ?_
          subst hk1
          refine r_call h (c_listKey f s2 _ w3 _ (hR h) hs2 (by omega) (by omega)) fun k2 w4 h _ hk2 => ?_
          subst hk2
          refine r_call h (c_NodeKey (lk_len (n := s1.n) (by omega)) (lk_len (n := s2.n) (by omega)) (lk_ok hs1.ok) (lk_ok hs2.ok) w4) fun k w5 h _ hk => ?_
          subst hk
          rw [hT]
          refine r_stA h 0 rfl rfl (by simp [hT32]) (by simp [Value.cells]) (by simpa using u8s_one) fun w9 h9 => ?_
          refine r_ldA h9 0 rfl rfl (by simp [hT32]) ?_
          exact r_ret h9 _ rfl rfl
termination_by f => f

theorem c_Len (x : Nat) (h0 : 0 < x) (h1 : x < 18446744073709551616) : RetP Try.prog n_math_bits_Len [.int .u64 (x : Int)] [.int .i64] ((Nat.log2 x + 1 : Nat) : Int) := fun w => math_bits_Len_calls x (by
  unfold math_bits_Len
  refine r_callp (c_Len64 x h0 h1) ?_
  exact r_retP rfl)

theorem c_peaks {w0 w : World} {ls : List Blk} {s : Sl} {l : List Int} (hA : At w0 w ls) (hs : KS w0 s l) (hm : s.n ≤ 1024) :
    Ret Try.prog n_impl_peaks [.slice s.a s.n s.c] w [.slice] (fun r w' => SlO w w' [] ty_impl_Key 32 r (u8s (pk l))) := impl_peaks_calls _ (by
  unfold impl_peaks
  have hl := hs.len
  have hR : ∀ {ls' : List Blk} {w' : World}, At w w' ls' → At w0 w' [] := fun h => ⟨hA.below.trans (h.below.mono hA.size), by simp, by simp, by simp⟩
  refine r_bs0 T_sl_Key (At.refl w) fun o w1 ho hon => ?_
  refine r_loop (σ := Sl × Sl) (fun i w' => ∃ (r d : List Int), KS w0 i.1 r ∧ i.1.n ≤ s.n ∧ d ++ pk r = pk l ∧ SlO w w' [] ty_impl_Key 32 i.2 (u8s d) ∧ i.2.n + i.1.n ≤ s.n) (fun i _ => i.1.n) (s, o) rfl
    ⟨l, [], hs, Nat.le_refl _, rfl, by simpa [u8s] using ho, by dsimp only; omega⟩ ?_
  rintro ⟨s1, o1⟩ w2 ⟨r, d, hr, hrn, hpk, h, hsum⟩
  dsimp only at hr hrn h hsum
  refine r_any fun _ => ?_
  dsimp only
  have hrl := hr.len
  refine r_if ((s1.n : Int) > 0) rfl (fun hpos => ?_) (fun hz => ?_)
  · rw [wrapu64 (by omega) (by omega)]
    refine r_callp (c_Len s1.n (by omega) (by omega)) ?_
    have hl30 : Nat.log2 s1.n < 30 := (Nat.log2_lt (by omega)).2 (by omega)
    have e3 : IntKind.wrap .i64 (((Nat.log2 s1.n + 1 : Nat) : Int) - 1) = (Nat.log2 s1.n : Int) := by rw [w64 (by omega) (by omega)]; omega
    rw [e3]
    refine r_pur _ (fun w' => run_shl (by omega) w') ?_
    have hp : 2 ^ Nat.log2 s1.n ≤ s1.n := Nat.log2_self_le (by omega)
    have hp0 := Nat.two_pow_pos (Nat.log2 s1.n)
    have e4 : IntKind.wrap .i64 (1 * 2 ^ min (Nat.log2 s1.n : Int).toNat (IntKind.bits .i64)) = ((2 ^ Nat.log2 s1.n : Nat) : Int) := by
      rw [show IntKind.bits .i64 = 64 from rfl, Int.toNat_natCast, Nat.min_eq_left (by omega)]
      have : (1 * 2 ^ Nat.log2 s1.n : Int) = ((2 ^ Nat.log2 s1.n : Nat) : Int) := by simp
      rw [this]
      generalize 2 ^ Nat.log2 s1.n = pw at hp
      exact w64 (by omega) (by omega)
    rw [e4]
    rw [pk_cons (n := s1.n) (by omega) (by omega)] at hpk
    generalize 2 ^ Nat.log2 s1.n = pw at hp hp0 hpk
    refine r_heads hr rfl hp fun t ht htn => ?_
    have htl := ht.len
    refine r_call h.at_ (c_listKey t.n t _ w2 _ (hR h.at_) ht (Nat.le_refl _) (by omega)) fun k w3 h3 hb hk => ?_
    subst hk
    have hk32 : (lk (r.take (32 * pw))).length = 32 := lk_len (n := pw) (by omega)
    refine r_push T_sl_Key (h.trans hb) (by simp [Value.cells, hk32]) (by omega) (by intro v hv; exact u8s_one v (by simpa [Value.cells] using hv)) (by omega) (by omega) fun o2 w4 h4 hn4 => ?_
    refine r_rest hr rfl hp fun t2 ht2 htn2 => ?_
    refine ⟨(t2, o2), rfl, ⟨_, d ++ lk (r.take (32 * pw)), ht2, by dsimp only; omega, by rw [List.append_assoc]; exact hpk, by rw [u8s_append]; simpa [Value.cells] using h4, by dsimp only; omega⟩, by dsimp only; omega⟩
  · have : pk r = [] := pk_nil (by omega)
    rw [this, List.append_nil] at hpk
    subst hpk
    exact r_ret h.at_ o1 rfl h)

theorem c_rangeProof {w0 : World} : ∀ (f : Nat) (s : Sl) (l : List Int) (i j : Int) (w : World) (ls : List Blk), At w0 w ls → KS w0 s l → 1 ≤ s.n → s.n ≤ f → s.n ≤ 65536 → -65536 + s.n ≤ i → i ≤ 65536 → -65536 + s.n ≤ j → j ≤ 65536 →
    Ret Try.prog n_impl_rangeProof [.slice s.a s.n s.c, .int .i64 i, .int .i64 j] w [.slice] (fun r w' => SlO w w' [] ty_impl_Key 32 r (u8s (rpr l i j)))
  | 0, s, l, i, j, w, ls, hA, hs, h1, hf, hm, hi1, hi2, hj1, hj2 => by omega
  | f + 1, s, l, i, j, w, ls, hA, hs, h1, hf, hm, hi1, hi2, hj1, hj2 => by
    generalize hT : rpr l i j = T
    have hl := hs.len
    have hR : ∀ {ls' : List Blk} {w' : World}, At w w' ls' → At w0 w' [] := fun h => ⟨hA.below.trans (h.below.mono hA.size), by simp, by simp, by simp⟩
    refine impl_rangeProof_calls _ _ _ ?_
    unfold impl_rangeProof
    refine r_callp (c_size_Key s) ?_
    refine r_join (σ := Bool) (fun b w' => b = decide (j ≤ 0 ∨ (s.n : Int) ≤ i) ∧ At w w' []) (fun b w2 hb => ?_) ?_
    · obtain ⟨rfl, h⟩ := hb
      refine r_any fun _ => ?_
      refine r_if (j ≤ 0 ∨ (s.n : Int) ≤ i) rfl (fun hc => ?_) (fun hc => ?_)
      · rw [rpr_out (by omega) hc] at hT
        refine r_call h (c_listKey s.n s l w2 _ (hR h) hs (Nat.le_refl _) hm) fun k w3 h _ hk => ?_
        subst hk
        rw [hT]
        have hT32 : T.length = 32 := by rw [← hT]; exact lk_len (n := s.n) (by omega)
        refine r_bs1 T_sl_Key h (by simp [Value.cells, hT32]) (by omega) fun y w4 hy hyn => ?_
        exact r_ret hy.at_ y rfl (by simpa [Value.cells] using hy)
      · refine r_eq (fun hn1 => ?_) (fun hn1 => ?_)
        · rw [rpr_one (by omega) (by omega)] at hT
          subst hT
          exact r_ret h ⟨none, 0, 0⟩ rfl (SlO.nil h _ _)
        · obtain ⟨hh1, hh2⟩ := half_lt (n := s.n) (by omega)
          rw [rpr_two (n := s.n) (by omega) (by omega) hc] at hT
          refine r_callp (c_leftOf s.n (by omega) (by omega)) ?_
          refine r_draw h fun w3 h => ?_
          refine r_heads hs rfl (by omega) fun s1 hs1 hn1 => ?_
          refine r_rest hs rfl (by omega) fun s2 hs2 hn2 => ?_
          have hl1 := hs1.len
          have hl2 := hs2.len
          refine r_call h (c_rangeProof f s1 _ i j w3 _ (hR h) hs1 (by omega) (by omega) (by omega) (by omega) (by omega) (by omega) (by omega)) fun r1 w4 h4 b4 hr1 => ?_
          have e1 : IntKind.wrap .i64 (i - (half s.n : Int)) = i - half s.n := w64 (by omega) (by omega)
          have e2 : IntKind.wrap .i64 (j - (half s.n : Int)) = j - half s.n := w64 (by omega) (by omega)
          rw [e1, e2]
          refine r_call h4 (c_rangeProof f s2 _ (i - half s.n) (j - half s.n) w4 _ (hR h4) hs2 (by omega) (by omega) (by omega) (by omega) (by omega) (by omega) (by omega)) fun r2 w5 h5 b5 hr2 => ?_
          have h1' : SlO w w5 [] ty_impl_Key 32 r1 (u8s (rpr (l.take (32 * half s.n)) i j)) := (SlO.lift h hr1).trans b5
          obtain ⟨k1, ek1, hk1⟩ := rpr_len (half s.n) (l.take (32 * half s.n)) i j (by omega) (by omega)
          obtain ⟨k2, ek2, hk2⟩ := rpr_len (s.n - half s.n) (l.drop (32 * half s.n)) (i - half s.n) (j - half s.n) (by omega) (by omega)
          have hlen1 := hr1.len
          have hlen2 := hr2.len
          rw [u8s_len, ek1] at hlen1
          rw [u8s_len, ek2] at hlen2
          refine r_append T_sl_Key h1' hr2.sl u8s_one (by omega) (by omega) fun o w6 h6 hn6 => ?_
          rw [← u8s_append, hT] at h6
          exact r_ret h6.at_ o rfl h6
    · refine r_if (j ≤ 0) rfl (fun hc => ?_) (fun hc => ?_)
      · exact ⟨true, rfl, (decide_eq_true (.inl hc)).symm, At.refl w⟩
      · refine ⟨decide (i ≥ (s.n : Int)), rfl, ?_, At.refl w⟩
        apply decide_eq_decide.2
        omega

theorem c_ListKey {w0 w : World} {ls : List Blk} {s : Sl} {l : List Int} (hA : At w0 w ls) (hs : KS w0 s l) (hm : s.n ≤ 256) :
    Ret Try.prog n_impl_ListKey [.slice s.a s.n s.c] w [.agg, .int .i64] (fun r _ => r = ((u8s (lk l)).toArray, 0)) := impl_ListKey_calls _ (by
  unfold impl_ListKey
  have hl := hs.len
  have hR : ∀ {ls' : List Blk} {w' : World}, At w w' ls' → At w0 w' [] := fun h => ⟨hA.below.trans (h.below.mono hA.size), by simp, by simp, by simp⟩
  have hT32 : (lk l).length = 32 := lk_len (n := s.n) (by omega)
  refine r_new (At.refl w) fun b2 w1 h => ?_
  refine r_if ((s.n : Int) > 256) rfl (fun hgt => by omega) (fun _ => ?_)
  refine r_call h (c_listKey s.n s l w1 _ (hR h) hs (Nat.le_refl _) (by omega)) fun k w2 h _ hk => ?_
  subst hk
  refine r_stA h 0 rfl rfl (by simp [hT32]) (by simp [Value.cells]) (by simpa using u8s_one) fun w9 h9 => ?_
  refine r_ldA h9 0 rfl rfl (by simp [hT32]) ?_
  exact r_ret h9 (_, 0) rfl rfl)

theorem c_GrowthProof {w0 w : World} {ls : List Blk} {s : Sl} {l : List Int} {m : Nat} (hA : At w0 w ls) (hs : KS w0 s l) (hm : s.n ≤ 256) (h1 : 1 ≤ m) (hmn : m ≤ s.n) :
    Ret Try.prog n_impl_GrowthProof [.slice s.a s.n s.c, .int .i64 (m : Int)] w [.slice, .int .i64] (fun r w' => SlO w w' [] ty_impl_Key 32 r.1 (u8s (pk (l.take (32 * m)) ++ rpr l 0 m)) ∧ r.2 = 0) := impl_GrowthProof_calls _ _ (by
  unfold impl_GrowthProof
  have hl := hs.len
  have hR : ∀ {ls' : List Blk} {w' : World}, At w w' ls' → At w0 w' [] := fun h => ⟨hA.below.trans (h.below.mono hA.size), by simp, by simp, by simp⟩
  refine r_if ((s.n : Int) > 256) rfl (fun hgt => by omega) (fun _ => ?_)
  refine r_callp (c_size_Key s) ?_
  refine r_callp (c_within m 1 s.n) ?_
  refine r_false (by simp; omega) ?_
  refine r_heads hs rfl hmn fun s1 hs1 hn1 => ?_
  have hl1 := hs1.len
  refine r_call (At.refl w) (c_peaks hA hs1 (by omega)) fun r1 w4 h4 b4 hr1 => ?_
  refine r_call h4 (c_rangeProof s.n s l 0 m w4 _ (hR h4) hs (by omega) (Nat.le_refl _) (by omega) (by omega) (by omega) (by omega) (by omega)) fun r2 w5 h5 b5 hr2 => ?_
  have h1' : SlO w w5 [] ty_impl_Key 32 r1 (u8s (pk (l.take (32 * m)))) := hr1.trans b5
  obtain ⟨k2, ek2, hk2⟩ := rpr_len s.n l 0 m (by omega) (by omega)
  have hon : ones m ≤ 64 := by
    have key : ∀ f m, onesF f m ≤ f := by
      intro f
      induction f with
      | zero => intro m; simp [onesF]
      | succ f ih => intro m; have := ih (m / 2); simp only [onesF]; omega
    exact key 64 m
  have hpl := pk_len m (l.take (32 * m)) (by omega) (by omega)
  have hlen1 := hr1.len
  have hlen2 := hr2.len
  rw [u8s_len, hpl] at hlen1
  rw [u8s_len, ek2] at hlen2
  refine r_append T_sl_Key h1' hr2.sl u8s_one (by omega) (by omega) fun o w6 h6 hn6 => ?_
  rw [← u8s_append] at h6
  exact r_ret h6.at_ (o, 0) rfl ⟨h6, rfl⟩)

theorem c_RangeProof {w0 w : World} {ls : List Blk} {s : Sl} {l : List Int} {i j : Nat} (hA : At w0 w ls) (hs : KS w0 s l) (hm : s.n ≤ 256) (h1 : i < j) (hmn : j ≤ s.n) :
    Ret Try.prog n_impl_RangeProof [.slice s.a s.n s.c, .int .i64 (i : Int), .int .i64 (j : Int)] w [.slice, .int .i64] (fun r w' => SlO w w' [] ty_impl_Key 32 r.1 (u8s (rpr l i j)) ∧ r.2 = 0) := impl_RangeProof_calls _ _ _ (by
  unfold impl_RangeProof
  refine r_if ((s.n : Int) > 256) rfl (fun hgt => by omega) (fun _ => ?_)
  refine r_if ((i : Int) < 0) rfl (fun hgt => by omega) (fun _ => ?_)
  refine r_if ((i : Int) ≥ (j : Int)) rfl (fun hgt => by omega) (fun _ => ?_)
  refine r_callp (c_size_Key s) ?_
  refine r_if ((j : Int) > (s.n : Int)) rfl (fun hgt => by omega) (fun _ => ?_)
  refine r_call (At.refl w) (c_rangeProof s.n s l i j w _ hA hs (by omega) (Nat.le_refl _) (by omega) (by omega) (by omega) (by omega) (by omega)) fun r2 w5 h5 b5 hr2 => ?_
  exact r_ret h5 (r2, 0) rfl ⟨hr2, rfl⟩)

end Go.Proofs.Ytjmncaoddfggnaa
