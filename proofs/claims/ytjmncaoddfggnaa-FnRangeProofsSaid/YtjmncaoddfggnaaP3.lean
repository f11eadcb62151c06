/- Depths, equal lists, clashes. -/
import Derived.Test.YtjmncaoddfggnaaP2
namespace Go.Proofs.Ytjmncaoddfggnaa
open Go.Sx Go.RowKit

theorem T_sl_bool : SlT Try.prog ty_sl_bool ty_bool 1 1 := slT_of (by kernel_rfl)
def bls (l : List Bool) : List Value := l.map Value.bool
theorem bls_one {l : List Bool} : ∀ v ∈ bls l, oneC v = true := by
  intro v hv
  simp only [bls, List.mem_map] at hv
  obtain ⟨b, _, rfl⟩ := hv
  rfl

theorem c_Reverse {w0 w : World} {ls : List Blk} {s : Sl} {bs : List Bool} (hS : SlO w0 w ls ty_bool 1 s (bls bs)) (hm : s.n ≤ 65536) :
    Calls Try.prog n_slices_Reverse_sl_bool_bool #[.slice s.a s.n s.c] w fun e w' => ∃ v, e = .returned v ∧ v = .tuple #[] ∧ ∃ bs', bs'.length = bs.length ∧ SlO w0 w' ls ty_bool 1 s (bls bs') := slices_Reverse_sl_bool_bool_calls _ (by
  unfold slices_Reverse_sl_bool_bool
  have hlen : bs.length = s.n := by have := hS.len; simp [bls] at this; omega
  have e1 : IntKind.wrap .i64 ((s.n : Int) - 1) = (s.n : Int) - 1 := w64 (by omega) (by omega)
  rw [e1]
  refine r_loop (σ := Int × Int) (fun i w' => ∃ (k : Nat) (bs' : List Bool), i = ((k : Int), (s.n : Int) - 1 - k) ∧ k ≤ s.n ∧ bs'.length = bs.length ∧ SlO w0 w' ls ty_bool 1 s (bls bs')) (fun i _ => (s.n - i.1).toNat) (0, (s.n : Int) - 1) rfl
    ⟨0, bs, by simp, by omega, rfl, hS⟩ ?_
  rintro i w1 ⟨k, bs', rfl, hk, hl, h⟩
  refine r_any fun _ => ?_
  dsimp only
  refine r_if ((k : Int) < (s.n : Int) - 1 - k) rfl (fun hlt => ?_) (fun hge => ?_)
  · obtain ⟨j, hj⟩ : ∃ j : Nat, (s.n : Int) - 1 - k = j := ⟨((s.n : Int) - 1 - k).toNat, by omega⟩
    rw [hj]
    rcases h.own with ⟨_, h0, _⟩ | ⟨g, cur, ha, hA, hnc, hcm, hcs, htk⟩
    · omega
    have hbl : (bls bs').length = s.n := by simp [bls]; omega
    rw [hbl] at htk
    have cell : ∀ q, q < s.n → ∃ b : Bool, cur[q]? = some (.bool b) := by
      intro q hq
      have hb : q < bs'.length := by omega
      refine ⟨bs'[q], ?_⟩
      have : (cur.toList.take s.n)[q]? = (bls bs')[q]? := by rw [htk]
      rw [List.getElem?_take, if_pos hq] at this
      rw [← Array.getElem?_toList, this]
      simp [bls, hb]
    obtain ⟨bj, hbj⟩ := cell j (by omega)
    obtain ⟨bk, hbk⟩ := cell k (by omega)
    have setT : ∀ (cur : Array Value) (bs' : List Bool) (q : Nat) (b : Bool), cur.toList.take s.n = bls bs' → (cur.setIfInBounds q (.bool b)).toList.take s.n = bls (bs'.set q b) := by
      intro cur bs' q b h
      rw [Array.toList_setIfInBounds, List.take_set, h]
      simp [bls, List.map_set]
    refine r_draw hA fun w2 hA => ?_
    refine r_ix ⟨g, 0, none⟩ ha (by omega) (by omega) ?_
    refine r_ld hA 0 (o := j) rfl (by rw [add_lit]; simp) bj (by simp [Sh.emb]) hbj ?_
    refine r_ix ⟨g, 0, none⟩ ha (by omega) (by omega) ?_
    refine r_ld hA 0 (o := k) rfl (by rw [add_lit]; simp) bk (by simp [Sh.emb]) hbk ?_
    refine r_ix ⟨g, 0, none⟩ ha (by omega) (by omega) ?_
    refine r_st hA 0 (o := k) rfl (by rw [add_lit]; simp) (by rw [hcs]; omega) rfl fun w3 hA => ?_
    refine r_ix ⟨g, 0, none⟩ ha (by omega) (by omega) ?_
    refine r_st hA 0 (o := j) rfl (by rw [add_lit]; simp) (by rw [Array.size_setIfInBounds, hcs]; omega) rfl fun w4 hA => ?_
    have ht := setT _ _ j bk (setT _ _ k bj htk)
    refine ⟨(((k + 1 : Nat) : Int), (s.n : Int) - 1 - (k + 1 : Nat)), by rw [w64 (by omega) (by omega), w64 (by omega) (by omega)]; show _ = [_, _]; rw [show (j : Int) - 1 = (s.n : Int) - 1 - (k + 1 : Nat) by omega]; rfl, ⟨k + 1, (bs'.set k bj).set j bk, rfl, by omega, by simpa using hl, hA.take _ (List.sublist_cons_self _ _), by simp [bls]; omega, .inr ⟨g, _, ha, hA, hnc, hcm, by rw [Array.size_setIfInBounds, Array.size_setIfInBounds, hcs], by
      have e : (bls ((bs'.set k bj).set j bk)).length = s.n := by simp [bls]; omega
      rw [e]; exact ht⟩⟩, by dsimp only; omega⟩
  · exact r_retR ⟨rfl, bs', hl, h⟩)

theorem c_sides {w : World} {n i : Nat} (hn : 1 ≤ n) (hn2 : n ≤ 65536) (hi : i < n) : Ret Try.prog n_impl_sides [.int .i64 (n : Int), .int .i64 (i : Int)] w [.slice] (fun s _ => s.n = depth n n i) := impl_sides_calls _ _ (by
  unfold impl_sides
  refine r_bs0 T_sl_bool (At.refl w) fun y w1 hy hyn => ?_
  refine r_loop (σ := Int × Int × Sl) (fun s w' => ∃ (m j f : Nat) (bs : List Bool), s.1 = m ∧ s.2.1 = j ∧ 1 ≤ m ∧ j < m ∧ m ≤ f ∧ m ≤ n ∧ bs.length + depth f m j = depth n n i ∧ bs.length + m ≤ n ∧ SlO w w' [] ty_bool 1 s.2.2 (bls bs)) (fun s _ => s.1.toNat) ((n : Int), (i : Int), y) rfl
    ⟨n, i, n, [], rfl, rfl, hn, hi, Nat.le_refl _, Nat.le_refl _, by simp, by simp, by simpa [bls] using hy⟩ ?_
  rintro ⟨a, b, s⟩ w2 ⟨m, j, f, bs, ha, hb, hm, hj, hf, hmn, hd, hbn, h⟩
  dsimp only at ha hb h
  subst ha hb
  have hbl : bs.length = s.n := by have := h.len; simp [bls] at this; omega
  refine r_any fun _ => ?_
  dsimp only
  refine r_if ((m : Int) > 1) rfl (fun hgt => ?_) (fun hle => ?_)
  · obtain ⟨hh1, hh2⟩ := half_lt (n := m) (by omega)
    refine r_callp (c_leftOf m (by omega) (by omega)) ?_
    obtain ⟨f', rfl⟩ : ∃ f', f = f' + 1 := ⟨f - 1, by omega⟩
    rw [depth, if_neg (by omega)] at hd
    refine r_if ((j : Int) ≥ (half m : Int)) rfl (fun hge => ?_) (fun hlt => ?_)
    · rw [if_pos (by omega)] at hd
      refine r_push T_sl_bool h rfl (by omega) (by simp [Value.cells, oneC]) (by omega) (by omega) fun s2 w3 h3 hn3 => ?_
      have e1 : IntKind.wrap .i64 ((m : Int) - (half m : Int)) = ((m - half m : Nat) : Int) := by rw [w64 (by omega) (by omega)]; omega
      have e2 : IntKind.wrap .i64 ((j : Int) - (half m : Int)) = ((j - half m : Nat) : Int) := by rw [w64 (by omega) (by omega)]; omega
      exact ⟨(((m - half m : Nat) : Int), ((j - half m : Nat) : Int), s2), by rw [e1, e2]; rfl, ⟨m - half m, j - half m, f', bs ++ [_], rfl, rfl, by omega, by omega, by omega, by omega, by simp; omega, by simp; omega, by simpa [bls, Value.cells] using h3⟩, by dsimp only; omega⟩
    · rw [if_neg (by omega)] at hd
      refine r_push T_sl_bool h rfl (by omega) (by simp [Value.cells, oneC]) (by omega) (by omega) fun s2 w3 h3 hn3 => ?_
      exact ⟨((half m : Int), (j : Int), s2), rfl, ⟨half m, j, f', bs ++ [_], rfl, rfl, by omega, by omega, by omega, by omega, by simp; omega, by simp; omega, by simpa [bls, Value.cells] using h3⟩, by dsimp only; omega⟩
  · have : m = 1 := by omega
    subst this
    have hd1 : depth f 1 j = 0 := by cases f <;> simp [depth]
    refine r_callR (c_Reverse h (by omega)) ?_
    rintro v w3 ⟨rfl, bs', hl', h'⟩
    exact ⟨(), rfl, r_ret h'.at_ s rfl (by omega)⟩)

theorem c_size_bool (s : Sl) : RetP Try.prog n_impl_size_bool [.slice s.a s.n s.c] [.int .i64] (s.n : Int) := fun w => impl_size_bool_calls s (by
  unfold impl_size_bool
  exact r_retP rfl)

theorem c_TreeDepth {w : World} {n i : Nat} (hn : 1 ≤ n) (hn2 : n ≤ 256) (hi : i < n) : Ret Try.prog n_impl_TreeDepth [.int .i64 (n : Int), .int .i64 (i : Int)] w [.int .i64, .int .i64] (fun r _ => r = ((depth n n i : Int), 0)) := impl_TreeDepth_calls _ _ (by
  unfold impl_TreeDepth
  refine r_callp (c_isLeaves n) ?_
  refine r_false (by simp; omega) ?_
  rw [w64 (by omega) (by omega)]
  refine r_callp (c_within i 0 _) ?_
  refine r_false (by simp; omega) ?_
  refine r_call (At.refl w) (c_sides hn (by omega) hi) fun s w1 h _ hs => ?_
  refine r_callp (c_size_bool s) ?_
  exact r_ret h ((s.n : Int), 0) rfl (by rw [hs]))

theorem keys_ext {l l' : List Int} {k : Nat} (ht : l.take (32 * k) = l'.take (32 * k)) (he : keyAt l k = keyAt l' k) : l.take (32 * (k + 1)) = l'.take (32 * (k + 1)) := by
  unfold keyAt at he
  rw [show 32 * (k + 1) = 32 * k + 32 by omega, List.take_add, List.take_add, ht, he]

theorem c_Equal {w : World} {s t : Sl} {l l' : List Int} (hs : KS w s l) (ht : KS w t l') (hm : s.n ≤ 65536) : Ret Try.prog n_slices_Equal_sl_impl_Key_impl_Key [.slice s.a s.n s.c, .slice t.a t.n t.c] w [.bool] (fun r _ => r = decide (l = l')) := slices_Equal_sl_impl_Key_impl_Key_calls _ _ (by
  unfold slices_Equal_sl_impl_Key_impl_Key
  have hl := hs.len
  have hl' := ht.len
  refine r_ne (fun hh => r_ret (At.refl w) false rfl (decide_eq_false (fun he => hh (by rw [he] at hl; omega))).symm) fun hst => ?_
  refine r_loop (σ := Int) (fun i w' => ∃ j : Nat, i = j ∧ j ≤ s.n ∧ l.take (32 * j) = l'.take (32 * j) ∧ At w w' []) (fun i _ => (s.n - i).toNat) 0 rfl ⟨0, rfl, by omega, by simp, At.refl w⟩ ?_
  rintro i w8 ⟨j, rfl, hj, hp, h⟩
  refine r_any fun _ => ?_
  refine r_if ((j : Int) < (s.n : Int)) rfl (fun hlt => ?_) (fun hge => ?_)
  · refine r_draw h fun w3 h => ?_
    obtain ⟨p, hpp, hk⟩ := hs.key (i := j) (by omega)
    obtain ⟨q, hq, hk2⟩ := ht.key (i := j) (by omega)
    refine r_ix p hpp (by omega) (by omega) ?_
    refine r_ldO h _ (by simp only [Int.toNat_natCast]; exact hk) (by simp) ?_
    refine r_ix q hq (by omega) (by omega) ?_
    refine r_ldO h _ (by simp only [Int.toNat_natCast]; exact hk2) (by simp) ?_
    refine r_neK (n := 32) (e := ty_uint8) (by kernel_rfl) (by kernel_rfl) (by kernel_rfl) (keyAt_len (by omega)) (keyAt_len (by omega)) ?_
    by_cases he : keyAt l j = keyAt l' j
    · refine r_false (by simp [he]) ?_
      exact ⟨((j + 1 : Nat) : Int), by rw [w64 (by omega) (by omega)]; rfl, ⟨j + 1, rfl, by omega, keys_ext hp he, h⟩, by omega⟩
    · refine r_true (by simp [he]) (r_ret h false rfl (decide_eq_false (fun hh => he (by rw [hh]))).symm)
  · have : j = s.n := by omega
    subst this
    rw [List.take_of_length_le (by omega), List.take_of_length_le (by omega)] at hp
    exact r_ret h true rfl (decide_eq_true hp).symm)

theorem c_l03Lists {w : World} {s t : Sl} {l l' : List Int} (hs : KS w s l) (ht : KS w t l') (hm : s.n ≤ 65536) : Ret Try.prog n_spec_l03Lists [.slice s.a s.n s.c, .slice t.a t.n t.c] w [.bool] (fun r _ => r = decide (l = l')) := spec_l03Lists_calls _ _ (by
  unfold spec_l03Lists
  have hl := hs.len
  have hl' := ht.len
  refine r_ne (fun hh => r_ret (At.refl w) false rfl (decide_eq_false (fun he => hh (by rw [he] at hl; omega))).symm) fun hst => ?_
  refine r_loop (σ := Int) (fun i w' => ∃ j : Nat, i = j ∧ j ≤ s.n ∧ l.take (32 * j) = l'.take (32 * j) ∧ At w w' []) (fun i _ => (s.n - i).toNat) 0 rfl ⟨0, rfl, by omega, by simp, At.refl w⟩ ?_
  rintro i w8 ⟨j, rfl, hj, hp, h⟩
  refine r_any fun _ => ?_
  refine r_if ((j : Int) < (s.n : Int)) rfl (fun hlt => ?_) (fun hge => ?_)
  · refine r_draw h fun w3 h => ?_
    obtain ⟨p, hpp, hk⟩ := hs.key (i := j) (by omega)
    obtain ⟨q, hq, hk2⟩ := ht.key (i := j) (by omega)
    refine r_ix p hpp (by omega) (by omega) ?_
    refine r_ldO h _ (by simp only [Int.toNat_natCast]; exact hk) (by simp) ?_
    refine r_ix q hq (by omega) (by omega) ?_
    refine r_ldO h _ (by simp only [Int.toNat_natCast]; exact hk2) (by simp) ?_
    refine r_neK (n := 32) (e := ty_uint8) (by kernel_rfl) (by kernel_rfl) (by kernel_rfl) (keyAt_len (by omega)) (keyAt_len (by omega)) ?_
    by_cases he : keyAt l j = keyAt l' j
    · refine r_false (by simp [he]) ?_
      exact ⟨((j + 1 : Nat) : Int), by rw [w64 (by omega) (by omega)]; rfl, ⟨j + 1, rfl, by omega, keys_ext hp he, h⟩, by omega⟩
    · refine r_true (by simp [he]) (r_ret h false rfl (decide_eq_false (fun hh => he (by rw [hh]))).symm)
  · have : j = s.n := by omega
    subst this
    rw [List.take_of_length_le (by omega), List.take_of_length_le (by omega)] at hp
    exact r_ret h true rfl (decide_eq_true hp).symm)

theorem c_SameKeys {w : World} {s t : Sl} {l l' : List Int} (hs : KS w s l) (ht : KS w t l') (hm : s.n ≤ 65536) : Ret Try.prog n_spec_SameKeys [.slice s.a s.n s.c, .slice t.a t.n t.c] w [.bool] (fun r _ => r = decide (l = l')) := spec_SameKeys_calls _ _ (by
  unfold spec_SameKeys
  refine r_call (At.refl w) (c_l03Lists hs ht hm) fun r w1 h _ hr => ?_
  exact r_ret h r rfl hr)

end Go.Proofs.Ytjmncaoddfggnaa
