/- Keys and lists of keys: copying, equality; the number of bits; the left half of a tree. -/
import Derived.Test.YtjmncaoddfggnaaH5
namespace Go.Proofs.Ytjmncaoddfggnaa
open Go.Sx Go.RowKit

/-- A slice of keys. -/
structure KS (w : World) (s : Sl) (l : List Int) : Prop where
  sl : SlAt w s 32 (u8s l)
  ok : bytesOk l
  cap : s.n ≤ s.c
theorem KS.len {w : World} {s : Sl} {l : List Int} (h : KS w s l) : l.length = 32 * s.n := by have := h.sl.len; simp at this; omega
theorem KS.below {w w' : World} {s : Sl} {l : List Int} (h : KS w s l) (hb : Below w.heap.size w w') : KS w' s l := ⟨h.sl.below hb, h.ok, h.cap⟩
theorem KS.at {w w' : World} {ls : List Blk} {s : Sl} {l : List Int} (h : KS w s l) (hA : At w w' ls) : KS w' s l := h.below hA.below

def keyAt (l : List Int) (i : Nat) : List Int := (l.drop (32 * i)).take 32
theorem keyAt_len {l : List Int} {i : Nat} (h : 32 * i + 32 ≤ l.length) : (keyAt l i).length = 32 := by simp [keyAt]; omega
theorem keyAt_ok {l : List Int} (h : bytesOk l) (i : Nat) : bytesOk (keyAt l i) := (h.drop _).take _
theorem u8s_keyAt (l : List Int) (k : Nat) : ((u8s l).drop (k * 32)).take 32 = u8s (keyAt l k) := by simp only [keyAt, u8s, List.map_take, List.map_drop, Nat.mul_comm k 32]

theorem KS.key {w : World} {s : Sl} {l : List Int} (h : KS w s l) {i : Nat} (hi : i < s.n) : ∃ p, s.a = some p ∧ ldOk w 32 (p.add (i * 32)) .agg (u8s (keyAt l i)).toArray := by
  obtain ⟨p, hp, hl⟩ := h.sl.elem hi (by omega)
  rw [u8s_keyAt] at hl
  exact ⟨p, hp, hl⟩

theorem T_sl_Key : SlT Try.prog ty_sl_impl_Key ty_impl_Key 32 32 := slT_of (by kernel_rfl)

theorem c_toKey {a : List Int} (ha : a.length = 32) (w : World) : Ret Try.prog n_laws_toKey [.agg (u8s a).toArray] w [.agg] (fun cs _ => cs = (u8s a).toArray) := laws_toKey_calls _ (by
  unfold laws_toKey
  refine r_new (At.refl w) fun b1 w1 h => ?_
  refine r_new h fun b2 w2 h => ?_
  refine r_new h fun b3 w3 h => ?_
  obtain ⟨B, hB⟩ : ∃ B, B = List.replicate 32 (Value.int .u8 0) := ⟨_, rfl⟩
  have hB8 : B.length = 32 := by rw [hB, List.length_replicate]
  have hBA : B.toArray = Array.replicate 32 (Value.int .u8 0) := by rw [hB]; rfl
  have hlen : (u8s a).length = B.length := by rw [u8s_len, ha, hB8]
  refine r_loop (σ := Int) (fun i w' => ∃ j : Nat, i = j ∧ j ≤ 32 ∧ At w w' [(b3, mix (u8s a) B j, ty_impl_Key), (b2, Array.replicate 32 (.int .u8 0), ty_impl_Key), (b1, (u8s a).toArray, ty_arr32_uint8)]) (fun i _ => (32 - i).toNat) 0 rfl
    ⟨0, rfl, by omega, by rw [mix_zero, hBA]; exact h⟩ ?_
  rintro i w8 ⟨j, rfl, hj, h⟩
  refine r_any fun _ => ?_
  refine r_if ((j : Int) < 32) rfl (fun hlt => ?_) (fun hge => ?_)
  · refine r_ix ⟨b1, 0, none⟩ rfl (by omega) (by omega) ?_
    refine r_ld h 2 rfl (add_lit _ _ _) (a.getD j 0) (by simp [Sh.emb]) (by simp only [Int.toNat_natCast, Nat.zero_add, Nat.mul_one]; exact u8s_arr (by omega)) ?_
    refine r_ix ⟨b3, 0, none⟩ rfl (by omega) (by omega) ?_
    refine r_st h 0 rfl (add_lit _ _ _) (by rw [mix_size hlen (by simp; omega)]; simp only [Int.toNat_natCast, u8s_len]; omega) rfl fun w9 h => ?_
    refine ⟨((j + 1 : Nat) : Int), by rw [w64 (by omega) (by omega)]; rfl, ⟨j + 1, rfl, by omega, ?_⟩, by omega⟩
    have hset := mix_set (A := u8s a) (B := B) hlen (k := j) (v := .int .u8 (a.getD j 0)) (u8s_get (by omega))
    rw [← hset]
    simp only [Int.toNat_natCast, Nat.zero_add, Nat.mul_one, List.set_cons_zero] at h
    exact h
  · have : j = 32 := by omega
    subst this
    have e8 : mix (u8s a) B 32 = (u8s a).toArray := by
      have := mix_all (A := u8s a) (B := B) (by omega)
      rwa [u8s_len, ha] at this
    rw [e8] at h
    refine r_ldA h 0 rfl rfl (by simp [ha]) ?_
    refine r_stA h 1 rfl rfl (by simp [ha]) (by simp) (by simpa using u8s_one) fun w6 h => ?_
    refine r_ldA h 1 rfl rfl (by simp [ha]) ?_
    exact r_ret h _ rfl rfl)

theorem seg_take {cur ds : List Value} {o n : Nat} (h : o + n ≤ cur.length) (hn : ds.length = n) : (cur.take o ++ ds ++ cur.drop (o + n)).take (o + n) = cur.take o ++ ds := by
  rw [List.take_append_of_le_length (by simp; omega), List.take_of_length_le (by simp; omega)]

theorem c_toKeyS {s : Sl} {l : List Int} {w : World} (hs : SlAt w s 32 (u8s l)) (hb : bytesOk l) (hmax : s.n ≤ 1073741824) : Ret Try.prog n_laws_toKeyS [.slice s.a s.n s.c] w [.slice] (fun r w' => KS w' r l ∧ r.n = s.n) := laws_toKeyS_calls s (by
  unfold laws_toKeyS
  have hn : l.length = s.n * 32 := by have := hs.len; simpa using this
  refine r_mk T_sl_Key (At.refl w) (by omega) (by omega) fun g cur w1 h hcs => ?_
  refine r_loop (σ := Int) (fun i w' => ∃ (k : Nat) (cur : Array Value), i = k ∧ k ≤ s.n ∧ cur.size = s.n * 32 ∧ cur.toList.take (32 * k) = u8s (l.take (32 * k)) ∧ At w w' [(g, cur, ty_impl_Key)]) (fun i _ => (s.n - i).toNat) 0 rfl
    ⟨0, cur, rfl, by omega, hcs, by simp [u8s], h⟩ ?_
  rintro i w4 ⟨k, cur, rfl, hk, hcs, htk, h⟩
  refine r_any fun _ => ?_
  refine r_if ((k : Int) < (s.n : Int)) rfl (fun hlt => ?_) (fun hge => ?_)
  · obtain ⟨p, hp, hl⟩ := hs.elem (i := k) (by omega) (by omega)
    rw [u8s_keyAt] at hl
    have h32 : (keyAt l k).length = 32 := keyAt_len (by omega)
    refine r_ix p hp (by omega) (by omega) ?_
    refine r_ldO h _ (by simp only [Int.toNat_natCast]; exact hl) (by simp) ?_
    refine r_call h (c_toKey h32 w4) fun ms w7 h _ hms => ?_
    subst hms
    refine r_ix ⟨g, 0, none⟩ rfl (by omega) (by dsimp only; omega) ?_
    refine r_stP h 0 (o := k * 32) rfl (by rw [add_lit]; simp) (by simp [h32]) (by omega) (by simpa using u8s_one) fun w6 h => ?_
    refine ⟨((k + 1 : Nat) : Int), by rw [w64 (by omega) (by omega)]; rfl, ⟨k + 1, _, rfl, by omega, ?_, ?_, h⟩, by omega⟩
    · simp [h32]; omega
    · have := seg_take (cur := cur.toList) (ds := u8s (keyAt l k)) (o := k * 32) (n := 32) (by simp; omega) (by simp [h32])
      rw [show 32 * (k + 1) = k * 32 + 32 by omega]
      simp only []
      rw [this, show k * 32 = 32 * k by omega, htk, ← u8s_append, keyAt, List.take_add]
  · have : k = s.n := by omega
    subst this
    refine r_ret h ⟨some ⟨g, 0, none⟩, s.n, s.n⟩ rfl ⟨⟨h.sl 0 rfl rfl (by simp; omega) ?_, hb, Nat.le_refl _⟩, rfl⟩
    have : l.take (32 * s.n) = l := List.take_of_length_le (by omega)
    rw [this] at htk
    rw [List.drop_zero, u8s_len, show l.length = 32 * s.n by omega, htk])

theorem c_szKeyS (s : Sl) (m : Int) (hm : 0 ≤ m ∧ m ≤ 1073741824) (hn : s.n ≤ 9223372036854775807) : RetP Try.prog n_laws_szKeyS [.slice s.a s.n s.c, .int .i64 m] [.int .i64] (if m - s.n < 0 then -1 else m - s.n) := fun w => laws_szKeyS_calls s m (by
  unfold laws_szKeyS
  rw [w64 (by omega) (by omega)]
  refine r_if (m - (s.n : Int) < 0) rfl (fun h => ?_) (fun h => ?_)
  · rw [if_pos h]; exact r_retP rfl
  · rw [if_neg h]; exact r_retP rfl)

theorem c_eqKey_same {a : List Int} (ha : a.length = 32) (w : World) : Ret Try.prog n_laws_eqKey [.agg (u8s a).toArray, .agg (u8s a).toArray] w [.bool] (fun r _ => r = true) := laws_eqKey_calls _ _ (by
  unfold laws_eqKey
  refine r_new (At.refl w) fun b1 w1 h => ?_
  refine r_new h fun b2 w2 h => ?_
  refine r_loop (σ := Int) (fun i w' => ∃ j : Nat, i = j ∧ j ≤ 32 ∧ At w w' [(b2, (u8s a).toArray, ty_impl_Key), (b1, (u8s a).toArray, ty_impl_Key)]) (fun i _ => (32 - i).toNat) 0 rfl ⟨0, rfl, by omega, h⟩ ?_
  rintro i w8 ⟨j, rfl, hj, h⟩
  refine r_any fun _ => ?_
  refine r_if ((j : Int) < 32) rfl (fun hlt => ?_) (fun hge => ?_)
  · refine r_draw h fun w3 h => ?_
    refine r_ix ⟨b1, 0, none⟩ rfl (by omega) (by omega) ?_
    refine r_ld h 1 rfl (add_lit _ _ _) (a.getD j 0) (by simp [Sh.emb]) (by simp only [Int.toNat_natCast, Nat.zero_add, Nat.mul_one]; exact u8s_arr (by omega)) ?_
    refine r_ix ⟨b2, 0, none⟩ rfl (by omega) (by omega) ?_
    refine r_ld h 0 rfl (add_lit _ _ _) (a.getD j 0) (by simp [Sh.emb]) (by simp only [Int.toNat_natCast, Nat.zero_add, Nat.mul_one]; exact u8s_arr (by omega)) ?_
    refine r_ne (fun hh => absurd rfl hh) fun _ => ?_
    exact ⟨((j + 1 : Nat) : Int), by rw [w64 (by omega) (by omega)]; rfl, ⟨j + 1, rfl, by omega, h⟩, by omega⟩
  · exact r_ret h _ rfl rfl)

theorem c_eqKeyS_same {s t : Sl} {l : List Int} {w : World} (hs : KS w s l) (ht : KS w t l) (hmax : s.n ≤ 1073741824) : Ret Try.prog n_laws_eqKeyS [.slice s.a s.n s.c, .slice t.a t.n t.c] w [.bool] (fun r _ => r = true) := laws_eqKeyS_calls _ _ (by
  unfold laws_eqKeyS
  have hst : s.n = t.n := by have := hs.len; have := ht.len; omega
  have hl := hs.len
  refine r_ne (fun hh => by omega) fun _ => ?_
  refine r_loop (σ := Int) (fun i w' => ∃ j : Nat, i = j ∧ j ≤ s.n ∧ At w w' []) (fun i _ => (s.n - i).toNat) 0 rfl ⟨0, rfl, by omega, At.refl w⟩ ?_
  rintro i w8 ⟨j, rfl, hj, h⟩
  refine r_any fun _ => ?_
  refine r_if ((j : Int) < (s.n : Int)) rfl (fun hlt => ?_) (fun hge => ?_)
  · refine r_draw h fun w3 h => ?_
    obtain ⟨p, hp, hk⟩ := hs.key (i := j) (by omega)
    obtain ⟨q, hq, hk2⟩ := ht.key (i := j) (by omega)
    refine r_ix p hp (by omega) (by omega) ?_
    refine r_ldO h _ (by simp only [Int.toNat_natCast]; exact hk) (by simp) ?_
    refine r_ix q hq (by omega) (by omega) ?_
    refine r_ldO h _ (by simp only [Int.toNat_natCast]; exact hk2) (by simp) ?_
    refine r_call h (c_eqKey_same (keyAt_len (by omega)) w3) fun b w4 h _ hb => ?_
    subst hb
    exact ⟨((j + 1 : Nat) : Int), by rw [w64 (by omega) (by omega)]; rfl, ⟨j + 1, rfl, by omega, h⟩, by omega⟩
  · exact r_ret h _ rfl rfl)

theorem c_l00In (x y z : Int) : RetP Try.prog n_spec_l00In [.int .i64 x, .int .i64 y, .int .i64 z] [.bool] (decide (y ≤ x ∧ x ≤ z)) := fun w => spec_l00In_calls x y z (by
  unfold spec_l00In
  refine r_if (x ≥ y) rfl (fun h => r_retP (by simp [valL, embL, Sh.emb, show y ≤ x from h])) (fun h => r_retP (by simp [valL, embL, Sh.emb, show ¬ y ≤ x from h])))
theorem c_within (x y z : Int) : RetP Try.prog n_impl_within [.int .i64 x, .int .i64 y, .int .i64 z] [.bool] (decide (y ≤ x ∧ x ≤ z)) := fun w => impl_within_calls x y z (by
  unfold impl_within
  refine r_if (y ≤ x) rfl (fun h => r_retP (by simp [valL, embL, Sh.emb, show y ≤ x from h])) (fun h => r_retP (by simp [valL, embL, Sh.emb, show ¬ y ≤ x from h])))
theorem c_isLeaves (x : Int) : RetP Try.prog n_impl_isLeaves [.int .i64 x] [.bool] (decide (1 ≤ x ∧ x ≤ 256)) := fun w => impl_isLeaves_calls x (by
  unfold impl_isLeaves
  exact r_callp (c_within x 1 256) (r_retP rfl))
theorem c_size_Key (s : Sl) : RetP Try.prog n_impl_size_impl_Key [.slice s.a s.n s.c] [.int .i64] (s.n : Int) := fun w => impl_size_impl_Key_calls s (by
  unfold impl_size_impl_Key
  exact r_retP rfl)

end Go.Proofs.Ytjmncaoddfggnaa
