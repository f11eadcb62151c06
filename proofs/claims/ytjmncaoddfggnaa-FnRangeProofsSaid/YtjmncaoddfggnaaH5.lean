/- Contracts of the hash: the key of some data (program), the key of two keys (both sides). -/
import Derived.Test.YtjmncaoddfggnaaH4
import Derived.Test.YtjmncaoddfggnaaSx5
namespace Go.Proofs.Ytjmncaoddfggnaa
open Go.Sx Go.RowKit

theorem padT_bound (m : Nat) (len : Int) : (padT m len).length ≤ 40 := by rw [padT_len]; unfold padZ; omega

theorem c_hash (tag : Int) {s : Sl} {d : List Int} {w : World} (hs : SlAt w s 1 (u8s d)) (hb : bytesOk d) (hmax : d.length ≤ 35184372088832) :
    Ret Try.prog n_impl_hash [.int .u8 tag, .slice s.a s.n s.c] w [.agg] (fun cs _ => cs = (u8s (hashL tag d)).toArray) := impl_hash_calls tag s (by
  unfold impl_hash
  have hn := sl_len hs
  refine r_new (At.refl w) fun b4 w1 h => ?_
  refine r_callp (c_size_byte s) ?_
  rw [hn]
  refine r_callS h (c_padding d.length (by omega) w1) fun p w2 hp hpn => ?_
  have hpb := padT_bound d.length d.length
  obtain ⟨g, cur, hpa, h2, hpc, htk⟩ := hp.entry (by rw [hpn, padT_len]; omega)
  refine r_bs2 T_sl_sl_uint8 h2 rfl rfl (by omega) fun x w3 hx hxn => ?_
  have hsx : SlAt w3 ⟨s.a, d.length, s.c⟩ 1 (u8s d) := by
    have := hs.at hx.at_
    rw [← hn]; exact this
  have hpx : SlAt w3 p 1 (u8s (padT d.length d.length)) := hx.at_.sl 0 rfl hpa hp.len (by simpa using htk)
  refine r_callS hx.at_ (c_Concat2 (y1 := ⟨s.a, d.length, s.c⟩) (y2 := p) (by simpa [Value.cells] using hx.sl) hsx hpx (by omega) (by omega)) fun y w4 hy hyn => ?_
  have hyl : (d ++ padT d.length d.length).length = d.length + (padT d.length d.length).length := List.length_append
  have hy0 : 0 < y.n := by rw [hyn, hyl, padT_len]; omega
  obtain ⟨g2, cur2, hya, h4, hyc, htk2⟩ := hy.entry hy0
  have hm32 : (d ++ padT d.length d.length).length % 32 = 0 := by rw [hyl]; exact padT_mod _ _
  have hlb : bytesOk (d ++ padT d.length d.length) := hb.append (padT_ok _ _)
  refine r_call h4 (c_blocks (hy.sl) hyc (by omega)) fun r w5 h5 hb5 ⟨hr1, hr1n, _, _⟩ => ?_
  have e1 : (d ++ padT d.length d.length).take (32 * ((d ++ padT d.length d.length).length / 32)) = d ++ padT d.length d.length := List.take_of_length_le (by omega)
  rw [e1] at hr1
  refine r_call h5 (c_StartState tag w5) fun st w6 h6 hb6 hst => ?_
  subst hst
  refine r_call h6 (c_mixed (startL_ok tag) (hr1.sl.below hb6) hlb (by omega)) fun ms w7 h7 _ hms => ?_
  subst hms
  rw [hr1n] 
  refine r_call h7 (c_keyOf (mixAll_ok (startL_ok tag) _) w7) fun k w8 h8 _ hk => ?_
  subst hk
  refine r_stA h8 2 rfl rfl (by simp [keyB_len]) (by simp [Value.cells]) (by simpa using u8s_one) fun w9 h9 => ?_
  refine r_ldA h9 2 rfl rfl (by simp [keyB_len]) ?_
  exact r_ret h9 _ rfl rfl)

/-- The key of two keys. -/
theorem c_PairKey (tag : Int) {a b : List Int} (ha : a.length = 32) (hb : b.length = 32) (hab : bytesOk a) (hbb : bytesOk b) (w : World) :
    Ret Try.prog n_impl_PairKey [.int .u8 tag, .agg (u8s a).toArray, .agg (u8s b).toArray] w [.agg] (fun cs _ => cs = (u8s (hashL tag (a ++ b))).toArray) := impl_PairKey_calls tag _ _ (by
  unfold impl_PairKey
  refine r_new (At.refl w) fun b4 w1 h => ?_
  refine r_new h fun b5 w2 h => ?_
  refine r_new h fun b6 w3 h => ?_
  refine r_draw h fun w4 h => ?_
  refine r_sl 0 32 rfl rfl (by omega) (by omega) ?_
  refine r_sl 0 32 rfl rfl (by omega) (by omega) ?_
  refine r_bs2 T_sl_sl_uint8 h rfl rfl (by omega) fun x w5 hx hxn => ?_
  have z32 : ¬ 32 = 0 := by omega
  have h5 := hx.at_
  have l1 : SlAt w5 ⟨some ⟨b4, 0, none⟩, 32, 32⟩ 1 (u8s a) := h5.sl 2 rfl rfl (by simp [ha]) (List.take_of_length_le (Nat.le_refl _))
  have l2 : SlAt w5 ⟨some ⟨b5, 0, none⟩, 32, 32⟩ 1 (u8s b) := h5.sl 1 rfl rfl (by simp [hb]) (List.take_of_length_le (Nat.le_refl _))
  refine r_callS h5 (c_Concat2 (y1 := ⟨some ⟨b4, 0, none⟩, 32, 32⟩) (y2 := ⟨some ⟨b5, 0, none⟩, 32, 32⟩) (by simpa [Value.cells, z32, add_lit] using hx.sl) l1 l2 (by omega) (by omega)) fun y w6 hy hyn => ?_
  refine r_call hy.at_ (c_hash tag hy.sl (hab.append hbb) (by simp [ha, hb])) fun k w8 h8 _ hk => ?_
  subst hk
  refine r_stA h8 0 rfl rfl (by simp [hashL_len]) (by simp [Value.cells]) (by simpa using u8s_one) fun w9 h9 => ?_
  refine r_ldA h9 0 rfl rfl (by simp [hashL_len]) ?_
  exact r_ret h9 _ rfl rfl)

theorem c_NodeKey {a b : List Int} (ha : a.length = 32) (hb : b.length = 32) (hab : bytesOk a) (hbb : bytesOk b) (w : World) :
    Ret Try.prog n_impl_NodeKey [.agg (u8s a).toArray, .agg (u8s b).toArray] w [.agg] (fun cs _ => cs = (u8s (hashL 2 (a ++ b))).toArray) := impl_NodeKey_calls _ _ (by
  unfold impl_NodeKey
  refine r_new (At.refl w) fun b4 w1 h => ?_
  refine r_new h fun b5 w2 h => ?_
  refine r_new h fun b6 w3 h => ?_
  refine r_ldA h 2 rfl rfl (by simp [Value.cells, ha]) ?_
  refine r_ldA h 1 rfl rfl (by simp [Value.cells, hb]) ?_
  refine r_call h (c_PairKey 2 ha hb hab hbb w3) fun k w8 h8 _ hk => ?_
  subst hk
  refine r_stA h8 0 rfl rfl (by simp [hashL_len]) (by simp [Value.cells]) (by simpa using u8s_one) fun w9 h9 => ?_
  refine r_ldA h9 0 rfl rfl (by simp [hashL_len]) ?_
  exact r_ret h9 _ rfl rfl)

theorem u8s_take_snoc {a : List Int} {k : Nat} (h : k < a.length) : u8s (a.take k) ++ [Value.int .u8 (a.getD k 0)] = u8s (a.take (k + 1)) := by
  rw [List.take_add_one, u8s_append]
  simp [List.getElem?_eq_getElem h, List.getD, u8s]

theorem c_l01Pair (tag : Int) {a b : List Int} (ha : a.length = 32) (hb : b.length = 32) (hab : bytesOk a) (hbb : bytesOk b) (w : World) :
    Ret Try.prog n_spec_l01Pair [.int .u8 tag, .agg (u8s a).toArray, .agg (u8s b).toArray] w [.agg] (fun cs _ => cs = (u8s (hashL tag (a ++ b))).toArray) := spec_l01Pair_calls tag _ _ (by
  unfold spec_l01Pair
  refine r_new (At.refl w) fun b4 w1 h => ?_
  refine r_new h fun b5 w2 h => ?_
  refine r_new h fun b6 w3 h => ?_
  refine r_bs0 T_sl_uint8 h fun y w4 hy hyn => ?_
  simp only [Value.cells] at hy
  refine r_loop (σ := Sl × Int) (fun i w' => ∃ k : Nat, i.2 = k ∧ k ≤ 32 ∧ SlO w w' [(b6, Array.replicate 32 (.int .u8 0), ty_impl_Key), (b5, (u8s b).toArray, ty_impl_Key), (b4, (u8s a).toArray, ty_impl_Key)] ty_uint8 1 i.1 (u8s (a.take k)) ∧ i.1.n = k) (fun i _ => (32 - i.2).toNat) (y, 0) rfl
    ⟨0, rfl, by omega, by simpa [u8s] using hy, hyn⟩ ?_
  rintro ⟨s, i⟩ w5 ⟨k, hi, hk, h, hsn⟩
  dsimp only at hi h hsn
  subst hi
  refine r_any fun _ => ?_
  dsimp only
  refine r_if ((k : Int) < 32) rfl (fun hlt => ?_) (fun hge => ?_)
  · refine r_ix ⟨b4, 0, none⟩ rfl (by omega) (by omega) ?_
    refine r_ld h.at_ 2 rfl (add_lit _ _ _) (a.getD k 0) (by simp [Sh.emb]) (by simp only [Int.toNat_natCast, Nat.zero_add, Nat.mul_one]; exact u8s_arr (by omega)) ?_
    refine r_push T_sl_uint8 h rfl (by omega) (by simp [Value.cells, oneC]) (by omega) (by omega) fun s2 w6 h6 hn6 => ?_
    exact ⟨(s2, ((k + 1 : Nat) : Int)), by rw [w64 (by omega) (by omega)]; rfl, ⟨k + 1, rfl, by omega, by rw [← u8s_take_snoc (by omega)]; simpa [Value.cells] using h6, by dsimp only; omega⟩, by dsimp only; omega⟩
  · have : k = 32 := by omega
    subst this
    rw [List.take_of_length_le (by omega)] at h
    refine r_loop (σ := Sl × Int) (fun i w' => ∃ k : Nat, i.2 = k ∧ k ≤ 32 ∧ SlO w w' [(b6, Array.replicate 32 (.int .u8 0), ty_impl_Key), (b5, (u8s b).toArray, ty_impl_Key), (b4, (u8s a).toArray, ty_impl_Key)] ty_uint8 1 i.1 (u8s (a ++ b.take k)) ∧ i.1.n = 32 + k) (fun i _ => (32 - i.2).toNat) (s, 0) rfl
      ⟨0, rfl, by omega, by simpa using h, by dsimp only; omega⟩ ?_
    rintro ⟨s, i⟩ w5 ⟨k, hi, hk, h, hsn⟩
    dsimp only at hi h hsn
    subst hi
    refine r_any fun _ => ?_
    dsimp only
    refine r_if ((k : Int) < 32) rfl (fun hlt => ?_) (fun hge => ?_)
    · refine r_ix ⟨b5, 0, none⟩ rfl (by omega) (by omega) ?_
      refine r_ld h.at_ 1 rfl (add_lit _ _ _) (b.getD k 0) (by simp [Sh.emb]) (by simp only [Int.toNat_natCast, Nat.zero_add, Nat.mul_one]; exact u8s_arr (by omega)) ?_
      refine r_push T_sl_uint8 h rfl (by omega) (by simp [Value.cells, oneC]) (by omega) (by omega) fun s2 w6 h6 hn6 => ?_
      exact ⟨(s2, ((k + 1 : Nat) : Int)), by rw [w64 (by omega) (by omega)]; rfl, ⟨k + 1, rfl, by omega, by dsimp only; rw [u8s_append, ← u8s_take_snoc (by omega), ← List.append_assoc, ← u8s_append]; simpa [Value.cells] using h6, by dsimp only; omega⟩, by dsimp only; omega⟩
    · have : k = 32 := by omega
      subst this
      rw [List.take_of_length_le (by omega)] at h
      refine r_call h.at_ (c_l01Hash tag h.sl (hab.append hbb) (by simp [ha, hb])) fun k w8 h8 _ hk => ?_
      subst hk
      refine r_stA h8 0 rfl rfl (by simp [hashL_len]) (by simp) (by simpa using u8s_one) fun w9 h9 => ?_
      refine r_ldA h9 0 rfl rfl (by simp [hashL_len]) ?_
      exact r_ret h9 _ rfl rfl)

theorem c_l03Node {a b : List Int} (ha : a.length = 32) (hb : b.length = 32) (hab : bytesOk a) (hbb : bytesOk b) (w : World) :
    Ret Try.prog n_spec_l03Node [.agg (u8s a).toArray, .agg (u8s b).toArray] w [.agg] (fun cs _ => cs = (u8s (hashL 2 (a ++ b))).toArray) := spec_l03Node_calls _ _ (by
  unfold spec_l03Node
  refine r_new (At.refl w) fun b4 w1 h => ?_
  refine r_new h fun b5 w2 h => ?_
  refine r_new h fun b6 w3 h => ?_
  refine r_ldA h 2 rfl rfl (by simp [Value.cells, ha]) ?_
  refine r_ldA h 1 rfl rfl (by simp [Value.cells, hb]) ?_
  refine r_call h (c_l01Pair 2 ha hb hab hbb w3) fun k w8 h8 _ hk => ?_
  subst hk
  refine r_stA h8 0 rfl rfl (by simp [hashL_len]) (by simp [Value.cells]) (by simpa using u8s_one) fun w9 h9 => ?_
  refine r_ldA h9 0 rfl rfl (by simp [hashL_len]) ?_
  exact r_ret h9 _ rfl rfl)

end Go.Proofs.Ytjmncaoddfggnaa
