/- Contract of the hash (program): the key of some data. -/
import Derived.Test.YtffedfdhhglmkaaGreatH4
import Derived.Test.YtffedfdhhglmkaaGreatSx5
namespace Go.Proofs.YtffedfdhhglmkaaGreat
open Go.Sx Go.RowKit

theorem padT_bound (m : Nat) (len : Int) : (padT m len).length ≤ 40 := by rw [padT_len]; unfold padZ; omega

theorem c_hash (tag : Int) {s : Sl} {d : List Int} {w : World} (hs : SlAt w s 1 (u8s d)) (hb : bytesOk d) (hmax : d.length ≤ 35184372088832) :
    Ret Tryz.prog n_impl_hash [.int .u8 tag, .slice s.a s.n s.c] w [.agg] (fun cs _ => cs = (u8s (hashL tag d)).toArray) := impl_hash_calls tag s (by
  unfold impl_hash
  have hn := sl_len hs
  refine r_new (At.refl w) fun b4 w1 h => ?_
  refine r_callp (c_size_byte s) ?_
  rw [hn]
  refine r_callS h (c_padding d.length (by omega) w1) fun p w2 hp hpn => ?_
  have hpb := padT_bound d.length d.length
  obtain ⟨g, cur, hpa, h2, hpc, htk⟩ := hp.entry (by rw [hpn, padT_len]; omega)
  refine r_bs2 T_sl_sl_uint8 h2 rfl rfl (by omega) fun x w3 hx hxn => ?_
  have hsx : SlAt w3 ⟨s.a, d.length, s.c⟩ 1 (u8s d) := by
    have := hs.at hx.at_
    rw [← hn]; exact this
  have hpx : SlAt w3 p 1 (u8s (padT d.length d.length)) := hx.at_.sl 0 rfl hpa hp.len (by simpa using htk)
  refine r_callS hx.at_ (c_Concat2 (y1 := ⟨s.a, d.length, s.c⟩) (y2 := p) (by simpa [Value.cells] using hx.sl) hsx hpx (by omega) (by omega)) fun y w4 hy hyn => ?_
  have hyl : (d ++ padT d.length d.length).length = d.length + (padT d.length d.length).length := List.length_append
  have hy0 : 0 < y.n := by rw [hyn, hyl, padT_len]; omega
  obtain ⟨g2, cur2, hya, h4, hyc, htk2⟩ := hy.entry hy0
  have hm32 : (d ++ padT d.length d.length).length % 32 = 0 := by rw [hyl]; exact padT_mod _ _
  have hlb : bytesOk (d ++ padT d.length d.length) := hb.append (padT_ok _ _)
  refine r_call h4 (c_blocks (hy.sl) hyc (by omega)) fun r w5 h5 hb5 ⟨hr1, hr1n, _, _⟩ => ?_
  have e1 : (d ++ padT d.length d.length).take (32 * ((d ++ padT d.length d.length).length / 32)) = d ++ padT d.length d.length := List.take_of_length_le (by omega)
  rw [e1] at hr1
  refine r_call h5 (c_StartState tag w5) fun st w6 h6 hb6 hst => ?_
  subst hst
  refine r_call h6 (c_mixed (startL_ok tag) (hr1.sl.below hb6) hlb (by omega)) fun ms w7 h7 _ hms => ?_
  subst hms
  rw [hr1n] 
  refine r_call h7 (c_keyOf (mixAll_ok (startL_ok tag) _) w7) fun k w8 h8 _ hk => ?_
  subst hk
  refine r_stA h8 2 rfl rfl (by simp [keyB_len]) (by simp [Value.cells]) (by simpa using u8s_one) fun w9 h9 => ?_
  refine r_ldA h9 2 rfl rfl (by simp [keyB_len]) ?_
  exact r_ret h9 _ rfl rfl)

end Go.Proofs.YtffedfdhhglmkaaGreat
