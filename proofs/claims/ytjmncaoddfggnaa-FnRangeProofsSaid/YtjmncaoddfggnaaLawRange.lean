/- For every input the law FnRangeProofs returns true, and its arguments read behind the call as before it. No conditions. -/
import Derived.Test.YtjmncaoddfggnaaP7
import Derived.Test.YtjmncaoddfggnaaLawGrowth
namespace Go.Proofs.Ytjmncaoddfggnaa
open Go.Sx Go.RowKit

/-- The leaves of a range. -/
def seg (l : List Int) (i j : Nat) : List Int := (l.drop (32 * i)).take (32 * (j - i))
theorem keyAt_seg {l : List Int} {i j a : Nat} (h : a < j - i) : keyAt (seg l i j) a = keyAt l (i + a) := by
  unfold seg
  rw [keyAt_take h, keyAt_drop]

theorem rangeAns_ok {l ex : List Int} {n i j e : Nat} (h : l.length = 32 * n) (hij : i < j) (hj : j ≤ n) (hn : n ≤ 100) (he : ex.length = 32 * e) (he2 : e ≤ 50) :
    rangeAns (lk l) n i (seg l i j) (rpr l i j ++ ex) = (decide (ex = []), 0) := by
  obtain ⟨k, hk, hkn⟩ := rpr_len n l i j h (by omega)
  have hs : (seg l i j).length = 32 * (j - i) := by unfold seg; rw [List.length_take, List.length_drop]; omega
  have e1 : (seg l i j).length / 32 = j - i := by omega
  have e2 : (rpr l i j ++ ex).length / 32 = k + e := by rw [List.length_append]; omega
  unfold rangeAns
  rw [e1, e2, if_neg (by omega), if_neg (by
    simp only [not_or, Decidable.not_not]
    refine ⟨by omega, ?_, by omega⟩
    intro hh
    rw [hh] at hs
    simp at hs
    omega)]
  have := told_ok (seg l i j) n n l i ex h (by omega) (Nat.le_refl _) (fun a ha h1 h2 => by
    rw [e1] at h2
    rw [keyAt_seg (by omega)]
    congr 1
    omega)
  rw [e1, show (i : Int) + ((j - i : Nat) : Int) = j by omega] at this
  rw [Int.toNat_natCast, this]
  simp

theorem c_lawRange {w : World} {sc sm : Sl} {dc dm : List Int} (hc : SlAt w sc 1 (u8s dc)) (hcb : bytesOk dc) (hm : SlAt w sm 1 (u8s dm)) (hmb : bytesOk dm) :
    Ret Try.prog n_laws_FnRangeProofs [.slice sc.a sc.n sc.c, .slice sm.a sm.n sm.c] w [.bool] (fun r _ => r = true) := laws_FnRangeProofs_calls _ _ (by
  unfold laws_FnRangeProofs
  refine r_callp (c_a2Long sc sm) ?_
  by_cases hlong : 3000 < sc.n ∨ 3000 < sm.n
  · exact r_true (decide_eq_true hlong) (r_ret (At.refl w) true rfl rfl)
  refine r_false (decide_eq_false hlong) ?_
  refine r_call (At.refl w) (c_A2Keys 10 hc hcb (by omega)) fun o w1 h1 _ ⟨x, hxb, hx10, ho⟩ => ?_
  refine r_call h1 (c_a2At 0 256 h1 hm hmb (by omega)) fun r29 w2 h2 b2 ⟨j0, hj0, hj0b⟩ => ?_
  subst hj0
  have hbyte : 0 ≤ IntKind.wrap .u8 (j0 : Int) ∧ IntKind.wrap .u8 (j0 : Int) < 256 := by rw [wrapu8]; omega
  generalize IntKind.wrap .u8 (j0 : Int) = by0 at hbyte
  refine r_pur _ (fun w' => run_oneK by0 w') ?_
  have hol := ho.len
  rw [u8s_len] at hol
  refine r_push T_sl_Key (ho.trans b2) rfl (by omega) (by intro v hv; exact u8s_one v hv) (by omega) (by omega) fun y w3 hy hyn => ?_
  have hy : SlO w w3 [] ty_impl_Key 32 y (u8s (x ++ oneK by0)) := by rw [u8s_append]; exact hy
  obtain ⟨l, hl⟩ : ∃ l, l = x ++ oneK by0 := ⟨_, rfl⟩
  rw [← hl] at hy
  have hlb : bytesOk l := by rw [hl]; exact hxb.append (oneK_ok hbyte)
  have hll : l.length = 32 * y.n := by have := hy.len; rw [u8s_len] at this; omega
  have hn1 : 1 ≤ y.n := by omega
  have hn11 : y.n ≤ 11 := by omega
  clear hl hol ho
  obtain ⟨g, cur, hya, h, hyc, htk⟩ := hy.entry (by omega)
  have kr : ∀ (w' : World) (ls : List Blk) (i : Nat), At w w' ls → ls[i]? = some (g, cur, ty_impl_Key) → KS w' y l := fun w' ls i hA hi => At.ks hA i hi hya hll hyc htk hlb
  have kR32 : (lk l).length = 32 := lk_len hll
  have kRb : bytesOk (lk l) := lk_ok hlb
  refine r_call h (c_ListKey (At.refl w3) (kr w3 _ 0 h rfl) (by omega)) fun r45 w4 h _ hr45 => ?_
  subst hr45
  dsimp only
  refine r_new h fun b7 w5 h => ?_
  refine r_stA h 0 rfl rfl (by simp [kR32]) (by simp [Value.cells]) (by simpa using u8s_one) fun w6 h => ?_
  refine r_call h (c_a2At 1 y.n h hm hmb (by omega)) fun r50 w7 h _ hq => ?_
  obtain ⟨i, hi, hib⟩ := hq
  subst hi
  have hin : i < y.n := by omega
  clear hib
  have e1 : IntKind.wrap .i64 ((y.n : Int) - (i : Int)) = ((y.n - i : Nat) : Int) := by rw [w64 (by omega) (by omega)]; omega
  rw [e1]
  refine r_call h (c_a2At 2 (y.n - i) h hm hmb (by omega)) fun r57 w8 h _ hq => ?_
  obtain ⟨d, hd, hdb⟩ := hq
  subst hd
  obtain ⟨j, hj⟩ : ∃ j : Nat, j = i + 1 + d := ⟨_, rfl⟩
  have e2 : IntKind.wrap .i64 (IntKind.wrap .i64 ((i : Int) + 1) + (d : Int)) = (j : Int) := by rw [w64 (n := (i : Int) + 1) (by omega) (by omega), w64 (by omega) (by omega)]; omega
  rw [e2]
  have hij : i < j := by omega
  have hjn : j ≤ y.n := by omega
  clear hj hdb e1 e2
  refine r_call h (c_RangeProof (At.refl w8) (kr w8 _ 1 h rfl) (by omega) hij hjn) fun r63 w9 h9 b9 ⟨hp, hp0⟩ => ?_
  obtain ⟨p, p2⟩ := r63
  dsimp only at hp hp0 ⊢
  subst hp0
  have hpo := SlO.lift h hp
  obtain ⟨Pf, hPf⟩ : ∃ Pf, Pf = rpr l i j := ⟨_, rfl⟩
  rw [← hPf] at hpo
  obtain ⟨k2, hk2, hk2n⟩ := rpr_len y.n l i j hll hn1
  have hPl : Pf.length = 32 * k2 := by rw [hPf]; exact hk2
  have hPb : bytesOk Pf := by rw [hPf]; exact rpr_ok y.n l i j hll hlb
  have hpn : 32 * p.n = Pf.length := by have := hpo.len; rw [u8s_len] at this; omega
  obtain ⟨lp, h, pr⟩ : ∃ lp : List Blk, At w w9 ([(b7, (u8s (lk l)).toArray, ty_impl_Key), (g, cur, ty_impl_Key)] ++ lp) ∧ ∀ (w' : World) (ls : List Blk), At w w' ls → (∀ x ∈ lp, x ∈ ls) → KS w' p Pf := by
    rcases hpo.own with ⟨n1, n2, n3⟩ | ⟨g2, cur2, ha, hA, r1, r2, r3, r4⟩
    · refine ⟨[], by rw [List.append_nil]; exact hpo.at_, fun w' ls hA _ => ⟨⟨by rw [u8s_len]; omega, fun q v hv => ?_⟩, hPb, by omega⟩⟩
      have : Pf = [] := List.eq_nil_of_length_eq_zero (by omega)
      subst this
      simp [u8s] at hv
    · refine ⟨[(g2, cur2, ty_impl_Key)], At.perm hA (List.perm_append_comm (l₁ := [_]) (l₂ := [_, _])), fun w' ls hA hsub => ?_⟩
      obtain ⟨q, hq⟩ := List.mem_iff_getElem?.1 (hsub (g2, cur2, ty_impl_Key) (by simp))
      exact At.ks hA q hq ha (by omega) r1 r4 hPb
  have ansA : ∀ ex : List Int, ∀ e, ex.length = 32 * e → e ≤ 50 → rangeAns (lk l) y.n i (seg l i j) (Pf ++ ex) = (decide (ex = []), 0) := fun ex e he he2 => by rw [hPf]; exact rangeAns_ok hll hij hjn (by omega) he he2
  have ansW : rangeAns (lk l) y.n 0 l [] = (true, 0) := by
    have := rangeAns_ok (l := l) (n := y.n) (i := 0) (j := y.n) (ex := []) (e := 0) hll (by omega) (Nat.le_refl _) (by omega) rfl (by omega)
    have e : seg l 0 y.n = l := by unfold seg; rw [Nat.mul_zero, List.drop_zero, List.take_of_length_le (by omega)]
    rw [e, rpr_all y.n l _ _ hll hn1 (by simp) (by simp)] at this
    exact this
  obtain ⟨s0, k0, segS⟩ : ∃ s0 : Sl, (∀ w' : World, KS w' y l → KS w' s0 (seg l i j)) ∧ ∀ (w' : World) (Q : Sl → World → Prop), Q s0 w' → ((real Try.prog (RR w [.bool] fun r _ => r = true)).sl y.a y.n y.c 32 (some (i : Int)) (some (j : Int)) none Q : World → Prop) w' := by
    refine ⟨⟨if y.c = i then y.a else y.a.map (·.add (i * 32)), j - i, y.c - i⟩, fun w' hk => ⟨?_, (hlb.drop _).take _, by have := hk.cap; dsimp only; omega⟩, fun w' Q hQ => r_sl i j rfl rfl (by omega) (by omega) hQ⟩
    have := hk.sl.slice (by omega) i j (by omega) hjn hk.cap
    have e : ((u8s l).drop (i * 32)).take ((j - i) * 32) = u8s (seg l i j) := by simp only [seg, u8s, List.map_take, List.map_drop, Nat.mul_comm]
    rwa [e] at this
  refine r_join (σ := Bool × Int) (fun s w' => s = (true, 0) ∧ At w w' ([(b7, (u8s (lk l)).toArray, ty_impl_Key), (g, cur, ty_impl_Key)] ++ lp)) (fun s w10 hs => ?_) ?_
  · obtain ⟨rfl, h⟩ := hs
    refine r_any fun _ => ?_
    refine r_call h (c_RangeProof (i := 0) (j := y.n) (At.refl w10) (kr w10 _ 1 h rfl) (by omega) (by omega) (Nat.le_refl _)) fun r81 w11 h b11 ⟨hz, hz0⟩ => ?_
    obtain ⟨z, z2⟩ := r81
    dsimp only at hz hz0 ⊢
    subst hz0
    rw [rpr_all y.n l _ _ hll hn1 (by simp) (by simp)] at hz
    have hzn : z.n = 0 := by have := hz.len; simp [u8s] at this; omega
    refine r_ldA h 0 rfl rfl (by simp [kR32]) ?_
    refine r_call h (c_impl_CheckRange y.n 0 (by omega) kR32 (kr w11 _ 1 h rfl) (SlO.ks hz (fun b hb => by cases hb))) fun r89 w12 h _ hr89 => ?_
    rw [ansW] at hr89
    subst hr89
    dsimp only
    refine r_join (σ := Bool × Int) (fun s w' => s = (false, 0) ∧ At w w' ([(b7, (u8s (lk l)).toArray, ty_impl_Key), (g, cur, ty_impl_Key)] ++ lp)) (fun s w13 hs => ?_) ?_
    · obtain ⟨rfl, h⟩ := hs
      refine r_any fun _ => ?_
      refine r_join (σ := Unit) (fun _ w' => At w w' ([(b7, (u8s (lk l)).toArray, ty_impl_Key), (g, cur, ty_impl_Key)] ++ lp)) (fun _ w14 h => ?_) ?_
      · refine r_any fun _ => ?_
        have e3 : IntKind.wrap .i64 ((i : Int) + 1) = ((i + 1 : Nat) : Int) := by rw [w64 (by omega) (by omega)]; omega
        rw [e3]
        refine r_call h (c_RangeProof (i := i) (j := i + 1) (At.refl w14) (kr w14 _ 1 h rfl) (by omega) (by omega) (by omega)) fun r152 w15 h b15 ⟨hq, hq0⟩ => ?_
        obtain ⟨q, q2⟩ := r152
        dsimp only at hq hq0 ⊢
        subst hq0
        have hqn : q.n = depth y.n y.n i := by
          have e := rpr_depth y.n y.n l i hll hin (Nat.le_refl _)
          have := hq.len
          rw [u8s_len, show (((i + 1 : Nat)) : Int) = (i : Int) + 1 by omega, e] at this
          omega
        refine r_call h (c_TreeDepth hn1 (by omega) hin) fun r158 w16 h _ hr158 => ?_
        subst hr158
        dsimp only
        refine r_join (σ := Unit) (fun _ w' => At w w' ([(b7, (u8s (lk l)).toArray, ty_impl_Key), (g, cur, ty_impl_Key)] ++ lp)) (fun _ w17 h => ?_) ?_
        · refine r_any fun _ => ?_
          refine r_bs0 T_sl_Key h fun y0 w18 hy0 hn0 => ?_
          refine r_append T_sl_Key hy0 (kr w18 _ 1 hy0.at_ rfl).sl u8s_one (by omega) (by omega) fun y1 w19 hy1 hn1' => ?_
          rw [List.nil_append] at hy1
          obtain ⟨g3, cur3, hya3, h, hyc3, htk3⟩ := hy1.entry (by omega)
          have hy1n : y1.n = y.n := by omega
          rw [u8s_len] at htk3
          -- the other list, behind the turned byte
          refine r_join (σ := Unit) (fun _ w' => ∃ (l2 : List Int) (cur4 : Array Value), l2.length = 32 * y1.n ∧ bytesOk l2 ∧ cur4.toList.take (u8s l2).length = u8s l2 ∧ At w w' ((g3, cur4, ty_impl_Key) :: ([(b7, (u8s (lk l)).toArray, ty_impl_Key), (g, cur, ty_impl_Key)] ++ lp))) (fun _ w20 hs => ?_) ?_
          · obtain ⟨l2, cur4, hl2, hl2b, htk4, h⟩ := hs
            refine r_any fun _ => ?_
            have k2r : ∀ (w' : World) (ls : List Blk) (q : Nat), At w w' ls → ls[q]? = some (g3, cur4, ty_impl_Key) → KS w' y1 l2 := fun w' ls q hA hi => At.ks hA q hi hya3 hl2 hyc3 htk4 hl2b
            have k232 : (lk l2).length = 32 := lk_len hl2
            refine r_call h (c_ListKey (At.refl w20) (k2r w20 _ 0 h rfl) (by omega)) fun r191 w21 h _ hr191 => ?_
            subst hr191
            dsimp only
            refine r_new h fun b26 w22 h => ?_
            refine r_stA h 0 rfl rfl (by simp [k232]) (by simp [Value.cells]) (by simpa using u8s_one) fun w23 h => ?_
            refine r_call h (c_ClashOf (kr w23 _ 3 h rfl) (k2r w23 _ 1 h rfl) hy1n.symm hn1 (by omega)) fun r197 w24 h _ hq => ?_
            obtain ⟨X, code⟩ := r197
            obtain ⟨x, hX, hx, hxb', hcode, hcl⟩ := hq
            dsimp only at hX hcode ⊢
            subst hX
            refine r_new h fun b28 w25 h => ?_
            refine r_stA h 0 rfl rfl (by simp [hx]) (by simp [Value.cells]) (by simpa using u8s_one) fun w26 h => ?_
            refine r_ne (fun hh => absurd rfl hh) fun _ => ?_
            refine r_ldA h 1 rfl rfl (by simp [k232]) ?_
            refine r_ldA h 3 rfl rfl (by simp [kR32]) ?_
            refine r_neK (n := 32) (e := ty_uint8) (by kernel_rfl) (by kernel_rfl) (by kernel_rfl) k232 kR32 ?_
            by_cases hkk : lk l2 = lk l
            · refine r_false (by simp [hkk]) ?_
              refine r_call h (c_SameKeys (kr w26 _ 4 h rfl) (k2r w26 _ 2 h rfl) (by omega)) fun r211 w27 h _ hr211 => ?_
              subst hr211
              rw [if_neg (by simp [hkk])] at hcode
              refine r_if (l = l2) rfl (fun he => ?_) (fun he => ?_)
              · rw [if_pos he] at hcode
                subst hcode
                exact r_ret h true rfl rfl
              · rw [if_neg he] at hcode
                subst hcode
                refine r_true rfl ?_
                refine r_ldA h 0 rfl rfl (by simp [hx]) ?_
                refine r_call h (c_ValidClash hx hxb' w27) fun r218 w28 h _ hr218 => ?_
                have := hr218 (hcl hkk.symm he)
                subst this
                exact r_ret h true rfl rfl
            · refine r_true (by simp [hkk]) ?_
              rw [if_pos (fun hh => hkk hh.symm)] at hcode
              subst hcode
              exact r_ret h true rfl rfl
          · refine r_draw h fun w20 h => ?_
            refine r_ix ⟨g3, 0, none⟩ hya3 (by omega) (by omega) ?_
            refine r_ix ⟨g3, 0, none⟩ hya3 (by omega) (by omega) ?_
            refine r_call h (c_a2At 3 32 h hm hmb (by omega)) fun r179 w21 h _ hq => ?_
            obtain ⟨k, hk, hkb⟩ := hq
            subst hk
            have hk32 : k < 32 := by omega
            clear hkb
            have hcell : cur3[32 * i + k]? = some (.int .u8 (l.getD (32 * i + k) 0)) := by
              have : (cur3.toList.take l.length)[32 * i + k]? = (u8s l)[32 * i + k]? := by rw [htk3]
              rw [List.getElem?_take, if_pos (by omega)] at this
              rw [← Array.getElem?_toList, this]
              exact u8s_get (by omega)
            have hsz : 32 * i + k < cur3.size := by
              rcases Nat.lt_or_ge (32 * i + k) cur3.size with h' | h'
              · exact h'
              · rw [Array.getElem?_eq_none h'] at hcell; cases hcell
            have ad : ((⟨g3, 0, none⟩ : Addr).add ((i : Int).toNat * 32)).add ((k : Int).toNat * 1) = ⟨g3, 32 * i + k, none⟩ := by
              rw [add_lit, add_lit]
              congr 1
              simp only [Int.toNat_natCast]
              omega
            refine r_ix _ rfl (by omega) (by omega) ?_
            refine r_ld h 0 (o := 32 * i + k) rfl ad (l.getD (32 * i + k) 0) (by simp [Sh.emb]) hcell ?_
            refine r_call h (c_a2At 4 256 h hm hmb (by omega)) fun r184 w22 h _ hq => ?_
            obtain ⟨m, hm', hmb'⟩ := hq
            subst hm'
            refine r_chk1 (by
              have := h.get (i := 0) rfl
              show World.cell? _ _ = _
              rw [ad]
              simp [World.cell?, this, hcell, Sh.emb]) ?_
            refine r_ix _ rfl (by omega) (by omega) ?_
            refine r_st h 0 (o := 32 * i + k) rfl ad hsz rfl fun w23 h => ?_
            have hxr : ∀ a b : Int, 0 ≤ bitsI .xor .u8 a b ∧ bitsI .xor .u8 a b < 256 := fun a b => by
              have : bitsI .xor .u8 a b = IntKind.wrap .u8 ((BitVec.ofInt (IntKind.bits .u8) a ^^^ BitVec.ofInt (IntKind.bits .u8) b).toNat : Int) := rfl
              rw [this, wrapu8]
              omega
            refine ⟨(), rfl, l.set (32 * i + k) (bitsI .xor .u8 (l.getD (32 * i + k) 0) (IntKind.wrap .u8 (m : Int))), _, by rw [List.length_set]; omega, hlb.set _ (hxr _ _), ?_, h⟩
            rw [u8s_len, List.length_set, Array.toList_setIfInBounds, List.take_set, htk3]
            simp [u8s, List.map_set]
        · refine r_ne (fun hh => absurd rfl hh) fun _ => ?_
          refine r_ne (fun hh => absurd rfl hh) fun _ => ?_
          refine r_ne (fun hh => absurd (by rw [hqn]) hh) fun _ => ?_
          exact ⟨(), rfl, h⟩
      · refine r_ne (fun hh => absurd rfl hh) fun _ => ?_
        refine r_ne (fun hh => absurd rfl hh) fun _ => ?_
        refine r_ne (fun hh => absurd rfl hh) fun _ => ?_
        refine r_ne (fun hh => absurd rfl hh) fun _ => ?_
        refine r_ne (fun hh => absurd rfl hh) fun _ => ?_
        refine r_ne (fun hh => absurd rfl hh) fun _ => ?_
        refine r_false rfl ?_
        refine r_ne (fun hh => absurd (by rw [hzn]; rfl) hh) fun _ => ?_
        refine r_false rfl ?_
        refine r_false rfl ?_
        exact ⟨(), rfl, h⟩
    · have ans3 : rangeAns (lk l) y.n i (seg l i j) (Pf ++ lk l) = (false, 0) := by
        rw [ansA (lk l) 1 (by omega) (by omega), decide_eq_false (by intro hh; rw [hh] at kR32; cases kR32)]
      refine r_draw h fun w13 h => ?_
      refine r_ldA h 0 rfl rfl (by simp [kR32]) ?_
      refine segS _ _ ?_
      refine r_ldA h 0 rfl rfl (by simp [kR32]) ?_
      have fin : ∀ (z : Sl) (g9 : Nat) (X : Array Value) (w' : World), SlO w w' ((g9, X, ty_impl_Key) :: ([(b7, (u8s (lk l)).toArray, ty_impl_Key), (g, cur, ty_impl_Key)] ++ lp)) ty_impl_Key 32 z (u8s Pf ++ u8s (lk l)) →
          ((real Try.prog (RR w [.bool] fun r _ => r = true)).call n_impl_CheckRange [(.agg (u8s (lk l)).toArray), (.int .i64 (y.n : Int)), (.int .i64 (i : Int)), (.slice s0.a s0.n s0.c), (.slice z.a z.n z.c)] [.bool, (.int .i64)] fun r94 => fun w'' =>
            ∃ s', embL [.bool, .int .i64] s' = [(.bool r94.1), (.int .i64 r94.2)] ∧ s' = (false, 0) ∧ At w w'' ([(b7, (u8s (lk l)).toArray, ty_impl_Key), (g, cur, ty_impl_Key)] ++ lp) : World → Prop) w' := by
        intro z g9 X w' hz
        rw [← u8s_append] at hz
        refine r_call hz.at_ (c_impl_CheckRange y.n i (by omega) kR32 (k0 _ (kr w' _ 2 hz.at_ rfl)) (SlO.ks hz (hPb.append kRb))) fun r94 w9 h _ hr94 => ?_
        rw [ans3] at hr94
        subst hr94
        exact ⟨(false, 0), rfl, rfl, h.take _ (List.sublist_cons_self _ _)⟩
      have one1 : (Value.agg (u8s (lk l)).toArray).cells.size = 32 := by simp [Value.cells, kR32]
      have sl9 : ∀ {w' : World} {g9 : Nat} {ls : List Blk}, At w w' ((g9, (Value.agg (u8s (lk l)).toArray).cells, ty_impl_Key) :: ls) → SlAt w' ⟨some ⟨g9, 0, none⟩, 1, 1⟩ 32 (u8s (lk l)) := fun hA => hA.sl 0 rfl rfl (by simp [kR32]) (List.take_of_length_le (Nat.le_refl _))
      refine r_all2 ?_ ?_
      · refine r_bs0 T_sl_Key h fun y88 w19 hy88 hn88 => ?_
        refine r_chk2 (ldOk_blk hy88.at_ 0 rfl (by simp [kR32])) (ldOk_blk hy88.at_ 0 rfl (by simp [kR32])) ?_
        refine r_all2 ?_ ?_
        · refine r_append T_sl_Key hy88 (pr _ _ hy88.at_ (fun x hx => by simp [hx])).sl u8s_one (by omega) (by omega) fun y90 w20 hy90 hn90 => ?_
          rw [List.nil_append] at hy90
          refine r_chk2 (ldOk_blk hy90.at_ 0 rfl (by simp [kR32])) (ldOk_blk hy90.at_ 0 rfl (by simp [kR32])) ?_
          refine r_bs1O T_sl_Key hy90 one1 (by omega) fun g9 w21 hy90 => ?_
          refine r_chk1 (ldOk_blk hy90.at_ 1 rfl (by simp [kR32])) ?_
          refine r_append T_sl_Key hy90 (sl9 hy90.at_) u8s_one (by dsimp only; omega) (by dsimp only; omega) fun y93 w22 hy93 hn93 => ?_
          refine r_chk1 (ldOk_blk hy93.at_ 1 rfl (by simp [kR32])) ?_
          exact fin _ _ _ _ hy93
        · refine r_bs1O T_sl_Key hy88 one1 (by omega) fun g9 w21 hy88 => ?_
          refine r_chk1 (ldOk_blk hy88.at_ 1 rfl (by simp [kR32])) ?_
          refine r_append T_sl_Key hy88 (pr _ _ hy88.at_ (fun x hx => by simp [hx])).sl u8s_one (by omega) (by omega) fun y90 w20 hy90 hn90 => ?_
          rw [List.nil_append] at hy90
          refine r_chk1 (ldOk_blk hy90.at_ 1 rfl (by simp [kR32])) ?_
          refine r_append T_sl_Key hy90 (sl9 hy90.at_) u8s_one (by dsimp only; omega) (by dsimp only; omega) fun y93 w22 hy93 hn93 => ?_
          refine r_chk1 (ldOk_blk hy93.at_ 1 rfl (by simp [kR32])) ?_
          exact fin _ _ _ _ hy93
      · refine r_bs1L T_sl_Key h one1 (by omega) fun g9 w21 h => ?_
        refine r_chk1 (ldOk_blk h 1 rfl (by simp [kR32])) ?_
        refine r_bs0 T_sl_Key h fun y88 w19 hy88 hn88 => ?_
        refine r_chk1 (ldOk_blk hy88.at_ 1 rfl (by simp [kR32])) ?_
        refine r_append T_sl_Key hy88 (pr _ _ hy88.at_ (fun x hx => by simp [hx])).sl u8s_one (by omega) (by omega) fun y90 w20 hy90 hn90 => ?_
        rw [List.nil_append] at hy90
        refine r_chk1 (ldOk_blk hy90.at_ 1 rfl (by simp [kR32])) ?_
        refine r_append T_sl_Key hy90 (sl9 hy90.at_) u8s_one (by dsimp only; omega) (by dsimp only; omega) fun y93 w22 hy93 hn93 => ?_
        refine r_chk1 (ldOk_blk hy93.at_ 1 rfl (by simp [kR32])) ?_
        exact fin _ _ _ _ hy93
  · refine r_draw h fun w10 h => ?_
    refine r_ldA h 0 rfl rfl (by simp [kR32]) ?_
    refine segS _ _ ?_
    refine r_call h (c_impl_CheckRange y.n i (by omega) kR32 (k0 _ (kr w10 _ 1 h rfl)) (pr w10 _ h (fun x hx => by simp [hx]))) fun r75 w11 h _ hr75 => ?_
    have := ansA [] 0 rfl (by omega)
    rw [List.append_nil] at this
    rw [this] at hr75
    exact ⟨r75, rfl, hr75, h⟩)

set_option maxRecDepth 100000 in
theorem lifted_Range (os : Os) (started : os.Started) (H : Type) (enc : TypeId × Value → H) :
    ReturnsInHanded {} Try.checked os 6 .any (Rows.fnRangeProofsSpec.pre6 enc Try.prog Try.f6 Rows.fnRangeProofsRow.domain false) (Rows.fnRangeProofsSpec.post enc Try.prog Try.f6 false true false false) := by
  refine law_lifted (C := Try.checked) (tb := ty_bool) (by kernel_rfl) started (by kernel_rfl) Try.func6 (by kernel_rfl) (by kernel_rfl) (by kernel_rfl) (by kernel_rfl) rfl
    (fun ds hd => by
      rw [Try.params6] at hd
      match ds, hd with
      | [_, _], _ => exact ⟨rfl, rfl, rfl⟩)
    (ChangeSpec.witness6 (enc := enc) (C := Try.checked) false ⟨#[], #[.slice none 0 0, .slice none 0 0], []⟩ 8 (by kernel_rfl) (by kernel_rfl) (by kernel_rfl) (by kernel_rfl)) ?_
  intro W base args ds p hval0 hA0
  have hval : ∀ (j : Nat) t v, Try.f6.params[j]? = some t → args[j]? = some v → Value.okWide Try.prog W .any base t v := hval0
  have hA : DataW.TrodAll enc Try.prog W 0 (fun _ => true) true Try.f6.params.toList args.toList ds p := hA0
  rw [Try.params6] at hA hval
  obtain ⟨v0, vs0, d0, ds0, p0, q0, hargs, rfl, rfl, h0, r0⟩ := ChangeShapes.trodAll_cons hA
  obtain ⟨v1, vs1, d1, ds1, p1, q1, rfl, rfl, rfl, h1, r1⟩ := ChangeShapes.trodAll_cons r0
  obtain ⟨rfl, rfl, rfl⟩ := ChangeShapes.trodAll_nil r1
  obtain rfl : args = #[v0, v1] := by cases args; simp_all
  obtain ⟨sc, dc, rfl, hc, hcb, _, _⟩ := open_u8s (e := ty_uint8) (by kernel_rfl) (by kernel_rfl) (by kernel_rfl) (hval 0 _ _ rfl rfl) h0
  obtain ⟨sm, dm, rfl, hm, hmb, _, _⟩ := open_u8s (e := ty_uint8) (by kernel_rfl) (by kernel_rfl) (by kernel_rfl) (hval 1 _ _ rfl rfl) h1
  exact c_lawRange hc hcb hm hmb

theorem over_Range : Rows.fnRangeProofsRow.holds Try.pinned (OpenSpec.ofChange Rows.fnRangeProofsSpec) :=
  OpenClaim.holds_of_wide 6 Try.f6 rfl rfl rfl rfl rfl rfl rfl ⟨rfl, rfl, rfl, rfl, rfl⟩ rfl rfl rfl rfl rfl (by kernel_rfl) Try.func6 (by kernel_rfl)
    (of_decide_eq_true (by kernel_rfl)) (by unfold Func.isWrapper; first | (rw [if_pos (by decide +kernel)]; kernel_rfl) | (rw [if_neg (by decide +kernel)]; exact ⟨rfl, rfl⟩))
    (fun os started H enc _ => lifted_Range os started H enc)

/-- The given statement. -/
theorem rangeProofs_holds : Rows.FnRangeProofsSaid := over_Range
#print axioms rangeProofs_holds
end Go.Proofs.Ytjmncaoddfggnaa
