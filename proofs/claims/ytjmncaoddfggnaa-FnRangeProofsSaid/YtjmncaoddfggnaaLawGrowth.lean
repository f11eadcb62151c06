/- For every input the law FnGrowth returns true, and its arguments read behind the call as before it. No conditions. -/
import Derived.Test.YtjmncaoddfggnaaP2
import Derived.Test.YtjmncaoddfggnaaR0
import Derived.Test.YtjmncaoddfggnaaRows
namespace Go.Proofs.Ytjmncaoddfggnaa
open Go.Sx Go.RowKit

theorem ones_le : ∀ (f m : Nat), onesF f m ≤ f
  | 0, _ => Nat.le_refl _
  | f + 1, m => by have := ones_le f (m / 2); simp only [onesF]; omega

/-- What a growth proof with something behind it gives. -/
theorem growAns_ok {l ex : List Int} {n m e : Nat} (h : l.length = 32 * n) (h1 : 1 ≤ m) (hm : m ≤ n) (hn : n ≤ 100) (he : ex.length = 32 * e) (he2 : e ≤ 50) :
    growAns (lk (l.take (32 * m))) m (lk l) n ((pk (l.take (32 * m)) ++ rpr l 0 m) ++ ex) = (decide (ex = []), 0) := by
  have hlm : (l.take (32 * m)).length = 32 * m := by rw [List.length_take]; omega
  have hpl := pk_len m _ hlm (by omega)
  have hol : ones m ≤ 64 := ones_le 64 m
  obtain ⟨k, hk, hkn⟩ := rpr_len n l 0 m h (by omega)
  have hlen : ((pk (l.take (32 * m)) ++ rpr l 0 m) ++ ex).length / 32 = ones m + k + e := by simp only [List.length_append]; omega
  unfold growAns
  rw [hlen, if_neg (by omega), if_neg (by omega), Int.toNat_natCast, Int.toNat_natCast, List.append_assoc, take_left' hpl, drop_left' hpl, ofPeaks_pk m _ hlm h1 (by omega),
    if_neg (by simp; omega)]
  have := grown_ok n n l m 0 [] ex h (by omega) (Nat.le_refl _) (by omega) (by omega) (by omega)
  rw [if_neg (by omega), Int.toNat_natCast, List.append_nil] at this
  rw [this]
  simp
theorem growAns_bad {root : List Int} {l : List Int} {n m : Nat} (h : l.length = 32 * n) (h1 : 1 ≤ m) (hm : m ≤ n) (hn : n ≤ 100) (hr : lk (l.take (32 * m)) ≠ root) (now : List Int) :
    growAns root m now n (pk (l.take (32 * m)) ++ rpr l 0 m) = (false, 0) := by
  have hlm : (l.take (32 * m)).length = 32 * m := by rw [List.length_take]; omega
  have hpl := pk_len m _ hlm (by omega)
  have hol : ones m ≤ 64 := ones_le 64 m
  obtain ⟨k, hk, hkn⟩ := rpr_len n l 0 m h (by omega)
  have hlen : (pk (l.take (32 * m)) ++ rpr l 0 m).length / 32 = ones m + k := by simp only [List.length_append]; omega
  unfold growAns
  rw [hlen, if_neg (by omega), if_neg (by omega), Int.toNat_natCast, take_left' hpl, ofPeaks_pk m _ hlm h1 (by omega), if_pos (.inr hr)]
theorem growAns_out {root now l : List Int} {n : Nat} (h : l.length / 32 ≤ 256) : growAns root ((n : Int) + 1) now n l = (false, 2) := by
  unfold growAns
  rw [if_neg (by omega), if_pos (.inr (by omega))]

theorem xor_ne : ∀ b : Fin 256, bitsI .xor .u8 (b.val : Int) 1 ≠ (b.val : Int) := by decide +kernel

/-- A key with a byte turned is another key. -/
theorem set_ne {x : List Int} {i : Nat} (hb : bytesOk x) (hi : i < x.length) : x ≠ x.set i (bitsI .xor .u8 (x.getD i 0) 1) := by
  intro h
  have h1 : x[i]? = (x.set i (bitsI .xor .u8 (x.getD i 0) 1))[i]? := by rw [← h]
  rw [List.getElem?_set_self hi, List.getElem?_eq_getElem hi] at h1
  have h2 : x.getD i 0 = x[i] := by simp [List.getD, hi]
  have hbd := hb.get i
  have h3 := xor_ne ⟨(x.getD i 0).toNat, by omega⟩
  dsimp only at h3
  rw [Int.toNat_of_nonneg hbd.1] at h3
  rw [h2] at h1 h3
  exact h3 (Option.some.inj h1).symm

theorem At.ks {w0 w : World} {ls : List Blk} (hA : At w0 w ls) (i : Nat) {g : Nat} {cur : Array Value} {e : TypeId} (hl : ls[i]? = some (g, cur, e)) {s : Sl} {l : List Int} (ha : s.a = some ⟨g, 0, none⟩) (hn : l.length = 32 * s.n) (hc : s.n ≤ s.c) (hx : cur.toList.take (u8s l).length = u8s l) (hb : bytesOk l) : KS w s l :=
  ⟨hA.sl i hl ha (by simp; omega) (by rw [List.drop_zero]; exact hx), hb, hc⟩

theorem SlO.add {w0 w w' : World} {ls : List Blk} {e z : Nat} {s : Sl} {xs : List Value} (h : SlO w0 w ls e z s xs) (hb : Below w.heap.size w w') {g : Nat} {cs : Array Value} {t : TypeId} (hg : w'.heap[g]? = some (.cells cs t (0, 0))) (hge : w.heap.size ≤ g) : SlO w0 w' ((g, cs, t) :: ls) e z s xs :=
  ⟨(h.at_.trans hb).add hg (Nat.le_trans h.at_.size hge) (h.at_.fresh hge), h.len, h.own.imp id fun ⟨g1, cur, ha, hA, r⟩ => ⟨g1, cur, ha, At.sw1 ((hA.trans hb).add hg (Nat.le_trans h.at_.size hge) (hA.fresh hge)), r⟩⟩

/-- '[]T{v}' while a slice is being made: its block joins. -/
theorem r_bs1O {P : Program} {R : Value → World → Prop} {w0 w : World} {ls : List Blk} {t e z by_ : Nat} (hT : SlT P t e z by_) {e' z' : Nat} {s : Sl} {xs : List Value} (hS : SlO w0 w ls e' z' s xs) {v : Value} (hv : v.cells.size = z) (hz : z ≤ 16777216) {k : Sl → World → Prop} (h : ∀ g w', SlO w0 w' ((g, v.cells, e) :: ls) e' z' s xs → k ⟨some ⟨g, 0, none⟩, 1, 1⟩ w') :
    ((real P R).sem (Instr.buildSlice t 1 #[(0, v)]) .slice k : World → Prop) w :=
  ⟨⟨some ⟨w.heap.size, 0, none⟩, 1, 1⟩, _, run_bs1 hT hv hz w, h _ _ (SlO.add hS (below_alloc w _) (heap_alloc_self w _) (Nat.le_refl _))⟩
theorem r_bs1L {P : Program} {R : Value → World → Prop} {w0 w : World} {ls : List Blk} {t e z by_ : Nat} (hT : SlT P t e z by_) (hA : At w0 w ls) {v : Value} (hv : v.cells.size = z) (hz : z ≤ 16777216) {k : Sl → World → Prop} (h : ∀ g w', At w0 w' ((g, v.cells, e) :: ls) → k ⟨some ⟨g, 0, none⟩, 1, 1⟩ w') :
    ((real P R).sem (Instr.buildSlice t 1 #[(0, v)]) .slice k : World → Prop) w :=
  ⟨⟨some ⟨w.heap.size, 0, none⟩, 1, 1⟩, _, run_bs1 hT hv hz w, h _ _ ((hA.trans (below_alloc w _)).add (heap_alloc_self w _) hA.size (hA.fresh (Nat.le_refl _)))⟩
theorem r_chk3 {P : Program} {R : Value → World → Prop} {w : World} {h1 h2 h3 : Held} {k : World → Prop} (a : ldOk w h1.n h1.p h1.sh h1.x) (b : ldOk w h2.n h2.p h2.sh h2.x) (c : ldOk w h3.n h3.p h3.sh h3.x) (h : k w) : ((real P R).chk [h1, h2, h3] k : World → Prop) w :=
  ⟨fun x hx => by
    simp at hx
    rcases hx with rfl | rfl | rfl
    · exact a
    · exact b
    · exact c, h⟩

def oneK (b : Int) : List Int := b :: List.replicate 31 0
theorem run_oneK (b : Int) (w : World) : (Instr.build ty_impl_Key #[(0, (.int .u8 b))]).run Try.prog w = .ok (.agg (u8s (oneK b)).toArray) w := by kernel_rfl
theorem oneK_ok {b : Int} (h : 0 ≤ b ∧ b < 256) : bytesOk (oneK b) := by
  intro x hx
  rcases List.mem_cons.1 hx with rfl | hx
  · exact h
  · have := List.eq_of_mem_replicate hx
    omega

theorem c_lawGrowth {w : World} {sc sm : Sl} {dc dm : List Int} (hc : SlAt w sc 1 (u8s dc)) (hcb : bytesOk dc) (hm : SlAt w sm 1 (u8s dm)) (hmb : bytesOk dm) :
    Ret Try.prog n_laws_FnGrowth [.slice sc.a sc.n sc.c, .slice sm.a sm.n sm.c] w [.bool] (fun r _ => r = true) := laws_FnGrowth_calls _ _ (by
  unfold laws_FnGrowth
  refine r_callp (c_a2Long sc sm) ?_
  by_cases hlong : 3000 < sc.n ∨ 3000 < sm.n
  · exact r_true (decide_eq_true hlong) (r_ret (At.refl w) true rfl rfl)
  refine r_false (decide_eq_false hlong) ?_
  refine r_call (At.refl w) (c_A2Keys 10 hc hcb (by omega)) fun o w1 h1 _ ⟨x, hxb, hx10, ho⟩ => ?_
  refine r_call h1 (c_a2At 0 256 h1 hm hmb (by omega)) fun r29 w2 h2 b2 ⟨j0, hj0, hj0b⟩ => ?_
  subst hj0
  have hbyte : 0 ≤ IntKind.wrap .u8 (j0 : Int) ∧ IntKind.wrap .u8 (j0 : Int) < 256 := by rw [wrapu8]; omega
  generalize IntKind.wrap .u8 (j0 : Int) = by0 at hbyte
  refine r_pur _ (fun w' => run_oneK by0 w') ?_
  have hol := ho.len
  rw [u8s_len] at hol
  refine r_push T_sl_Key (ho.trans b2) rfl (by omega) (by intro v hv; exact u8s_one v hv) (by omega) (by omega) fun y w3 hy hyn => ?_
  have hy : SlO w w3 [] ty_impl_Key 32 y (u8s (x ++ oneK by0)) := by rw [u8s_append]; exact hy
  obtain ⟨l, hl⟩ : ∃ l, l = x ++ oneK by0 := ⟨_, rfl⟩
  rw [← hl] at hy
  have hlb : bytesOk l := by rw [hl]; exact hxb.append (oneK_ok hbyte)
  have hll : l.length = 32 * y.n := by have := hy.len; rw [u8s_len] at this; omega
  have hn1 : 1 ≤ y.n := by omega
  have hn11 : y.n ≤ 11 := by omega
  clear hl hol ho
  obtain ⟨g, cur, hya, h, hyc, htk⟩ := hy.entry (by omega)
  have kr : ∀ (w' : World) (ls : List Blk) (i : Nat), At w w' ls → ls[i]? = some (g, cur, ty_impl_Key) → KS w' y l := fun w' ls i hA hi => At.ks hA i hi hya hll hyc htk hlb
  refine r_call h (c_a2At 1 y.n h hm hmb (by omega)) fun r38 w4 h b4 ⟨j1, hj1, hj1b⟩ => ?_
  subst hj1
  obtain ⟨m, hm'⟩ : ∃ m : Nat, m = j1 + 1 := ⟨_, rfl⟩
  have e1 : IntKind.wrap .i64 (1 + (j1 : Int)) = (m : Int) := by rw [w64 (by omega) (by omega)]; omega
  rw [e1]
  have hm1 : 1 ≤ m := by omega
  have hmn : m ≤ y.n := by omega
  clear hm' e1 hj1b
  have hlm : (l.take (32 * m)).length = 32 * m := by rw [List.length_take]; omega
  have kA32 : (lk (l.take (32 * m))).length = 32 := lk_len hlm
  have kB32 : (lk l).length = 32 := lk_len hll
  refine r_heads (kr w4 _ 0 h rfl) rfl hmn fun s1 hs1 hs1n => ?_
  refine r_call h (c_ListKey (At.refl w4) hs1 (by omega)) fun r44 w5 h _ hr44 => ?_
  subst hr44
  dsimp only
  refine r_new h fun b8 w6 h => ?_
  refine r_stA h 0 rfl rfl (by simp [kA32]) (by simp [Value.cells]) (by simpa using u8s_one) fun w7 h => ?_
  refine r_call h (c_ListKey (At.refl w7) (kr w7 _ 1 h rfl) (by omega)) fun r49 w8 h _ hr49 => ?_
  subst hr49
  dsimp only
  refine r_new h fun b10 w9 h => ?_
  refine r_stA h 0 rfl rfl (by simp [kB32]) (by simp [Value.cells]) (by simpa using u8s_one) fun w10 h => ?_
  refine r_call h (c_GrowthProof (At.refl w10) (kr w10 _ 2 h rfl) (by omega) hm1 hmn) fun r55 w11 h11 b11 ⟨hp, hp0⟩ => ?_
  obtain ⟨p, p2⟩ := r55
  dsimp only at hp hp0 ⊢
  subst hp0
  have hpo := SlO.lift h hp
  obtain ⟨Pf, hPf⟩ : ∃ Pf, Pf = pk (l.take (32 * m)) ++ rpr l 0 m := ⟨_, rfl⟩
  rw [← hPf] at hpo
  have hpkl := pk_len m _ hlm (by omega)
  have hone : 1 ≤ ones m := ones_pos ⟨m, by omega⟩ (by dsimp only; omega)
  have hol : ones m ≤ 64 := ones_le 64 m
  obtain ⟨k2, hk2, hk2n⟩ := rpr_len y.n l 0 m hll hn1
  have hPl : Pf.length = 32 * (ones m + k2) := by rw [hPf, List.length_append]; omega
  have hPb : bytesOk Pf := by rw [hPf]; exact (pk_ok m _ hlm (hlb.take _)).append (rpr_ok y.n l 0 m hll hlb)
  have hpn : 32 * p.n = Pf.length := by have := hpo.len; rw [u8s_len] at this; omega
  obtain ⟨g2, cur2, hpa, h, hpc, hptk⟩ := hpo.entry (by omega)
  have pr : ∀ (w' : World) (ls : List Blk) (i : Nat), At w w' ls → ls[i]? = some (g2, cur2, ty_impl_Key) → KS w' p Pf := fun w' ls i hA hi => At.ks hA i hi hpa hpn.symm hpc hptk hPb
  refine r_ldA h 2 rfl rfl (by simp [kA32]) ?_
  refine r_ldA h 1 rfl rfl (by simp [kB32]) ?_
  refine r_call h (c_impl_CheckGrowth m y.n kA32 kB32 (pr _ _ 0 h rfl)) fun r64 w12 h _ hr64 => ?_
  have ans1 : growAns (lk (l.take (32 * m))) m (lk l) y.n Pf = (true, 0) := by
    have := growAns_ok (ex := []) (e := 0) hll hm1 hmn (by omega) rfl (by omega)
    rw [List.append_nil, ← hPf] at this
    exact this
  rw [ans1] at hr64
  subst hr64
  dsimp only
  refine r_ldA h 2 rfl rfl (by simp [kA32]) ?_
  refine r_new h fun b16 w13 h => ?_
  refine r_stA h 0 rfl rfl (by simp [kA32]) (by simp [Value.cells]) (by simpa using u8s_one) fun w14 h => ?_
  refine r_call h (c_a2At 2 32 h hm hmb (by omega)) fun r69 w15 h _ hq => ?_
  obtain ⟨j2, hj2, hj2b⟩ := hq
  have hj32 : j2 < 32 := by omega
  clear hj2b
  subst hj2
  have hi0 : (0 : Int) ≤ (j2 : Int) := Int.natCast_nonneg _
  have hi1 : (j2 : Int) < ((32 : Nat) : Int) := Int.ofNat_lt.2 hj32
  refine r_ix ⟨b16, 0, none⟩ rfl hi0 hi1 ?_
  refine r_ld h 0 rfl (add_lit _ _ _) ((lk (l.take (32 * m))).getD j2 0) (by simp [Sh.emb]) (by simp only [Int.toNat_natCast, Nat.zero_add, Nat.mul_one]; exact u8s_arr (by omega)) ?_
  refine r_ix ⟨b16, 0, none⟩ rfl hi0 hi1 ?_
  refine r_st h 0 rfl (add_lit _ _ _) (by simp [kA32]; omega) rfl fun w16 h => ?_
  rw [u8s_set] at h
  simp only [Int.toNat_natCast, Nat.zero_add, Nat.mul_one] at h
  have hne := set_ne (lk_ok (hlb.take (32 * m))) (i := j2) (by omega)
  have hs32 : ((lk (l.take (32 * m))).set j2 (bitsI .xor .u8 ((lk (l.take (32 * m))).getD j2 0) 1)).length = 32 := by rw [List.length_set]; exact kA32
  generalize (lk (l.take (32 * m))).set j2 (bitsI .xor .u8 ((lk (l.take (32 * m))).getD j2 0) 1) = kC at h hne hs32
  refine r_ldA h 0 rfl rfl (by simp [hs32]) ?_
  refine r_ldA h 2 rfl rfl (by simp [kB32]) ?_
  refine r_call h (c_impl_CheckGrowth m y.n hs32 kB32 (pr _ _ 1 h rfl)) fun r80 w17 h _ hr80 => ?_
  have ans2 : growAns kC m (lk l) y.n Pf = (false, 0) := by rw [hPf]; exact growAns_bad hll hm1 hmn (by omega) hne _
  rw [ans2] at hr80
  subst hr80
  dsimp only
  have h := h.take _ (List.sublist_cons_self _ _)
  refine r_join (σ := Bool × Int) (fun s w' => s = (false, 0) ∧ At w w' [(g2, cur2, ty_impl_Key), (b10, (u8s (lk l)).toArray, ty_impl_Key), (b8, (u8s (lk (l.take (32 * m)))).toArray, ty_impl_Key), (g, cur, ty_impl_Key)]) (fun s w18 hs => ?_) ?_
  · obtain ⟨rfl, h⟩ := hs
    refine r_any fun _ => ?_
    refine r_ldA h 2 rfl rfl (by simp [kA32]) ?_
    refine r_ldA h 1 rfl rfl (by simp [kB32]) ?_
    have e2 : IntKind.wrap .i64 ((y.n : Int) + 1) = (y.n : Int) + 1 := w64 (by omega) (by omega)
    rw [e2]
    refine r_call h (c_impl_CheckGrowth ((y.n : Int) + 1) y.n kA32 kB32 (pr _ _ 0 h rfl)) fun r104 w19 h _ hr104 => ?_
    rw [growAns_out (by omega)] at hr104
    subst hr104
    refine r_true rfl (r_true rfl (r_true rfl (r_true rfl (r_true rfl (r_true rfl (r_true rfl (r_true rfl (r_true rfl ?_))))))))
    exact r_ret h true rfl rfl
  · have ans3 : growAns (lk (l.take (32 * m))) m (lk l) y.n (Pf ++ lk (l.take (32 * m))) = (false, 0) := by
      have := growAns_ok (ex := lk (l.take (32 * m))) (e := 1) hll hm1 hmn (by omega) (by omega) (by omega)
      rw [← hPf] at this
      rw [this, decide_eq_false (by intro hh; rw [hh] at kA32; cases kA32)]
    have kb := lk_ok (hlb.take (32 * m))
    generalize lk (l.take (32 * m)) = kA at kA32 h ans3 kb
    generalize lk l = kB at kB32 h ans3
    refine r_draw h fun w18 h => ?_
    refine r_ldA h 2 rfl rfl (by simp [kA32]) ?_
    refine r_ldA h 1 rfl rfl (by simp [kB32]) ?_
    refine r_ldA h 2 rfl rfl (by simp [kA32]) ?_
    -- behind the two appends: the call
    have fin : ∀ (z : Sl) (g9 : Nat) (X : Array Value) (w' : World), SlO w w' ((g9, X, ty_impl_Key) :: [(g2, cur2, ty_impl_Key), (b10, (u8s kB).toArray, ty_impl_Key), (b8, (u8s kA).toArray, ty_impl_Key), (g, cur, ty_impl_Key)]) ty_impl_Key 32 z (u8s Pf ++ u8s kA) →
        ((real Try.prog (RR w [.bool] fun r _ => r = true)).call n_impl_CheckGrowth [(.agg (u8s kA).toArray), (.int .i64 (m : Int)), (.agg (u8s kB).toArray), (.int .i64 (y.n : Int)), (.slice z.a z.n z.c)] [.bool, (.int .i64)] fun r94 => fun w'' =>
          ∃ s', embL [.bool, .int .i64] s' = [(.bool r94.1), (.int .i64 r94.2)] ∧ s' = (false, 0) ∧ At w w'' [(g2, cur2, ty_impl_Key), (b10, (u8s kB).toArray, ty_impl_Key), (b8, (u8s kA).toArray, ty_impl_Key), (g, cur, ty_impl_Key)] : World → Prop) w' := by
      intro z g9 X w' hz
      rw [← u8s_append] at hz
      refine r_call hz.at_ (c_impl_CheckGrowth m y.n kA32 kB32 (SlO.ks hz (hPb.append kb))) fun r94 w9 h _ hr94 => ?_
      rw [ans3] at hr94
      subst hr94
      exact ⟨(false, 0), rfl, rfl, h.take _ (List.sublist_cons_self _ _)⟩
    have one1 : (Value.agg (u8s kA).toArray).cells.size = 32 := by simp [Value.cells, kA32]
    have sl9 : ∀ {w' : World} {g9 : Nat} {ls : List Blk}, At w w' ((g9, (Value.agg (u8s kA).toArray).cells, ty_impl_Key) :: ls) → SlAt w' ⟨some ⟨g9, 0, none⟩, 1, 1⟩ 32 (u8s kA) := fun hA => hA.sl 0 rfl rfl (by simp [kA32]) (List.take_of_length_le (Nat.le_refl _))
    refine r_all2 ?_ ?_
    · refine r_bs0 T_sl_Key h fun y88 w19 hy88 hn88 => ?_
      refine r_chk3 (ldOk_blk hy88.at_ 2 rfl (by simp [kA32])) (ldOk_blk hy88.at_ 1 rfl (by simp [kB32])) (ldOk_blk hy88.at_ 2 rfl (by simp [kA32])) ?_
      refine r_all2 ?_ ?_
      · refine r_append T_sl_Key hy88 (pr _ _ 0 hy88.at_ rfl).sl u8s_one (by omega) (by omega) fun y90 w20 hy90 hn90 => ?_
        rw [List.nil_append] at hy90
        refine r_chk3 (ldOk_blk hy90.at_ 2 rfl (by simp [kA32])) (ldOk_blk hy90.at_ 1 rfl (by simp [kB32])) (ldOk_blk hy90.at_ 2 rfl (by simp [kA32])) ?_
        refine r_bs1O T_sl_Key hy90 one1 (by omega) fun g9 w21 hy90 => ?_
        refine r_chk2 (ldOk_blk hy90.at_ 2 rfl (by simp [kB32])) (ldOk_blk hy90.at_ 3 rfl (by simp [kA32])) ?_
        refine r_append T_sl_Key hy90 (sl9 hy90.at_) u8s_one (by dsimp only; omega) (by dsimp only; omega) fun y93 w22 hy93 hn93 => ?_
        refine r_chk2 (ldOk_blk hy93.at_ 2 rfl (by simp [kB32])) (ldOk_blk hy93.at_ 3 rfl (by simp [kA32])) ?_
        exact fin _ _ _ _ hy93
      · refine r_bs1O T_sl_Key hy88 one1 (by omega) fun g9 w21 hy88 => ?_
        refine r_chk2 (ldOk_blk hy88.at_ 2 rfl (by simp [kB32])) (ldOk_blk hy88.at_ 3 rfl (by simp [kA32])) ?_
        refine r_append T_sl_Key hy88 (pr _ _ 1 hy88.at_ rfl).sl u8s_one (by omega) (by omega) fun y90 w20 hy90 hn90 => ?_
        rw [List.nil_append] at hy90
        refine r_chk2 (ldOk_blk hy90.at_ 2 rfl (by simp [kB32])) (ldOk_blk hy90.at_ 3 rfl (by simp [kA32])) ?_
        refine r_append T_sl_Key hy90 (sl9 hy90.at_) u8s_one (by dsimp only; omega) (by dsimp only; omega) fun y93 w22 hy93 hn93 => ?_
        refine r_chk2 (ldOk_blk hy93.at_ 2 rfl (by simp [kB32])) (ldOk_blk hy93.at_ 3 rfl (by simp [kA32])) ?_
        exact fin _ _ _ _ hy93
    · refine r_bs1L T_sl_Key h one1 (by omega) fun g9 w21 h => ?_
      refine r_chk2 (ldOk_blk h 2 rfl (by simp [kB32])) (ldOk_blk h 3 rfl (by simp [kA32])) ?_
      refine r_bs0 T_sl_Key h fun y88 w19 hy88 hn88 => ?_
      refine r_chk2 (ldOk_blk hy88.at_ 2 rfl (by simp [kB32])) (ldOk_blk hy88.at_ 3 rfl (by simp [kA32])) ?_
      refine r_append T_sl_Key hy88 (pr _ _ 1 hy88.at_ rfl).sl u8s_one (by omega) (by omega) fun y90 w20 hy90 hn90 => ?_
      rw [List.nil_append] at hy90
      refine r_chk2 (ldOk_blk hy90.at_ 2 rfl (by simp [kB32])) (ldOk_blk hy90.at_ 3 rfl (by simp [kA32])) ?_
      refine r_append T_sl_Key hy90 (sl9 hy90.at_) u8s_one (by dsimp only; omega) (by dsimp only; omega) fun y93 w22 hy93 hn93 => ?_
      refine r_chk2 (ldOk_blk hy93.at_ 2 rfl (by simp [kB32])) (ldOk_blk hy93.at_ 3 rfl (by simp [kA32])) ?_
      exact fin _ _ _ _ hy93)

set_option maxRecDepth 100000 in
theorem lifted_Growth (os : Os) (started : os.Started) (H : Type) (enc : TypeId × Value → H) :
    ReturnsInHanded {} Try.checked os 5 .any (Rows.fnGrowthSpec.pre6 enc Try.prog Try.f5 Rows.fnGrowthRow.domain false) (Rows.fnGrowthSpec.post enc Try.prog Try.f5 false true false false) := by
  refine law_lifted (C := Try.checked) (tb := ty_bool) (by kernel_rfl) started (by kernel_rfl) Try.func5 (by kernel_rfl) (by kernel_rfl) (by kernel_rfl) (by kernel_rfl) rfl
    (fun ds hd => by
      rw [Try.params5] at hd
      match ds, hd with
      | [_, _], _ => exact ⟨rfl, rfl, rfl⟩)
    (ChangeSpec.witness6 (enc := enc) (C := Try.checked) false ⟨#[], #[.slice none 0 0, .slice none 0 0], []⟩ 8 (by kernel_rfl) (by kernel_rfl) (by kernel_rfl) (by kernel_rfl)) ?_
  intro W base args ds p hval0 hA0
  have hval : ∀ (j : Nat) t v, Try.f5.params[j]? = some t → args[j]? = some v → Value.okWide Try.prog W .any base t v := hval0
  have hA : DataW.TrodAll enc Try.prog W 0 (fun _ => true) true Try.f5.params.toList args.toList ds p := hA0
  rw [Try.params5] at hA hval
  obtain ⟨v0, vs0, d0, ds0, p0, q0, hargs, rfl, rfl, h0, r0⟩ := ChangeShapes.trodAll_cons hA
  obtain ⟨v1, vs1, d1, ds1, p1, q1, rfl, rfl, rfl, h1, r1⟩ := ChangeShapes.trodAll_cons r0
  obtain ⟨rfl, rfl, rfl⟩ := ChangeShapes.trodAll_nil r1
  obtain rfl : args = #[v0, v1] := by cases args; simp_all
  obtain ⟨sc, dc, rfl, hc, hcb, _, _⟩ := open_u8s (e := ty_uint8) (by kernel_rfl) (by kernel_rfl) (by kernel_rfl) (hval 0 _ _ rfl rfl) h0
  obtain ⟨sm, dm, rfl, hm, hmb, _, _⟩ := open_u8s (e := ty_uint8) (by kernel_rfl) (by kernel_rfl) (by kernel_rfl) (hval 1 _ _ rfl rfl) h1
  exact c_lawGrowth hc hcb hm hmb

theorem over_Growth : Rows.fnGrowthRow.holds Try.pinned (OpenSpec.ofChange Rows.fnGrowthSpec) :=
  OpenClaim.holds_of_wide 5 Try.f5 rfl rfl rfl rfl rfl rfl rfl ⟨rfl, rfl, rfl, rfl, rfl⟩ rfl rfl rfl rfl rfl (by kernel_rfl) Try.func5 (by kernel_rfl)
    (of_decide_eq_true (by kernel_rfl)) (by unfold Func.isWrapper; first | (rw [if_pos (by decide +kernel)]; kernel_rfl) | (rw [if_neg (by decide +kernel)]; exact ⟨rfl, rfl⟩))
    (fun os started H enc _ => lifted_Growth os started H enc)

/-- The given statement. -/
theorem growth_holds : Rows.FnGrowthSaid := over_Growth
#print axioms growth_holds
end Go.Proofs.Ytjmncaoddfggnaa
