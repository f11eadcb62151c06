/- Contracts of the hash: numbers in bytes, the program's mixing, blocks. Contracts of the hash: what stands behind the data. -/
import Derived.Test.YtkifkdkjljcclaaGreatPkLTor11
namespace Go.Proofs.YtkifkdkjljcclaaGreat
open Go.Sx Go.RowKit

theorem T_sl_uint8 : SlT Tryz.prog ty_sl_uint8 ty_uint8 1 1 := slT_of (by kernel_rfl)
theorem T_sl_arr32 : SlT Tryz.prog ty_sl_arr32_uint8 ty_arr32_uint8 32 32 := slT_of (by kernel_rfl)
theorem T_sl_sl_uint8 : SlT Tryz.prog ty_sl_sl_uint8 ty_sl_uint8 1 24 := slT_of (by kernel_rfl)

theorem bytesOk.take {l : List Int} (h : bytesOk l) (n : Nat) : bytesOk (l.take n) := fun b hb => h b (List.mem_of_mem_take hb)
theorem bytesOk.drop {l : List Int} (h : bytesOk l) (n : Nat) : bytesOk (l.drop n) := fun b hb => h b (List.mem_of_mem_drop hb)
theorem bytesOk.append {l k : List Int} (h : bytesOk l) (hk : bytesOk k) : bytesOk (l ++ k) := fun b hb => (List.mem_append.1 hb).elim (h b) (hk b)

theorem sl_cell {w : World} {s : Sl} {l : List Int} (h : SlAt w s 1 (u8s l)) {i : Nat} (hi : i < l.length) : ∃ p, s.a = some p ∧ w.cell? (p.add (i * 1)) = some (.int .u8 (l.getD i 0)) := by
  rw [Nat.mul_one]; exact h.cell i _ (u8s_get hi)
theorem sl_len {w : World} {s : Sl} {l : List Int} (h : SlAt w s 1 (u8s l)) : s.n = l.length := by have := h.len; simp at this; omega

theorem or_shift {x b : Int} {n : Nat} (h0 : 0 ≤ x) (hx : x < 2 ^ n) (hb : 0 ≤ b ∧ b < 256) (hn : n ≤ 56) : bitsI .or .u64 x (IntKind.wrap .u64 (b * 2 ^ n)) = x + b * 2 ^ n := by
  obtain ⟨m, rfl⟩ := Int.eq_ofNat_of_zero_le h0
  obtain ⟨c, rfl⟩ := Int.eq_ofNat_of_zero_le hb.1
  have hm : m < 2 ^ n := by exact_mod_cast hx
  have h1 : 2 ^ n ≤ 2 ^ 56 := Nat.pow_le_pow_right (by omega) hn
  have hc : c < 256 := by omega
  have h2 : c * 2 ^ n ≤ 255 * 2 ^ n := Nat.mul_le_mul_right _ (by omega)
  have e0 : ((c : Int) * 2 ^ n) = ((c * 2 ^ n : Nat) : Int) := by simp
  have e2 : IntKind.wrap .u64 ((c : Int) * 2 ^ n) = ((c * 2 ^ n : Nat) : Int) := by rw [e0, wrapu64 (by omega) (by omega)]
  rw [e2, bitsI_or (by rw [show IntKind.bits .u64 = 64 from rfl]; omega) (by rw [show IntKind.bits .u64 = 64 from rfl]; omega), Nat.or_comm, or_add hm, wrapu64 (by omega) (by omega)]
  simp
  omega

def vLE (l : List Int) : Nat → Int
  | 0 => 0
  | k + 1 => vLE l k + l.getD k 0 * 2 ^ (8 * k)
theorem vLE_bd {l : List Int} (h : bytesOk l) : ∀ k, 0 ≤ vLE l k ∧ vLE l k < 2 ^ (8 * k)
  | 0 => by simp [vLE]
  | k + 1 => by
    have ih := vLE_bd h k
    have hb := h.get k
    have h1 : l.getD k 0 * 2 ^ (8 * k) ≤ 255 * 2 ^ (8 * k) := Int.mul_le_mul_of_nonneg_right (by omega) (Int.le_of_lt (Int.pow_pos (by omega)))
    have h0 : 0 ≤ l.getD k 0 * 2 ^ (8 * k) := Int.mul_nonneg hb.1 (Int.le_of_lt (Int.pow_pos (by omega)))
    have e : (2 : Int) ^ (8 * (k + 1)) = 256 * 2 ^ (8 * k) := by rw [show 8 * (k + 1) = 8 * k + 8 by omega, Int.pow_add]; omega
    simp only [vLE, e]
    omega

theorem c_littleNumber {s : Sl} {l : List Int} {w : World} (hs : SlAt w s 1 (u8s l)) (hb : bytesOk l) (hl : l.length ≤ 8) :
    Ret Tryz.prog n_impl_littleNumber [.slice s.a s.n s.c] w [.int .u64] (fun v _ => v = vLE l l.length) := impl_littleNumber_calls s (by
  unfold impl_littleNumber
  have hn := sl_len hs
  refine r_loop (σ := Int × Int) (fun i w' => ∃ k : Nat, i = (vLE l k, (k : Int)) ∧ k ≤ l.length ∧ At w w' []) (fun i _ => (l.length - i.2).toNat) (0, 0) rfl ⟨0, rfl, by omega, At.refl w⟩ ?_
  rintro i w1 ⟨k, rfl, hk, h⟩
  refine r_any fun _ => ?_
  refine r_if ((k : Int) < (s.n : Int)) rfl (fun hlt => ?_) (fun hge => ?_)
  · obtain ⟨p, hp, hc⟩ := sl_cell hs (i := k) (by omega)
    refine r_ix p hp (by omega) (by omega) ?_
    refine r_ldO h (l.getD k 0) hc (by simp) ?_
    have e1 : IntKind.wrap .i64 (8 * (k : Int)) = ((8 * k : Nat) : Int) := by rw [w64 (by omega) (by omega)]; omega
    refine r_pur _ (fun w' => run_shl (by rw [e1]; omega) w') ?_
    refine ⟨(vLE l (k + 1), ((k + 1 : Nat) : Int)), ?_, ⟨k + 1, rfl, by omega, h⟩, by simp; omega⟩
    have hb' := hb.get k
    have hv := vLE_bd hb k
    rw [e1, wrapu64 (n := l.getD k 0) (by omega) (by omega), show min ((8 * k : Nat) : Int).toNat (IntKind.bits .u64) = 8 * k by rw [show IntKind.bits .u64 = 64 from rfl]; omega, or_shift hv.1 hv.2 hb' (by omega), w64 (by omega) (by omega)]
    rfl
  · have : k = l.length := by omega
    subst this
    exact r_ret h _ rfl rfl)

theorem vLE4 (a b c d : Int) : vLE [a, b, c, d] 4 = word4 a b c d := by simp [vLE, word4]; omega

theorem take4 {bl : List Int} {k : Nat} (h : 4 * k + 4 ≤ bl.length) : (bl.drop (4 * k)).take 4 = [bl.getD (4 * k) 0, bl.getD (4 * k + 1) 0, bl.getD (4 * k + 2) 0, bl.getD (4 * k + 3) 0] := by
  apply List.ext_getElem?
  intro j
  rw [List.getElem?_take]
  by_cases hj : j < 4
  · rw [if_pos hj, List.getElem?_drop]
    have hlt : 4 * k + j < bl.length := by omega
    have : j = 0 ∨ j = 1 ∨ j = 2 ∨ j = 3 := by omega
    have hg : ∀ i, i < bl.length → bl[i]? = some (bl.getD i 0) := fun i hi => by simp [List.getD, hi]
    rcases this with rfl | rfl | rfl | rfl <;> exact hg _ hlt
  · rw [if_neg hj]
    rw [List.getElem?_eq_none (by simp; omega)]

theorem c_MixBlock (st bl : List Int) (hst : st.length = 8) (hbl : bl.length = 32) (hb : bytesOk bl) (w : World) :
    Ret Tryz.prog n_impl_MixBlock [.agg (u32s st).toArray, .agg (u8s bl).toArray] w [.agg] (fun cs _ => cs = (u32s (mixW st (wordsL bl))).toArray) := impl_MixBlock_calls _ _ (by
  unfold impl_MixBlock
  refine r_new (At.refl w) fun b2 w2 h => ?_
  refine r_new h fun b3 w3 h => ?_
  refine r_new h fun b4 w4 h => ?_
  refine r_new h fun b5 w5 h => ?_
  refine r_stA h 0 rfl rfl (by simp) (by simp [Value.cells]) rep_one fun w6 h => ?_
  have hml : (wordsL bl).length = 8 := by simp [wordsL]
  obtain ⟨B, hB⟩ : ∃ B, B = List.replicate 8 (Value.int .u32 0) := ⟨_, rfl⟩
  have hB8 : B.length = 8 := by rw [hB]; rfl
  have hBA : B.toArray = Array.replicate 8 (Value.int .u32 0) := by rw [hB]; rfl
  have hlen : (u32s (wordsL bl)).length = B.length := by rw [u32s_len, hml, hB8]
  have hl8 : (u32s (wordsL bl)).length = 8 := by rw [u32s_len, hml]
  refine r_loop (σ := Int) (fun i w' => ∃ k : Nat, i = k ∧ k ≤ 8 ∧ At w w' [(b5, mix (u32s (wordsL bl)) B k, ty_arr8_uint32), (b4, Array.replicate 8 (.int .u32 0), ty_arr8_uint32), (b3, (u8s bl).toArray, ty_arr32_uint8), (b2, (u32s st).toArray, ty_arr8_uint32)]) (fun i _ => (8 - i).toNat) 0 rfl
    ⟨0, rfl, by omega, by rw [mix_zero, hBA]; exact h⟩ ?_
  rintro i0 w7 ⟨k, rfl, hk, h⟩
  refine r_any fun _ => ?_
  refine r_if ((k : Int) < 8) rfl (fun hlt => ?_) (fun hge => ?_)
  · have e1 : IntKind.wrap .i64 (4 * (k : Int)) = ((4 * k : Nat) : Int) := by rw [w64 (by omega) (by omega)]; omega
    have e2 : IntKind.wrap .i64 (IntKind.wrap .i64 (4 * (k : Int)) + 4) = ((4 * k + 4 : Nat) : Int) := by rw [e1, w64 (by omega) (by omega)]; omega
    have hsz : (mix (u32s (wordsL bl)) B k).size = 8 := by rw [mix_size hlen (by omega)]; exact hl8
    have hsl : SlAt w7 ⟨some ⟨b3, 0, none⟩, 32, 32⟩ 1 (u8s bl) := h.sl 2 (o := 0) rfl rfl (by rw [u8s_len, hbl]; rfl) (by simp only [List.drop_zero]; exact List.take_length)
    refine r_slS hsl (by omega) (4 * k) (4 * k + 4) (by rw [e1]; rfl) (by rw [e2]; rfl) (by omega) (by omega) (by omega) fun y hyn _ hy => ?_
    have hy' : SlAt w7 y 1 (u8s ((bl.drop (4 * k)).take 4)) := by
      have : 4 * k + 4 - 4 * k = 4 := by omega
      rw [this] at hy
      simpa [u8s, List.map_take, List.map_drop] using hy
    refine r_call h (c_littleNumber hy' ((hb.drop _).take _) (by simp; omega)) fun v w8 h _ hv => ?_
    subst hv
    refine r_ix ⟨b5, 0, none⟩ rfl (by omega) (by omega) ?_
    refine r_st h 0 rfl (add_lit _ _ _) (by simp only [Int.toNat_natCast]; omega) rfl fun w9 h => ?_
    refine ⟨((k + 1 : Nat) : Int), by rw [w64 (by omega) (by omega)]; rfl, ⟨k + 1, rfl, by omega, ?_⟩, by omega⟩
    have hset := mix_set (A := u32s (wordsL bl)) (B := B) hlen (k := k) (v := .int .u32 (IntKind.wrap .u32 (vLE ((bl.drop (4 * k)).take 4) ((bl.drop (4 * k)).take 4).length))) (by
      rw [u32s_get (by rw [hml]; omega), take4 (by omega)]
      have hk' : k < 8 := by omega
      have hw : (wordsL bl).getD k 0 = word4 (bl.getD (4 * k) 0) (bl.getD (4 * k + 1) 0) (bl.getD (4 * k + 2) 0) (bl.getD (4 * k + 3) 0) := by simp [wordsL, List.getD, hk']
      have hb0 := hb.get (4 * k)
      have hb1 := hb.get (4 * k + 1)
      have hb2 := hb.get (4 * k + 2)
      have hb3 := hb.get (4 * k + 3)
      rw [show [bl.getD (4 * k) 0, bl.getD (4 * k + 1) 0, bl.getD (4 * k + 2) 0, bl.getD (4 * k + 3) 0].length = 4 from rfl, vLE4, hw, wrapu32 (by unfold word4; omega) (by unfold word4; omega)])
    rw [← hset]
    simp only [Int.toNat_natCast, Nat.zero_add, Nat.mul_one, List.set_cons_zero] at h
    exact h
  have : k = 8 := by omega
  subst this
  have e8 : mix (u32s (wordsL bl)) B 8 = (u32s (wordsL bl)).toArray := by
    have := mix_all (A := u32s (wordsL bl)) (B := B) (by omega)
    rwa [hl8] at this
  rw [e8] at h
  refine r_ldA h 3 rfl rfl (by simp [hst]) ?_
  refine r_new h fun b8 w11 h => ?_
  refine r_stA h 0 rfl rfl (by simp [hst]) (by simp [Value.cells]) (by simpa using u32s_one) fun w12 h => ?_
  generalize wordsL bl = m at h hml
  refine r_loop (σ := Int) (fun i w' => ∃ r : Nat, i = r ∧ r ≤ 12 ∧ At w w' [(b8, (u32s (mixN m r st)).toArray, ty_arr8_uint32), (b5, (u32s m).toArray, ty_arr8_uint32), (b4, Array.replicate 8 (.int .u32 0), ty_arr8_uint32), (b3, (u8s bl).toArray, ty_arr32_uint8), (b2, (u32s st).toArray, ty_arr8_uint32)]) (fun i _ => (12 - i).toNat) 0 rfl
    ⟨0, rfl, by omega, h⟩ ?_
  rintro i1 w1 ⟨r, rfl, hr, h1⟩
  refine r_any fun _ => ?_
  have hlr : (mixN m r st).length = 8 := by rw [mixN_len, hst]
  refine r_if ((r : Int) < 12) rfl (fun hlt => ?_) (fun hge => ?_)
  · refine r_loop (σ := Int) (fun i w' => ∃ k : Nat, i = k ∧ k ≤ 8 ∧ At w w' [(b8, (u32s (mixR m r k (mixN m r st))).toArray, ty_arr8_uint32), (b5, (u32s m).toArray, ty_arr8_uint32), (b4, Array.replicate 8 (.int .u32 0), ty_arr8_uint32), (b3, (u8s bl).toArray, ty_arr32_uint8), (b2, (u32s st).toArray, ty_arr8_uint32)]) (fun i _ => (8 - i).toNat) 0 rfl
      ⟨0, rfl, by omega, h1⟩ ?_
    rintro i2 w2 ⟨k, rfl, hk, h2⟩
    refine r_any fun _ => ?_
    generalize hs : mixR m r k (mixN m r st) = s at h2
    have hls : s.length = 8 := by rw [← hs, mixR_len, hlr]
    refine r_if ((k : Int) < 8) rfl (fun hlt2 => ?_) (fun hge2 => ?_)
    · refine r_draw h2 fun w3 h3 => ?_
      refine r_ix ⟨b8, 0, none⟩ rfl (by omega) (by omega) ?_
      refine r_ld h3 0 rfl (add_lit _ _ _) (s.getD k 0) (by simp [Sh.emb]) (by simp only [Int.toNat_natCast, Nat.zero_add, Nat.mul_one]; exact u32s_arr (by omega)) ?_
      have e1 : IntKind.wrap .i64 ((k : Int) + IntKind.wrap .i64 (3 * (r : Int))) = ((k + 3 * r : Nat) : Int) := by rw [w64 (n := 3 * (r : Int)) (by omega) (by omega), w64 (by omega) (by omega)]; omega
      rw [e1, tmod8]
      refine r_ix ⟨b5, 0, none⟩ rfl (by omega) (by omega) ?_
      refine r_ld h3 1 rfl (add_lit _ _ _) (m.getD ((k + 3 * r) % 8) 0) (by simp [Sh.emb]) (by simp only [Int.toNat_natCast, Nat.zero_add, Nat.mul_one]; exact u32s_arr (by omega)) ?_
      refine r_draw h3 fun w4 h4 => ?_
      refine r_callQ (c_Rotate7 _) ?_
      have e2 : IntKind.wrap .i64 ((k : Int) + 1) = ((k + 1 : Nat) : Int) := by rw [w64 (by omega) (by omega)]; omega
      have e5 : IntKind.wrap .i64 ((k : Int) + 5) = ((k + 5 : Nat) : Int) := by rw [w64 (by omega) (by omega)]; omega
      rw [e2, tmod8]
      refine r_ix ⟨b8, 0, none⟩ rfl (by omega) (by omega) ?_
      refine r_ld h4 0 rfl (add_lit _ _ _) (s.getD ((k + 1) % 8) 0) (by simp [Sh.emb]) (by simp only [Int.toNat_natCast, Nat.zero_add, Nat.mul_one]; exact u32s_arr (by omega)) ?_
      rw [e5, tmod8]
      refine r_ix ⟨b8, 0, none⟩ rfl (by omega) (by omega) ?_
      refine r_ld h4 0 rfl (add_lit _ _ _) (s.getD ((k + 5) % 8) 0) (by simp [Sh.emb]) (by simp only [Int.toNat_natCast, Nat.zero_add, Nat.mul_one]; exact u32s_arr (by omega)) ?_
      refine r_callp (c_Rotate13 _) ?_
      refine r_ix ⟨b8, 0, none⟩ rfl (by omega) (by omega) ?_
      refine r_st h4 0 rfl (add_lit _ _ _) (by simp [hls]; omega) rfl fun w5 h5 => ?_
      refine ⟨((k + 1 : Nat) : Int), rfl, ⟨k + 1, rfl, by omega, ?_⟩, by omega⟩
      have e3 : IntKind.wrap .i64 (IntKind.wrap .i64 (IntKind.wrap .i64 (8 * (r : Int)) + (k : Int)) + 1) = 8 * (r : Int) + k + 1 := by
        rw [w64 (n := 8 * (r : Int)) (by omega) (by omega), w64 (n := 8 * (r : Int) + k) (by omega) (by omega), w64 (by omega) (by omega)]
      rw [e3] at h5
      simp only [Int.toNat_natCast, Nat.zero_add, Nat.mul_one, List.set_cons_zero, u32s_set] at h5
      rw [mixR, hs, stepW]
      exact h5
    · have : k = 8 := by omega
      subst this
      refine ⟨((r + 1 : Nat) : Int), by rw [w64 (by omega) (by omega)]; rfl, ⟨r + 1, rfl, by omega, ?_⟩, by omega⟩
      rw [mixN, hs]
      exact h2
  · have : r = 12 := by omega
    subst this
    have hfin : mixW st m = xorL (mixN m 12 st) st := rfl
    generalize hs : mixN m 12 st = s at h1 hlr hfin
    have hx : (xorL s st).length = 8 := by simp [xorL]
    have hlen : (u32s (xorL s st)).length = (u32s s).length := by simp [hx, hlr]
    refine r_loop (σ := Int) (fun i w' => ∃ k : Nat, i = k ∧ k ≤ 8 ∧ At w w' [(b8, mix (u32s (xorL s st)) (u32s s) k, ty_arr8_uint32), (b5, (u32s m).toArray, ty_arr8_uint32), (b4, Array.replicate 8 (.int .u32 0), ty_arr8_uint32), (b3, (u8s bl).toArray, ty_arr32_uint8), (b2, (u32s st).toArray, ty_arr8_uint32)]) (fun i _ => (8 - i).toNat) 0 rfl
      ⟨0, rfl, by omega, by rw [mix_zero]; exact h1⟩ ?_
    rintro i2 w2 ⟨k, rfl, hk, h2⟩
    refine r_any fun _ => ?_
    refine r_if ((k : Int) < 8) rfl (fun hlt2 => ?_) (fun hge2 => ?_)
    · refine r_draw h2 fun w3 h3 => ?_
      refine r_ix ⟨b8, 0, none⟩ rfl (by omega) (by omega) ?_
      refine r_ld h3 0 rfl (add_lit _ _ _) (s.getD k 0) (by simp [Sh.emb]) (by simp only [Int.toNat_natCast, Nat.zero_add, Nat.mul_one]; exact (mix_get hlen (by simp; omega)).trans (u32s_get (by omega))) ?_
      refine r_ix ⟨b2, 0, none⟩ rfl (by omega) (by omega) ?_
      refine r_ld h3 4 rfl (add_lit _ _ _) (st.getD k 0) (by simp [Sh.emb]) (by simp only [Int.toNat_natCast, Nat.zero_add, Nat.mul_one]; exact u32s_arr (by omega)) ?_
      refine r_ix ⟨b8, 0, none⟩ rfl (by omega) (by omega) ?_
      refine r_st h3 0 rfl (add_lit _ _ _) (by rw [mix_size hlen (by simp [hx]; omega)]; simp [hx]; omega) rfl fun w4 h4 => ?_
      refine ⟨((k + 1 : Nat) : Int), by rw [w64 (by omega) (by omega)]; rfl, ⟨k + 1, rfl, by omega, ?_⟩, by omega⟩
      have hset := mix_set (A := u32s (xorL s st)) (B := u32s s) hlen (k := k) (v := .int .u32 (bitsI .xor .u32 (s.getD k 0) (st.getD k 0))) (xorL_get (by omega))
      rw [← hset]
      simpa using h4
    · have : k = 8 := by omega
      subst this
      have e8 : mix (u32s (xorL s st)) (u32s s) 8 = (u32s (xorL s st)).toArray := by
        have := mix_all (A := u32s (xorL s st)) (B := u32s s) (by simp [hx, hlr])
        simpa [hx] using this
      rw [e8, ← hfin] at h2
      have hmx : (mixW st m).length = 8 := by rw [hfin]; exact hx
      refine r_ldA h2 0 rfl rfl (by simp [hmx]) ?_
      refine r_stA h2 2 rfl rfl (by simp [hmx]) (by simp) (by simpa using u32s_one) fun w6 h6 => ?_
      refine r_ldA h6 2 rfl rfl (by simp [hmx]) ?_
      exact r_ret h6 _ rfl rfl)

theorem mixW_len (st m : List Int) : (mixW st m).length = 8 := by simp [mixW, xorL]

theorem c_l01Block {s : Sl} {l : List Int} {w : World} (hs : SlAt w s 1 (u8s l)) (at' : Nat) (hat : at' + 32 ≤ l.length) (hmax : l.length ≤ 140737488355328) :
    Ret Tryz.prog n_spec_l01Block [.slice s.a s.n s.c, .int .i64 (at' : Int)] w [.agg] (fun cs _ => cs = (u8s ((l.drop at').take 32)).toArray) := spec_l01Block_calls s at' (by
  unfold spec_l01Block
  have hn := sl_len hs
  refine r_new (At.refl w) fun b4 w2 h => ?_
  refine r_new h fun b5 w3 h => ?_
  refine r_stA h 0 rfl rfl (by simp) (by simp [Value.cells]) rep_one fun w6 h => ?_
  obtain ⟨A, hA⟩ : ∃ A, A = (l.drop at').take 32 := ⟨_, rfl⟩
  have hA32 : A.length = 32 := by rw [hA]; simp; omega
  obtain ⟨B, hB⟩ : ∃ B, B = List.replicate 32 (Value.int .u8 0) := ⟨_, rfl⟩
  have hB8 : B.length = 32 := by rw [hB, List.length_replicate]
  have hBA : B.toArray = Array.replicate 32 (Value.int .u8 0) := by rw [hB]; rfl
  have hlen : (u8s A).length = B.length := by rw [u8s_len, hA32, hB8]
  rw [← hA]
  refine r_loop (σ := Int) (fun i w' => ∃ k : Nat, i = k ∧ k ≤ 32 ∧ At w w' [(b5, mix (u8s A) B k, ty_arr32_uint8), (b4, Array.replicate 32 (.int .u8 0), ty_arr32_uint8)]) (fun i _ => (32 - i).toNat) 0 rfl
    ⟨0, rfl, by omega, by rw [mix_zero, hBA]; exact h⟩ ?_
  rintro i0 w7 ⟨k, rfl, hk, h⟩
  refine r_any fun _ => ?_
  refine r_if ((k : Int) < 32) rfl (fun hlt => ?_) (fun hge => ?_)
  · have e1 : IntKind.wrap .i64 ((at' : Int) + (k : Int)) = ((at' + k : Nat) : Int) := by rw [w64 (by omega) (by omega)]; omega
    rw [e1]
    obtain ⟨p, hp, hc⟩ := sl_cell hs (i := at' + k) (by omega)
    refine r_ix p hp (by omega) (by omega) ?_
    refine r_ldO h (l.getD (at' + k) 0) (by simp only [Int.toNat_natCast]; exact hc) (by simp) ?_
    have hsz : (mix (u8s A) B k).size = 32 := by rw [mix_size hlen (by rw [u8s_len]; omega), u8s_len, hA32]
    refine r_ix ⟨b5, 0, none⟩ rfl (by omega) (by omega) ?_
    refine r_st h 0 rfl (add_lit _ _ _) (by simp only [Int.toNat_natCast]; omega) rfl fun w9 h => ?_
    refine ⟨((k + 1 : Nat) : Int), by rw [w64 (by omega) (by omega)]; rfl, ⟨k + 1, rfl, by omega, ?_⟩, by omega⟩
    have hset := mix_set (A := u8s A) (B := B) hlen (k := k) (v := .int .u8 (l.getD (at' + k) 0)) (by
      rw [u8s_get (by omega)]
      have hk' : k < 32 := by omega
      have : A.getD k 0 = l.getD (at' + k) 0 := by rw [hA]; simp [List.getD, hk']
      rw [this])
    rw [← hset]
    simp only [Int.toNat_natCast, Nat.zero_add, Nat.mul_one, List.set_cons_zero] at h
    exact h
  · have : k = 32 := by omega
    subst this
    have e8 : mix (u8s A) B 32 = (u8s A).toArray := by
      have := mix_all (A := u8s A) (B := B) (by omega)
      rwa [u8s_len, hA32] at this
    rw [e8] at h
    refine r_ldA h 0 rfl rfl (by simp [hA32]) ?_
    refine r_stA h 1 rfl rfl (by simp [hA32]) (by simp) (by simpa using u8s_one) fun w6 h => ?_
    refine r_ldA h 1 rfl rfl (by simp [hA32]) ?_
    exact r_ret h _ rfl rfl)

end Go.Proofs.YtkifkdkjljcclaaGreat

namespace Go.Proofs.YtkifkdkjljcclaaGreat
open Go.Sx Go.RowKit

def leB (n : Int) (k : Nat) : List Int := (List.range k).map fun i => n / 2 ^ (8 * i) % 256
@[simp] theorem leB_len (n : Int) (k : Nat) : (leB n k).length = k := by simp [leB]
theorem leB_succ (n : Int) (k : Nat) : leB n (k + 1) = leB n k ++ [n / 2 ^ (8 * k) % 256] := by simp [leB, List.range_succ]
theorem leB_ok (n : Int) (k : Nat) : bytesOk (leB n k) := by
  intro b hb
  simp only [leB, List.mem_map] at hb
  obtain ⟨i, _, rfl⟩ := hb
  omega
theorem u8s_append (a b : List Int) : u8s (a ++ b) = u8s a ++ u8s b := by simp [u8s]
theorem u8s_one1 (b : Int) : u8s [b] = [Value.int .u8 b] := rfl
theorem wrapu8 (n : Int) : IntKind.wrap .u8 n = n % 256 := by simp [IntKind.wrap, IntKind.bits, IntKind.signed]

def SlR (w0 : World) (ls : List Blk) (e z : Nat) (xs : List Value) (n : Nat) (v : Value) (w' : World) : Prop := ∃ s' : Sl, v = .slice s'.a s'.n s'.c ∧ SlO w0 w' ls e z s' xs ∧ s'.n = n

theorem c_appendLittle {w0 w : World} {ls : List Blk} {s : Sl} {xs : List Value} (hS : SlO w0 w ls ty_uint8 1 s xs) {n : Int} (hn : 0 ≤ n) (k : Nat) (hk : k ≤ 8) (hmax : s.n ≤ 70368744177664) :
    Calls Tryz.prog n_impl_appendLittle [.slice s.a s.n s.c, .int .u64 n, .int .i64 (k : Int)].toArray w fun e w' => ∃ v, e = .returned v ∧ SlR w0 ls ty_uint8 1 (xs ++ u8s (leB n k)) (s.n + k) v w' := impl_appendLittle_calls s n k (by
  unfold impl_appendLittle
  refine r_loop (σ := Sl × Int) (fun i w' => ∃ j : Nat, i.2 = j ∧ j ≤ k ∧ SlO w0 w' ls ty_uint8 1 i.1 (xs ++ u8s (leB n j)) ∧ i.1.n = s.n + j) (fun i _ => (k - i.2).toNat) (s, 0) rfl
    ⟨0, rfl, by omega, by simpa [leB, u8s] using hS, rfl⟩ ?_
  rintro ⟨s1, i⟩ w1 ⟨j, hi, hj, h, hsn⟩
  simp only at hi h hsn
  subst hi
  refine r_any fun _ => ?_
  dsimp only
  refine r_if ((j : Int) < (k : Int)) rfl (fun hlt => ?_) (fun hge => ?_)
  · have e1 : IntKind.wrap .i64 (8 * (j : Int)) = ((8 * j : Nat) : Int) := by rw [w64 (by omega) (by omega)]; omega
    refine r_pur _ (fun w' => run_shr (by rw [e1]; omega) w') ?_
    refine r_push T_sl_uint8 h rfl (by omega) (by simp [Value.cells, oneC]) (by omega) (by omega) fun s2 w2 h2 hn2 => ?_
    refine ⟨(s2, ((j + 1 : Nat) : Int)), by rw [w64 (by omega) (by omega)]; rfl, ⟨j + 1, rfl, by omega, ?_, by show s2.n = _; omega⟩, by dsimp only; omega⟩
    have hv : IntKind.wrap .u8 (n.fdiv (2 ^ min (IntKind.wrap .i64 (8 * (j : Int))).toNat (IntKind.bits .u64))) = n / 2 ^ (8 * j) % 256 := by
      rw [e1, show min ((8 * j : Nat) : Int).toNat (IntKind.bits .u64) = 8 * j by rw [show IntKind.bits .u64 = 64 from rfl]; omega, wrapu8, Int.fdiv_eq_ediv_of_nonneg _ (Int.le_of_lt (Int.pow_pos (by omega)))]
    rw [leB_succ, u8s_append, u8s_one1, ← List.append_assoc]
    rw [hv] at h2
    exact h2
  · have : j = k := by omega
    subst this
    exact ⟨s1, rfl, h, hsn⟩)

theorem c_size_byte (s : Sl) : RetP Tryz.prog n_impl_size_byte [.slice s.a s.n s.c] [.int .i64] (s.n : Int) := fun w => impl_size_byte_calls s (by
  unfold impl_size_byte
  exact r_retP rfl)

theorem tmod32 (n : Nat) : Int.tmod (n : Int) 32 = ((n % 32 : Nat) : Int) := by rw [Int.tmod_eq_emod_of_nonneg (by omega)]; rfl

def padZ (m : Nat) : Nat := (56 - m % 32) % 32
def padT (m : Nat) (len : Int) : List Int := 128 :: (List.replicate (padZ (m + 1)) 0 ++ leB len 8)
theorem padT_len (m : Nat) (len : Int) : (padT m len).length = padZ (m + 1) + 9 := by simp [padT]
theorem padT_mod (m : Nat) (len : Int) : (m + (padT m len).length) % 32 = 0 := by rw [padT_len]; unfold padZ; omega
theorem padT_ok (m : Nat) (len : Int) : bytesOk (padT m len) := by
  intro b hb
  simp only [padT, List.mem_cons, List.mem_append, List.mem_replicate] at hb
  rcases hb with rfl | ⟨_, rfl⟩ | hb
  · omega
  · omega
  · exact leB_ok _ _ b hb

theorem rep_snoc (j : Nat) (x : List Int) : x ++ List.replicate (j + 1) (0 : Int) = (x ++ List.replicate j 0) ++ [0] := by rw [List.replicate_succ', List.append_assoc]

theorem c_padding (n : Nat) (hn : n ≤ 70368744177664) (w : World) : Ret Tryz.prog n_impl_padding [.int .i64 (n : Int)] w [.slice] (fun s w' => SlO w w' [] ty_uint8 1 s (u8s (padT n n)) ∧ s.n = (padT n n).length) := impl_padding_calls n (by
  unfold impl_padding
  refine r_bs1 T_sl_uint8 (At.refl w) rfl (by omega) fun s1 w1 h1 hn1 => ?_
  refine r_loop (σ := Sl) (fun s w' => ∃ j : Nat, j ≤ padZ (n + 1) ∧ SlO w w' [] ty_uint8 1 s (u8s ([128] ++ List.replicate j 0)) ∧ s.n = 1 + j) (fun s _ => padZ (n + 1) + 1 - s.n) s1 rfl
    ⟨0, by omega, by simpa [u8s, Value.cells] using h1, hn1⟩ ?_
  rintro s w2 ⟨j, hj, h, hsn⟩
  refine r_any fun _ => ?_
  refine r_callp (c_size_byte s) ?_
  have hz : padZ (n + 1) < 32 := by unfold padZ; omega
  have e1 : IntKind.wrap .i64 ((n : Int) + (s.n : Int)) = ((n + s.n : Nat) : Int) := by rw [w64 (by omega) (by omega)]; omega
  rw [e1, tmod32]
  refine r_ne (fun hne => ?_) (fun he => ?_)
  · have hne' : ¬ (n + s.n) % 32 = 24 := fun hh => hne (by omega)
    have hjlt : j < padZ (n + 1) := by unfold padZ at *; omega
    refine r_push T_sl_uint8 h rfl (by omega) (by simp [Value.cells, oneC]) (by omega) (by omega) fun s2 w3 h2 hn2 => ?_
    refine ⟨s2, rfl, ⟨j + 1, by omega, ?_, by omega⟩, by omega⟩
    rw [rep_snoc, u8s_append]
    exact h2
  · have he' : (n + s.n) % 32 = 24 := by omega
    have hjz : j = padZ (n + 1) := by unfold padZ at *; omega
    subst hjz
    rw [wrapu64 (by omega) (by omega)]
    refine r_callR (c_appendLittle h (n := (n : Int)) (by omega) 8 (by omega) (by omega)) ?_
    rintro v w4 ⟨s', rfl, hs', hn'⟩
    refine ⟨s', rfl, r_ret hs'.at_ s' rfl ⟨?_, by rw [padT_len]; omega⟩⟩
    rw [← u8s_append] at hs'
    simpa [padT] using hs')

theorem tmod256 {n : Int} (h : 0 ≤ n) : Int.tmod n 256 = n % 256 := Int.tmod_eq_emod_of_nonneg h

theorem c_l01Padded {s : Sl} {d : List Int} {w : World} (hs : SlAt w s 1 (u8s d)) (len : Int) (h0 : 0 ≤ len) (hl : len ≤ 9223372036854775807) (hmax : d.length ≤ 70368744177664) :
    Ret Tryz.prog n_spec_l01Padded [.slice s.a s.n s.c, .int .i64 len] w [.slice] (fun s' w' => SlO w w' [] ty_uint8 1 s' (u8s (d ++ padT d.length len)) ∧ s'.n = (d ++ padT d.length len).length) := spec_l01Padded_calls s len (by
  unfold spec_l01Padded
  have hn := sl_len hs
  refine r_bs0 T_sl_uint8 (At.refl w) fun s1 w1 h1 hn1 => ?_
  refine r_append T_sl_uint8 h1 (hs.at h1.at_) u8s_one (by omega) (by omega) fun s2 w2 h2 hn2 => ?_
  refine r_push T_sl_uint8 h2 rfl (by omega) (by simp [Value.cells, oneC]) (by omega) (by omega) fun s3 w3 h3 hn3 => ?_
  refine r_loop (σ := Sl) (fun s w' => ∃ j : Nat, j ≤ padZ (d.length + 1) ∧ SlO w w' [] ty_uint8 1 s (u8s ((d ++ [128]) ++ List.replicate j 0)) ∧ s.n = d.length + 1 + j) (fun s _ => d.length + padZ (d.length + 1) + 1 - s.n) s3 rfl
    ⟨0, by omega, by simpa [u8s, Value.cells] using h3, by omega⟩ ?_
  rintro s4 w4 ⟨j, hj, h, hsn⟩
  refine r_any fun _ => ?_
  have hz : padZ (d.length + 1) < 32 := by unfold padZ; omega
  rw [tmod32]
  refine r_ne (fun hne => ?_) (fun he => ?_)
  · have hne' : ¬ s4.n % 32 = 24 := fun hh => hne (by omega)
    have hjlt : j < padZ (d.length + 1) := by unfold padZ at *; omega
    refine r_push T_sl_uint8 h rfl (by omega) (by simp [Value.cells, oneC]) (by omega) (by omega) fun s5 w5 h5 hn5 => ?_
    refine ⟨s5, rfl, ⟨j + 1, by omega, ?_, by omega⟩, by omega⟩
    rw [rep_snoc, u8s_append]
    exact h5
  · have he' : s4.n % 32 = 24 := by omega
    have hjz : j = padZ (d.length + 1) := by unfold padZ at *; omega
    subst hjz
    refine r_loop (σ := Int × Sl × Int) (fun i w' => ∃ k : Nat, i.1 = len / 2 ^ (8 * k) ∧ i.2.2 = k ∧ k ≤ 8 ∧ SlO w w' [] ty_uint8 1 i.2.1 (u8s ((d ++ [128]) ++ List.replicate (padZ (d.length + 1)) 0 ++ leB len k)) ∧ i.2.1.n = d.length + 1 + padZ (d.length + 1) + k) (fun i _ => (8 - i.2.2).toNat) (len, s4, 0) rfl
      ⟨0, by simp, rfl, by omega, by simpa [leB] using h, hsn⟩ ?_
    rintro ⟨l, s5, i⟩ w5 ⟨k, hl5, hi, hk, h5, hn5⟩
    simp only at hl5 hi h5 hn5
    subst hi
    refine r_any fun _ => ?_
    dsimp only
    have hpos : (0 : Int) < 2 ^ (8 * k) := Int.pow_pos (by omega)
    have hl0 : 0 ≤ l := by rw [hl5]; exact Int.ediv_nonneg h0 (by omega)
    have hlle : l ≤ len := by rw [hl5]; exact Int.ediv_le_self _ h0
    refine r_if ((k : Int) < 8) rfl (fun hlt => ?_) (fun hge => ?_)
    · refine r_push T_sl_uint8 h5 rfl (by omega) (by simp [Value.cells, oneC]) (by omega) (by omega) fun s6 w6 h6 hn6 => ?_
      refine ⟨(len / 2 ^ (8 * (k + 1)), s6, ((k + 1 : Nat) : Int)), ?_, ⟨k + 1, rfl, rfl, by omega, ?_, by show s6.n = _; omega⟩, by dsimp only; omega⟩
      · have e2 : len / 2 ^ (8 * (k + 1)) = l / 256 := by rw [hl5, show 8 * (k + 1) = 8 * k + 8 by omega, Int.pow_add, Int.ediv_ediv_of_nonneg (by omega)]; rfl
        rw [e2, Int.tdiv_eq_ediv_of_nonneg hl0, w64 (n := l / 256) (by omega) (by omega), w64 (n := (k : Int) + 1) (by omega) (by omega)]
        rfl
      · have hv : IntKind.wrap .u8 (Int.tmod l 256) = len / 2 ^ (8 * k) % 256 := by rw [tmod256 hl0, wrapu8, hl5]; omega
        rw [hv] at h6
        rw [leB_succ, ← List.append_assoc, u8s_append, u8s_one1]
        exact h6
    · have : k = 8 := by omega
      subst this
      refine r_ret h5.at_ s5 rfl ⟨?_, by rw [List.length_append, padT_len]; omega⟩
      simpa [padT] using h5)

end Go.Proofs.YtkifkdkjljcclaaGreat
