/- Contracts of the hash: words, mixing. -/
import Derived.Test.YtkifkdkjljcclaaGreatPkLTor04
import Derived.Test.YtkifkdkjljcclaaGreatPkLTor10
namespace Go.Proofs.YtkifkdkjljcclaaGreat
open Go.Sx Go.RowKit

def u8s (l : List Int) : List Value := l.map (Value.int .u8)
def u32s (l : List Int) : List Value := l.map (Value.int .u32)
@[simp] theorem u8s_len (l : List Int) : (u8s l).length = l.length := by simp [u8s]
@[simp] theorem u32s_len (l : List Int) : (u32s l).length = l.length := by simp [u32s]
theorem u8s_one {l : List Int} : ∀ v ∈ u8s l, oneC v = true := by simp [u8s, oneC]
theorem u32s_one {l : List Int} : ∀ v ∈ u32s l, oneC v = true := by simp [u32s, oneC]
theorem u32s_get {l : List Int} {i : Nat} (h : i < l.length) : (u32s l)[i]? = some (.int .u32 (l.getD i 0)) := by simp [u32s, h, List.getD]
theorem u8s_get {l : List Int} {i : Nat} (h : i < l.length) : (u8s l)[i]? = some (.int .u8 (l.getD i 0)) := by simp [u8s, h, List.getD]
theorem rep_one {n : Nat} {k : IntKind} {a : Int} : ∀ v ∈ (Array.replicate n (Value.int k a)).toList, oneC v = true := by simp [oneC]

def mix (A B : List Value) (k : Nat) : Array Value := (A.take k ++ B.drop k).toArray
theorem mix_zero (A B : List Value) : mix A B 0 = B.toArray := by simp [mix]
theorem mix_all {A B : List Value} (h : B.length ≤ A.length) : mix A B A.length = A.toArray := by simp [mix, List.drop_eq_nil_of_le h]
theorem mix_size {A B : List Value} (h : A.length = B.length) {k : Nat} (hk : k ≤ A.length) : (mix A B k).size = A.length := by simp [mix]; omega
theorem mix_set {A B : List Value} (h : A.length = B.length) {k : Nat} {v : Value} (hv : A[k]? = some v) : (mix A B k).setIfInBounds k v = mix A B (k + 1) := by
  have hk : k < A.length := by
    rcases Nat.lt_or_ge k A.length with h | h
    · exact h
    · rw [List.getElem?_eq_none h] at hv; cases hv
  unfold mix
  rw [List.setIfInBounds_toArray]
  congr 1
  apply List.ext_getElem?
  intro j
  simp only [List.getElem?_set, List.getElem?_append, List.length_take, List.getElem?_take, List.getElem?_drop, List.length_append, List.length_drop]
  by_cases hj : k = j
  · subst hj
    have h1 : k < min k A.length + (B.length - k) := by omega
    have h2 : k < min (k + 1) A.length := by omega
    simp [h1, h2, hv]
  · by_cases hj2 : j < k
    · have h2 : j < min (k + 1) A.length := by omega
      have h3 : j < min k A.length := by omega
      have h4 : j < k + 1 := by omega
      simp [hj, hj2, h2, h3, h4]
    · have h2 : ¬ j < min (k + 1) A.length := by omega
      have h3 : ¬ j < min k A.length := by omega
      simp only [hj, h2, h3, if_false]
      congr 1
      omega

theorem w64 {n : Int} (h0 : -9223372036854775808 ≤ n) (h1 : n ≤ 9223372036854775807) : IntKind.wrap .i64 n = n := IntWalk.i64_in n (by omega)

theorem u8s_arr {l : List Int} {i : Nat} (h : i < l.length) : (u8s l).toArray[i]? = some (.int .u8 (l.getD i 0)) := by simpa using u8s_get h
theorem set_get {A : Array Value} {k : Nat} {x : Value} (h : k < A.size) : (A.setIfInBounds k x)[k]? = some x := by
  rw [Array.getElem?_setIfInBounds]; simp [h]
theorem set_same {A : Array Value} {k : Nat} {x : Value} (h : A[k]? = some x) : A.setIfInBounds k x = A := by
  apply Array.ext_getElem?
  intro j
  rw [Array.getElem?_setIfInBounds]
  by_cases hj : k = j
  · subst hj
    have := (Array.getElem?_eq_some_iff.1 h).1
    rw [if_pos rfl, if_pos this, h]
  · simp [hj]
theorem set_set {A : Array Value} {k : Nat} {x y : Value} : (A.setIfInBounds k x).setIfInBounds k y = A.setIfInBounds k y := by simp

def startW (tag : Int) (i : Nat) : Int := IntKind.wrap .u32 (IntKind.wrap .u32 (16777619 * IntKind.wrap .u32 ((i : Int) + 1)) + IntKind.wrap .u32 tag)
def startL (tag : Int) : List Int := (List.range 8).map (startW tag)

theorem rep32 (n : Nat) (k : IntKind) : Array.replicate n (Value.int k 0) = (List.replicate n (Value.int k 0)).toArray := by simp

theorem startL_get (tag : Int) {k : Nat} (h : k < 8) : (u32s (startL tag))[k]? = some (.int .u32 (startW tag k)) := by
  simp [u32s, startL, h]

theorem start_body {w : World} (tag : Int) : (spec_l01Start (real Tryz.prog (RR w [.agg] fun cs _ => cs = (u32s (startL tag)).toArray)) tag : World → Prop) w := by
  unfold spec_l01Start
  refine r_new (At.refl w) fun b2 w2 h2 => ?_
  refine r_new h2 fun b3 w3 h3 => ?_
  refine r_stA h3 0 rfl rfl (by simp) (by simp [Value.cells]) rep_one fun w4 h4 => ?_
  have hlen : (u32s (startL tag)).length = (List.replicate 8 (Value.int .u32 0)).length := by simp [startL]
  refine r_loop (σ := Int) (fun i w' => ∃ k : Nat, i = k ∧ k ≤ 8 ∧ At w w' [(b3, mix (u32s (startL tag)) (List.replicate 8 (.int .u32 0)) k, ty_arr8_uint32), (b2, Array.replicate 8 (.int .u32 0), ty_arr8_uint32)]) (fun i _ => (8 - i).toNat) 0 rfl
    ⟨0, rfl, by omega, by rw [mix_zero, ← rep32]; exact h4⟩ ?_
  rintro i w5 ⟨k, rfl, hk, h5⟩
  refine r_any fun _ => ?_
  refine r_if ((k : Int) < 8) rfl (fun hlt => ?_) (fun hge => ?_)
  · refine r_ix ⟨b3, 0, none⟩ rfl (by omega) (by omega) ?_
    have hk8 : k < (startL tag).length := by simp [startL]; omega
    refine r_st h5 0 rfl (add_lit _ _ _) (by rw [mix_size hlen (by simp [startL]; omega)]; simp [startL]; omega) rfl fun w6 h6 => ?_
    refine ⟨(k : Int) + 1, by rw [w64 (by omega) (by omega)]; rfl, ⟨k + 1, by omega, by omega, ?_⟩, by omega⟩
    rw [w64 (by omega) (by omega)] at h6
    have := mix_set (A := u32s (startL tag)) (B := List.replicate 8 (.int .u32 0)) hlen (k := k) (startL_get tag (by omega))
    rw [← this]
    simpa [startW] using h6
  · have : k = 8 := by omega
    subst this
    have e8 : mix (u32s (startL tag)) (List.replicate 8 (.int .u32 0)) 8 = (u32s (startL tag)).toArray := by
      have := mix_all (A := u32s (startL tag)) (B := List.replicate 8 (.int .u32 0)) (by simp [startL])
      simpa [startL] using this
    rw [e8] at h5
    refine r_ldA h5 0 rfl rfl (by simp [startL]) ?_
    refine r_stA h5 1 rfl rfl (by simp [startL]) (by simp) (by simpa using u32s_one) fun w6 h6 => ?_
    refine r_ldA h6 1 rfl rfl (by simp [startL]) ?_
    exact r_ret h6 _ rfl rfl

theorem c_l01Start (tag : Int) (w : World) : Ret Tryz.prog n_spec_l01Start [.int .u8 tag] w [.agg] (fun cs _ => cs = (u32s (startL tag)).toArray) := spec_l01Start_calls tag (start_body tag)
theorem c_StartState (tag : Int) (w : World) : Ret Tryz.prog n_impl_StartState [.int .u8 tag] w [.agg] (fun cs _ => cs = (u32s (startL tag)).toArray) := impl_StartState_calls tag (start_body tag)

def rotl (x : Int) (n : Nat) : Int := bitsI .or .u32 (IntKind.wrap .u32 (x * 2 ^ n)) (x.fdiv (2 ^ (32 - n)))

theorem run_shl {P : Program} {t : TypeId} {x y : Operand} {k k' : IntKind} {a b : Int} (hb : 0 ≤ b) (w : World) : (eqB .shl t x y (.int k a) (.int k' b)).run P w = .ok (.int k (k.wrap (a * 2 ^ (min b.toNat k.bits)))) w := by
  have : ¬ b < 0 := by omega
  simp [eqB, eqGuard, binOp, Op.shift, this]
theorem run_shr {P : Program} {t : TypeId} {x y : Operand} {k k' : IntKind} {a b : Int} (hb : 0 ≤ b) (w : World) : (eqB .shr t x y (.int k a) (.int k' b)).run P w = .ok (.int k (a.fdiv (2 ^ (min b.toNat k.bits)))) w := by
  have : ¬ b < 0 := by omega
  simp [eqB, eqGuard, binOp, Op.shift, this]

theorem wrapu64 {n : Int} (h0 : 0 ≤ n) (h1 : n < 18446744073709551616) : IntKind.wrap .u64 n = n := by simp only [IntKind.wrap, IntKind.bits, IntKind.signed]; simp; omega

theorem c_Turn (x : Int) (n : Nat) (h0 : 0 < n) (hn : n < 32) : RetP Tryz.prog n_spec_l01Turn [.int .u32 x, .int .u64 (n : Int)] [.int .u32] (rotl x n) := fun w => spec_l01Turn_calls x n (by
  unfold spec_l01Turn
  refine r_pur _ (fun w' => run_shl (by omega) w') ?_
  rw [wrapu64 (by omega) (by omega)]
  refine r_pur _ (fun w' => run_shr (by omega) w') ?_
  refine r_retP ?_
  have e1 : min (n : Int).toNat (IntKind.bits .u32) = n := by rw [show IntKind.bits .u32 = 32 from rfl]; omega
  have e2 : min (32 - (n : Int)).toNat (IntKind.bits .u32) = 32 - n := by rw [show IntKind.bits .u32 = 32 from rfl]; omega
  rw [e1, e2]
  rfl)

theorem c_Rotate (x : Int) (n : Nat) (h0 : 0 < n) (hn : n < 32) (hb : bitsI .and .u64 (IntKind.wrap .u64 (n : Int)) 31 = n) : RetP Tryz.prog n_math_bits_RotateLeft32 [.int .u32 x, .int .i64 (n : Int)] [.int .u32] (rotl x n) := fun w => math_bits_RotateLeft32_calls x n (by
  unfold math_bits_RotateLeft32
  rw [hb]
  refine r_pur _ (fun w' => run_shl (by omega) w') ?_
  rw [wrapu64 (by omega) (by omega)]
  refine r_pur _ (fun w' => run_shr (by omega) w') ?_
  refine r_retP ?_
  have e1 : min (n : Int).toNat (IntKind.bits .u32) = n := by rw [show IntKind.bits .u32 = 32 from rfl]; omega
  have e2 : min (32 - (n : Int)).toNat (IntKind.bits .u32) = 32 - n := by rw [show IntKind.bits .u32 = 32 from rfl]; omega
  rw [e1, e2]
  rfl)
theorem c_Rotate7 (x : Int) : RetP Tryz.prog n_math_bits_RotateLeft32 [.int .u32 x, .int .i64 7] [.int .u32] (rotl x 7) := c_Rotate x 7 (by omega) (by omega) (by decide +kernel)
theorem c_Rotate13 (x : Int) : RetP Tryz.prog n_math_bits_RotateLeft32 [.int .u32 x, .int .i64 13] [.int .u32] (rotl x 13) := c_Rotate x 13 (by omega) (by omega) (by decide +kernel)
theorem c_Turn7 (x : Int) : RetP Tryz.prog n_spec_l01Turn [.int .u32 x, .int .u64 7] [.int .u32] (rotl x 7) := c_Turn x 7 (by omega) (by omega)
theorem c_Turn13 (x : Int) : RetP Tryz.prog n_spec_l01Turn [.int .u32 x, .int .u64 13] [.int .u32] (rotl x 13) := c_Turn x 13 (by omega) (by omega)

def stepW (m : List Int) (r i : Nat) (s : List Int) : List Int :=
  s.set i (IntKind.wrap .u32 (bitsI .xor .u32 (rotl (IntKind.wrap .u32 (IntKind.wrap .u32 (s.getD i 0 + m.getD ((i + 3 * r) % 8) 0) + IntKind.wrap .u32 (2654435769 * IntKind.wrap .u32 (8 * (r : Int) + i + 1)))) 7) (s.getD ((i + 1) % 8) 0) + rotl (s.getD ((i + 5) % 8) 0) 13))
def mixR (m : List Int) (r : Nat) : Nat → List Int → List Int
  | 0, s => s
  | i + 1, s => stepW m r i (mixR m r i s)
def mixN (m : List Int) : Nat → List Int → List Int
  | 0, s => s
  | r + 1, s => mixR m r 8 (mixN m r s)
theorem stepW_len (m : List Int) (r i : Nat) (s : List Int) : (stepW m r i s).length = s.length := by simp [stepW]
theorem mixR_len (m : List Int) (r : Nat) : ∀ (i : Nat) (s : List Int), (mixR m r i s).length = s.length
  | 0, _ => rfl
  | i + 1, s => by rw [mixR, stepW_len, mixR_len]
theorem mixN_len (m : List Int) : ∀ (r : Nat) (s : List Int), (mixN m r s).length = s.length
  | 0, _ => rfl
  | r + 1, s => by rw [mixN, mixR_len, mixN_len]
def xorL (s t : List Int) : List Int := (List.range 8).map fun i => bitsI .xor .u32 (s.getD i 0) (t.getD i 0)
def mixW (st m : List Int) : List Int := xorL (mixN m 12 st) st

theorem u32s_set (s : List Int) (i : Nat) (v : Int) : (u32s s).toArray.setIfInBounds i (.int .u32 v) = (u32s (s.set i v)).toArray := by simp [u32s, List.map_set]
theorem u32s_arr {s : List Int} {i : Nat} (h : i < s.length) : (u32s s).toArray[i]? = some (.int .u32 (s.getD i 0)) := by simpa using u32s_get h

theorem tmod8 (n : Nat) : Int.tmod (n : Int) 8 = ((n % 8 : Nat) : Int) := by rw [Int.tmod_eq_emod_of_nonneg (by omega)]; rfl

theorem mix_get {A B : List Value} (h : A.length = B.length) {k : Nat} (hk : k < A.length) : (mix A B k)[k]? = B[k]? := by
  simp only [mix, List.getElem?_toArray, List.getElem?_append, List.length_take]
  have h1 : ¬ k < min k A.length := by omega
  have h2 : k - min k A.length = 0 := by omega
  simp [h1, h2]

theorem xorL_get {s t : List Int} {k : Nat} (h : k < 8) : (u32s (xorL s t))[k]? = some (.int .u32 (bitsI .xor .u32 (s.getD k 0) (t.getD k 0))) := by simp [u32s, xorL, h]

def word4 (a b c d : Int) : Int := a + 256 * b + 65536 * c + 16777216 * d
def wordsL (bl : List Int) : List Int := (List.range 8).map fun i => word4 (bl.getD (4 * i) 0) (bl.getD (4 * i + 1) 0) (bl.getD (4 * i + 2) 0) (bl.getD (4 * i + 3) 0)
def bytesOk (l : List Int) : Prop := ∀ b ∈ l, 0 ≤ b ∧ b < 256
theorem bytesOk.get {l : List Int} (h : bytesOk l) (i : Nat) : 0 ≤ l.getD i 0 ∧ l.getD i 0 < 256 := by
  rcases Nat.lt_or_ge i l.length with hi | hi
  · have : l.getD i 0 = l[i] := by simp [List.getD, hi]
    rw [this]
    exact h _ (List.getElem_mem _)
  · simp [List.getD, List.getElem?_eq_none hi]

theorem or_add {x y n : Nat} (hx : x < 2 ^ n) : (y * 2 ^ n) ||| x = y * 2 ^ n + x := by
  rw [Nat.mul_comm]
  exact (Nat.two_pow_add_eq_or_of_lt hx y).symm

theorem bitsI_or {k : IntKind} {x y : Nat} (hx : x < 2 ^ k.bits) (hy : y < 2 ^ k.bits) : bitsI .or k (x : Int) (y : Int) = k.wrap ((x ||| y : Nat) : Int) := by
  unfold bitsI
  simp only [BitVec.toNat_or, BitVec.toNat_ofInt]
  have e1 : (((x : Int) % ((2 ^ k.bits : Nat) : Int)).toNat) = x := by
    rw [Int.emod_eq_of_lt (by omega) (by omega)]; omega
  have e2 : (((y : Int) % ((2 ^ k.bits : Nat) : Int)).toNat) = y := by
    rw [Int.emod_eq_of_lt (by omega) (by omega)]; omega
  rw [e1, e2]

theorem wrapu32 {n : Int} (h0 : 0 ≤ n) (h1 : n < 4294967296) : IntKind.wrap .u32 n = n := by simp only [IntKind.wrap, IntKind.bits, IntKind.signed]; simp; omega

theorem or_byte {x b : Int} (h0 : 0 ≤ x) (hx : x < 16777216) (hb : 0 ≤ b ∧ b < 256) : bitsI .or .u32 (IntKind.wrap .u32 (x * 2 ^ 8)) (IntKind.wrap .u32 b) = x * 256 + b := by
  obtain ⟨n, rfl⟩ := Int.eq_ofNat_of_zero_le h0
  obtain ⟨c, rfl⟩ := Int.eq_ofNat_of_zero_le hb.1
  have e1 : IntKind.wrap .u32 ((n : Int) * 2 ^ 8) = ((n * 2 ^ 8 : Nat) : Int) := by rw [wrapu32 (by omega) (by omega)]; simp
  have e2 : IntKind.wrap .u32 (c : Int) = ((c : Nat) : Int) := wrapu32 (by omega) (by omega)
  rw [e1, e2, bitsI_or (by simp [IntKind.bits]; omega) (by simp [IntKind.bits]; omega), or_add (by omega), wrapu32 (by omega) (by omega)]
  simp

theorem c_l01Mix (st bl : List Int) (hst : st.length = 8) (hbl : bl.length = 32) (hb : bytesOk bl) (w : World) :
    Ret Tryz.prog n_spec_l01Mix [.agg (u32s st).toArray, .agg (u8s bl).toArray] w [.agg] (fun cs _ => cs = (u32s (mixW st (wordsL bl))).toArray) := spec_l01Mix_calls _ _ (by
  unfold spec_l01Mix
  refine r_new (At.refl w) fun b2 w2 h => ?_
  refine r_new h fun b3 w3 h => ?_
  refine r_new h fun b4 w4 h => ?_
  refine r_new h fun b5 w5 h => ?_
  refine r_stA h 0 rfl rfl (by simp) (by simp [Value.cells]) rep_one fun w6 h => ?_
  have hml : (wordsL bl).length = 8 := by simp [wordsL]
  obtain ⟨B, hB⟩ : ∃ B, B = List.replicate 8 (Value.int .u32 0) := ⟨_, rfl⟩
  have hB8 : B.length = 8 := by rw [hB]; rfl
  have hBA : B.toArray = Array.replicate 8 (Value.int .u32 0) := by rw [hB]; rfl
  have hBg : ∀ k, k < 8 → B[k]? = some (.int .u32 0) := fun k hk => by rw [hB, List.getElem?_replicate, if_pos hk]
  have hlen : (u32s (wordsL bl)).length = B.length := by rw [u32s_len, hml, hB8]
  have hl8 : (u32s (wordsL bl)).length = 8 := by rw [u32s_len, hml]
  refine r_loop (σ := Int) (fun i w' => ∃ k : Nat, i = k ∧ k ≤ 8 ∧ At w w' [(b5, mix (u32s (wordsL bl)) B k, ty_arr8_uint32), (b4, Array.replicate 8 (.int .u32 0), ty_arr8_uint32), (b3, (u8s bl).toArray, ty_arr32_uint8), (b2, (u32s st).toArray, ty_arr8_uint32)]) (fun i _ => (8 - i).toNat) 0 rfl
    ⟨0, rfl, by omega, by rw [mix_zero, hBA]; exact h⟩ ?_
  rintro i0 w7 ⟨k, rfl, hk, h⟩
  refine r_any fun _ => ?_
  refine r_if ((k : Int) < 8) rfl (fun hlt => ?_) (fun hge => ?_)
  · obtain ⟨v4, hv4⟩ : ∃ v4 : Nat → Int, v4 = fun j => if j = 4 then 0 else if j = 3 then bl.getD (4 * k + 3) 0 else if j = 2 then bl.getD (4 * k + 3) 0 * 256 + bl.getD (4 * k + 2) 0 else if j = 1 then (bl.getD (4 * k + 3) 0 * 256 + bl.getD (4 * k + 2) 0) * 256 + bl.getD (4 * k + 1) 0 else
      ((bl.getD (4 * k + 3) 0 * 256 + bl.getD (4 * k + 2) 0) * 256 + bl.getD (4 * k + 1) 0) * 256 + bl.getD (4 * k) 0 := ⟨_, rfl⟩
    have hg : (mix (u32s (wordsL bl)) B k)[k]? = some (.int .u32 0) := by rw [mix_get hlen (by omega)]; exact hBg k (by omega)
    have hsz : (mix (u32s (wordsL bl)) B k).size = 8 := by rw [mix_size hlen (by omega)]; exact hl8
    refine r_loop (σ := Int) (fun i w' => ∃ j : Nat, i = (j : Int) - 1 ∧ j ≤ 4 ∧ At w w' [(b5, (mix (u32s (wordsL bl)) B k).setIfInBounds k (.int .u32 (v4 j)), ty_arr8_uint32), (b4, Array.replicate 8 (.int .u32 0), ty_arr8_uint32), (b3, (u8s bl).toArray, ty_arr32_uint8), (b2, (u32s st).toArray, ty_arr8_uint32)]) (fun i _ => (i + 1).toNat) 3 rfl
      ⟨4, rfl, by omega, by rw [show v4 4 = 0 by rw [hv4]; rfl, set_same hg]; exact h⟩ ?_
    rintro i3 w8 ⟨j, rfl, hj, h⟩
    refine r_any fun _ => ?_
    refine r_if ((j : Int) - 1 ≥ 0) rfl (fun hlt2 => ?_) (fun hge2 => ?_)
    · refine r_draw h fun w9 h => ?_
      refine r_ix ⟨b5, 0, none⟩ rfl (by omega) (by omega) ?_
      refine r_ld h 0 rfl (add_lit _ _ _) (v4 j) (by simp [Sh.emb]) (by simp only [Int.toNat_natCast, Nat.zero_add, Nat.mul_one]; exact set_get (by omega)) ?_
      have e1 : IntKind.wrap .i64 (IntKind.wrap .i64 (4 * (k : Int)) + ((j : Int) - 1)) = ((4 * k + (j - 1) : Nat) : Int) := by rw [w64 (n := 4 * (k : Int)) (by omega) (by omega), w64 (by omega) (by omega)]; omega
      rw [e1]
      refine r_ix ⟨b3, 0, none⟩ rfl (by omega) (by omega) ?_
      refine r_ld h 2 rfl (add_lit _ _ _) (bl.getD (4 * k + (j - 1)) 0) (by simp [Sh.emb]) (by simp only [Int.toNat_natCast, Nat.zero_add, Nat.mul_one]; exact u8s_arr (by omega)) ?_
      refine r_ix ⟨b5, 0, none⟩ rfl (by omega) (by omega) ?_
      refine r_st h 0 rfl (add_lit _ _ _) (by rw [Array.size_setIfInBounds]; omega) rfl fun w10 h => ?_
      refine ⟨((j - 1 : Nat) : Int) - 1, by rw [w64 (by omega) (by omega)]; show _ = [Value.int .i64 _]; congr 2; omega, ⟨j - 1, rfl, by omega, ?_⟩, by omega⟩
      simp only [Int.toNat_natCast, Nat.zero_add, Nat.mul_one, List.set_cons_zero, set_set] at h
      have hv : v4 (j - 1) = bitsI .or .u32 (IntKind.wrap .u32 (v4 j * 2 ^ 8)) (IntKind.wrap .u32 (bl.getD (4 * k + (j - 1)) 0)) := by
        have b3 := hb.get (4 * k + 3)
        have b2 := hb.get (4 * k + 2)
        have b1 := hb.get (4 * k + 1)
        have b0 := hb.get (4 * k)
        have : j = 1 ∨ j = 2 ∨ j = 3 ∨ j = 4 := by omega
        rw [hv4]
        rcases this with rfl | rfl | rfl | rfl <;> simp only [Nat.reduceEqDiff, Nat.reduceSub, if_true, if_false, Nat.add_zero] <;> rw [or_byte (by omega) (by omega) (hb.get _)] <;> omega
      rw [hv]
      exact h
    · have : j = 0 := by omega
      subst this
      refine ⟨((k + 1 : Nat) : Int), by rw [w64 (by omega) (by omega)]; rfl, ⟨k + 1, rfl, by omega, ?_⟩, by omega⟩
      have hset := mix_set (A := u32s (wordsL bl)) (B := B) hlen (k := k) (v := .int .u32 (v4 0)) (by
        rw [u32s_get (by rw [hml]; omega)]
        have hk' : k < 8 := by omega
        have hw : (wordsL bl).getD k 0 = word4 (bl.getD (4 * k) 0) (bl.getD (4 * k + 1) 0) (bl.getD (4 * k + 2) 0) (bl.getD (4 * k + 3) 0) := by simp [wordsL, List.getD, hk']
        rw [hw, hv4]
        simp only [word4, Nat.reduceEqDiff, if_false]
        congr 2
        omega)
      rw [← hset]
      exact h
  have : k = 8 := by omega
  subst this
  have e8 : mix (u32s (wordsL bl)) B 8 = (u32s (wordsL bl)).toArray := by
    have := mix_all (A := u32s (wordsL bl)) (B := B) (by omega)
    rwa [hl8] at this
  rw [e8] at h
  refine r_ldA h 3 rfl rfl (by simp [hst]) ?_
  refine r_new h fun b8 w11 h => ?_
  refine r_stA h 0 rfl rfl (by simp [hst]) (by simp [Value.cells]) (by simpa using u32s_one) fun w12 h => ?_
  generalize wordsL bl = m at h hml
  refine r_loop (σ := Int) (fun i w' => ∃ r : Nat, i = r ∧ r ≤ 12 ∧ At w w' [(b8, (u32s (mixN m r st)).toArray, ty_arr8_uint32), (b5, (u32s m).toArray, ty_arr8_uint32), (b4, Array.replicate 8 (.int .u32 0), ty_arr8_uint32), (b3, (u8s bl).toArray, ty_arr32_uint8), (b2, (u32s st).toArray, ty_arr8_uint32)]) (fun i _ => (12 - i).toNat) 0 rfl
    ⟨0, rfl, by omega, h⟩ ?_
  rintro i1 w1 ⟨r, rfl, hr, h1⟩
  refine r_any fun _ => ?_
  have hlr : (mixN m r st).length = 8 := by rw [mixN_len, hst]
  refine r_if ((r : Int) < 12) rfl (fun hlt => ?_) (fun hge => ?_)
  · refine r_loop (σ := Int) (fun i w' => ∃ k : Nat, i = k ∧ k ≤ 8 ∧ At w w' [(b8, (u32s (mixR m r k (mixN m r st))).toArray, ty_arr8_uint32), (b5, (u32s m).toArray, ty_arr8_uint32), (b4, Array.replicate 8 (.int .u32 0), ty_arr8_uint32), (b3, (u8s bl).toArray, ty_arr32_uint8), (b2, (u32s st).toArray, ty_arr8_uint32)]) (fun i _ => (8 - i).toNat) 0 rfl
      ⟨0, rfl, by omega, h1⟩ ?_
    rintro i2 w2 ⟨k, rfl, hk, h2⟩
    refine r_any fun _ => ?_
    generalize hs : mixR m r k (mixN m r st) = s at h2
    have hls : s.length = 8 := by rw [← hs, mixR_len, hlr]
    refine r_if ((k : Int) < 8) rfl (fun hlt2 => ?_) (fun hge2 => ?_)
    · refine r_draw h2 fun w3 h3 => ?_
      refine r_ix ⟨b8, 0, none⟩ rfl (by omega) (by omega) ?_
      refine r_ld h3 0 rfl (add_lit _ _ _) (s.getD k 0) (by simp [Sh.emb]) (by simp only [Int.toNat_natCast, Nat.zero_add, Nat.mul_one]; exact u32s_arr (by omega)) ?_
      have e1 : IntKind.wrap .i64 ((k : Int) + IntKind.wrap .i64 (3 * (r : Int))) = ((k + 3 * r : Nat) : Int) := by rw [w64 (n := 3 * (r : Int)) (by omega) (by omega), w64 (by omega) (by omega)]; omega
      rw [e1, tmod8]
      refine r_ix ⟨b5, 0, none⟩ rfl (by omega) (by omega) ?_
      refine r_ld h3 1 rfl (add_lit _ _ _) (m.getD ((k + 3 * r) % 8) 0) (by simp [Sh.emb]) (by simp only [Int.toNat_natCast, Nat.zero_add, Nat.mul_one]; exact u32s_arr (by omega)) ?_
      refine r_draw h3 fun w4 h4 => ?_
      refine r_callQ (c_Turn7 _) ?_
      have e2 : IntKind.wrap .i64 ((k : Int) + 1) = ((k + 1 : Nat) : Int) := by rw [w64 (by omega) (by omega)]; omega
      have e5 : IntKind.wrap .i64 ((k : Int) + 5) = ((k + 5 : Nat) : Int) := by rw [w64 (by omega) (by omega)]; omega
      rw [e2, tmod8]
      refine r_ix ⟨b8, 0, none⟩ rfl (by omega) (by omega) ?_
      refine r_ld h4 0 rfl (add_lit _ _ _) (s.getD ((k + 1) % 8) 0) (by simp [Sh.emb]) (by simp only [Int.toNat_natCast, Nat.zero_add, Nat.mul_one]; exact u32s_arr (by omega)) ?_
      rw [e5, tmod8]
      refine r_ix ⟨b8, 0, none⟩ rfl (by omega) (by omega) ?_
      refine r_ld h4 0 rfl (add_lit _ _ _) (s.getD ((k + 5) % 8) 0) (by simp [Sh.emb]) (by simp only [Int.toNat_natCast, Nat.zero_add, Nat.mul_one]; exact u32s_arr (by omega)) ?_
      refine r_callp (c_Turn13 _) ?_
      refine r_ix ⟨b8, 0, none⟩ rfl (by omega) (by omega) ?_
      refine r_st h4 0 rfl (add_lit _ _ _) (by simp [hls]; omega) rfl fun w5 h5 => ?_
      refine ⟨((k + 1 : Nat) : Int), rfl, ⟨k + 1, rfl, by omega, ?_⟩, by omega⟩
      have e3 : IntKind.wrap .i64 (IntKind.wrap .i64 (IntKind.wrap .i64 (8 * (r : Int)) + (k : Int)) + 1) = 8 * (r : Int) + k + 1 := by
        rw [w64 (n := 8 * (r : Int)) (by omega) (by omega), w64 (n := 8 * (r : Int) + k) (by omega) (by omega), w64 (by omega) (by omega)]
      rw [e3] at h5
      simp only [Int.toNat_natCast, Nat.zero_add, Nat.mul_one, List.set_cons_zero, u32s_set] at h5
      rw [mixR, hs, stepW]
      exact h5
    · have : k = 8 := by omega
      subst this
      refine ⟨((r + 1 : Nat) : Int), by rw [w64 (by omega) (by omega)]; rfl, ⟨r + 1, rfl, by omega, ?_⟩, by omega⟩
      rw [mixN, hs]
      exact h2
  · have : r = 12 := by omega
    subst this
    have hfin : mixW st m = xorL (mixN m 12 st) st := rfl
    generalize hs : mixN m 12 st = s at h1 hlr hfin
    have hx : (xorL s st).length = 8 := by simp [xorL]
    have hlen : (u32s (xorL s st)).length = (u32s s).length := by simp [hx, hlr]
    refine r_loop (σ := Int) (fun i w' => ∃ k : Nat, i = k ∧ k ≤ 8 ∧ At w w' [(b8, mix (u32s (xorL s st)) (u32s s) k, ty_arr8_uint32), (b5, (u32s m).toArray, ty_arr8_uint32), (b4, Array.replicate 8 (.int .u32 0), ty_arr8_uint32), (b3, (u8s bl).toArray, ty_arr32_uint8), (b2, (u32s st).toArray, ty_arr8_uint32)]) (fun i _ => (8 - i).toNat) 0 rfl
      ⟨0, rfl, by omega, by rw [mix_zero]; exact h1⟩ ?_
    rintro i2 w2 ⟨k, rfl, hk, h2⟩
    refine r_any fun _ => ?_
    refine r_if ((k : Int) < 8) rfl (fun hlt2 => ?_) (fun hge2 => ?_)
    · refine r_draw h2 fun w3 h3 => ?_
      refine r_ix ⟨b8, 0, none⟩ rfl (by omega) (by omega) ?_
      refine r_ld h3 0 rfl (add_lit _ _ _) (s.getD k 0) (by simp [Sh.emb]) (by simp only [Int.toNat_natCast, Nat.zero_add, Nat.mul_one]; exact (mix_get hlen (by simp; omega)).trans (u32s_get (by omega))) ?_
      refine r_ix ⟨b2, 0, none⟩ rfl (by omega) (by omega) ?_
      refine r_ld h3 4 rfl (add_lit _ _ _) (st.getD k 0) (by simp [Sh.emb]) (by simp only [Int.toNat_natCast, Nat.zero_add, Nat.mul_one]; exact u32s_arr (by omega)) ?_
      refine r_ix ⟨b8, 0, none⟩ rfl (by omega) (by omega) ?_
      refine r_st h3 0 rfl (add_lit _ _ _) (by rw [mix_size hlen (by simp [hx]; omega)]; simp [hx]; omega) rfl fun w4 h4 => ?_
      refine ⟨((k + 1 : Nat) : Int), by rw [w64 (by omega) (by omega)]; rfl, ⟨k + 1, rfl, by omega, ?_⟩, by omega⟩
      have hset := mix_set (A := u32s (xorL s st)) (B := u32s s) hlen (k := k) (v := .int .u32 (bitsI .xor .u32 (s.getD k 0) (st.getD k 0))) (xorL_get (by omega))
      rw [← hset]
      simpa using h4
    · have : k = 8 := by omega
      subst this
      have e8 : mix (u32s (xorL s st)) (u32s s) 8 = (u32s (xorL s st)).toArray := by
        have := mix_all (A := u32s (xorL s st)) (B := u32s s) (by simp [hx, hlr])
        simpa [hx] using this
      rw [e8, ← hfin] at h2
      have hmx : (mixW st m).length = 8 := by rw [hfin]; exact hx
      refine r_ldA h2 0 rfl rfl (by simp [hmx]) ?_
      refine r_stA h2 2 rfl rfl (by simp [hmx]) (by simp) (by simpa using u32s_one) fun w6 h6 => ?_
      refine r_ldA h6 2 rfl rfl (by simp [hmx]) ?_
      exact r_ret h6 _ rfl rfl)

end Go.Proofs.YtkifkdkjljcclaaGreat
