/- Contracts of the hash: what stands behind the data. -/
import Derived.Test.YtkifkdkjljcclaaPkLPS07
namespace Go.Proofs.Ytkifkdkjljcclaa
open Go.Sx Go.RowKit

def leB (n : Int) (k : Nat) : List Int := (List.range k).map fun i => n / 2 ^ (8 * i) % 256
@[simp] theorem leB_len (n : Int) (k : Nat) : (leB n k).length = k := by simp [leB]
theorem leB_succ (n : Int) (k : Nat) : leB n (k + 1) = leB n k ++ [n / 2 ^ (8 * k) % 256] := by simp [leB, List.range_succ]
theorem leB_ok (n : Int) (k : Nat) : bytesOk (leB n k) := by
  intro b hb
  simp only [leB, List.mem_map] at hb
  obtain ⟨i, _, rfl⟩ := hb
  omega
theorem u8s_append (a b : List Int) : u8s (a ++ b) = u8s a ++ u8s b := by simp [u8s]
theorem u8s_one1 (b : Int) : u8s [b] = [Value.int .u8 b] := rfl
theorem wrapu8 (n : Int) : IntKind.wrap .u8 n = n % 256 := by simp [IntKind.wrap, IntKind.bits, IntKind.signed]

def SlR (w0 : World) (ls : List Blk) (e z : Nat) (xs : List Value) (n : Nat) (v : Value) (w' : World) : Prop := ∃ s' : Sl, v = .slice s'.a s'.n s'.c ∧ SlO w0 w' ls e z s' xs ∧ s'.n = n

theorem c_appendLittle {w0 w : World} {ls : List Blk} {s : Sl} {xs : List Value} (hS : SlO w0 w ls ty_uint8 1 s xs) {n : Int} (hn : 0 ≤ n) (k : Nat) (hk : k ≤ 8) (hmax : s.n ≤ 70368744177664) :
    Calls Try.prog n_impl_appendLittle [.slice s.a s.n s.c, .int .u64 n, .int .i64 (k : Int)].toArray w fun e w' => ∃ v, e = .returned v ∧ SlR w0 ls ty_uint8 1 (xs ++ u8s (leB n k)) (s.n + k) v w' := impl_appendLittle_calls s n k (by
  unfold impl_appendLittle
  refine r_loop (σ := Sl × Int) (fun i w' => ∃ j : Nat, i.2 = j ∧ j ≤ k ∧ SlO w0 w' ls ty_uint8 1 i.1 (xs ++ u8s (leB n j)) ∧ i.1.n = s.n + j) (fun i _ => (k - i.2).toNat) (s, 0) rfl
    ⟨0, rfl, by omega, by simpa [leB, u8s] using hS, rfl⟩ ?_
  rintro ⟨s1, i⟩ w1 ⟨j, hi, hj, h, hsn⟩
  simp only at hi h hsn
  subst hi
  refine r_any fun _ => ?_
  dsimp only
  refine r_if ((j : Int) < (k : Int)) rfl (fun hlt => ?_) (fun hge => ?_)
  · have e1 : IntKind.wrap .i64 (8 * (j : Int)) = ((8 * j : Nat) : Int) := by rw [w64 (by omega) (by omega)]; omega
    refine r_pur _ (fun w' => run_shr (by rw [e1]; omega) w') ?_
    refine r_push T_sl_uint8 h rfl (by omega) (by simp [Value.cells, oneC]) (by omega) (by omega) fun s2 w2 h2 hn2 => ?_
    refine ⟨(s2, ((j + 1 : Nat) : Int)), by rw [w64 (by omega) (by omega)]; rfl, ⟨j + 1, rfl, by omega, ?_, by show s2.n = _; omega⟩, by dsimp only; omega⟩
    have hv : IntKind.wrap .u8 (n.fdiv (2 ^ min (IntKind.wrap .i64 (8 * (j : Int))).toNat (IntKind.bits .u64))) = n / 2 ^ (8 * j) % 256 := by
      rw [e1, show min ((8 * j : Nat) : Int).toNat (IntKind.bits .u64) = 8 * j by rw [show IntKind.bits .u64 = 64 from rfl]; omega, wrapu8, Int.fdiv_eq_ediv_of_nonneg _ (Int.le_of_lt (Int.pow_pos (by omega)))]
    rw [leB_succ, u8s_append, u8s_one1, ← List.append_assoc]
    rw [hv] at h2
    exact h2
  · have : j = k := by omega
    subst this
    exact ⟨s1, rfl, h, hsn⟩)

theorem c_size_byte (s : Sl) : RetP Try.prog n_impl_size_byte [.slice s.a s.n s.c] [.int .i64] (s.n : Int) := fun w => impl_size_byte_calls s (by
  unfold impl_size_byte
  exact r_retP rfl)

theorem tmod32 (n : Nat) : Int.tmod (n : Int) 32 = ((n % 32 : Nat) : Int) := by rw [Int.tmod_eq_emod_of_nonneg (by omega)]; rfl

def padZ (m : Nat) : Nat := (56 - m % 32) % 32
def padT (m : Nat) (len : Int) : List Int := 128 :: (List.replicate (padZ (m + 1)) 0 ++ leB len 8)
theorem padT_len (m : Nat) (len : Int) : (padT m len).length = padZ (m + 1) + 9 := by simp [padT]
theorem padT_mod (m : Nat) (len : Int) : (m + (padT m len).length) % 32 = 0 := by rw [padT_len]; unfold padZ; omega
theorem padT_ok (m : Nat) (len : Int) : bytesOk (padT m len) := by
  intro b hb
  simp only [padT, List.mem_cons, List.mem_append, List.mem_replicate] at hb
  rcases hb with rfl | ⟨_, rfl⟩ | hb
  · omega
  · omega
  · exact leB_ok _ _ b hb

theorem rep_snoc (j : Nat) (x : List Int) : x ++ List.replicate (j + 1) (0 : Int) = (x ++ List.replicate j 0) ++ [0] := by rw [List.replicate_succ', List.append_assoc]

theorem c_padding (n : Nat) (hn : n ≤ 70368744177664) (w : World) : Ret Try.prog n_impl_padding [.int .i64 (n : Int)] w [.slice] (fun s w' => SlO w w' [] ty_uint8 1 s (u8s (padT n n)) ∧ s.n = (padT n n).length) := impl_padding_calls n (by
  unfold impl_padding
  refine r_bs1 T_sl_uint8 (At.refl w) rfl (by omega) fun s1 w1 h1 hn1 => ?_
  refine r_loop (σ := Sl) (fun s w' => ∃ j : Nat, j ≤ padZ (n + 1) ∧ SlO w w' [] ty_uint8 1 s (u8s ([128] ++ List.replicate j 0)) ∧ s.n = 1 + j) (fun s _ => padZ (n + 1) + 1 - s.n) s1 rfl
    ⟨0, by omega, by simpa [u8s, Value.cells] using h1, hn1⟩ ?_
  rintro s w2 ⟨j, hj, h, hsn⟩
  refine r_any fun _ => ?_
  refine r_callp (c_size_byte s) ?_
  have hz : padZ (n + 1) < 32 := by unfold padZ; omega
  have e1 : IntKind.wrap .i64 ((n : Int) + (s.n : Int)) = ((n + s.n : Nat) : Int) := by rw [w64 (by omega) (by omega)]; omega
  rw [e1, tmod32]
  refine r_ne (fun hne => ?_) (fun he => ?_)
  · have hne' : ¬ (n + s.n) % 32 = 24 := fun hh => hne (by omega)
    have hjlt : j < padZ (n + 1) := by unfold padZ at *; omega
    refine r_push T_sl_uint8 h rfl (by omega) (by simp [Value.cells, oneC]) (by omega) (by omega) fun s2 w3 h2 hn2 => ?_
    refine ⟨s2, rfl, ⟨j + 1, by omega, ?_, by omega⟩, by omega⟩
    rw [rep_snoc, u8s_append]
    exact h2
  · have he' : (n + s.n) % 32 = 24 := by omega
    have hjz : j = padZ (n + 1) := by unfold padZ at *; omega
    subst hjz
    rw [wrapu64 (by omega) (by omega)]
    refine r_callR (c_appendLittle h (n := (n : Int)) (by omega) 8 (by omega) (by omega)) ?_
    rintro v w4 ⟨s', rfl, hs', hn'⟩
    refine ⟨s', rfl, r_ret hs'.at_ s' rfl ⟨?_, by rw [padT_len]; omega⟩⟩
    rw [← u8s_append] at hs'
    simpa [padT] using hs')

theorem tmod256 {n : Int} (h : 0 ≤ n) : Int.tmod n 256 = n % 256 := Int.tmod_eq_emod_of_nonneg h

theorem c_l01Padded {s : Sl} {d : List Int} {w : World} (hs : SlAt w s 1 (u8s d)) (len : Int) (h0 : 0 ≤ len) (hl : len ≤ 9223372036854775807) (hmax : d.length ≤ 70368744177664) :
    Ret Try.prog n_spec_l01Padded [.slice s.a s.n s.c, .int .i64 len] w [.slice] (fun s' w' => SlO w w' [] ty_uint8 1 s' (u8s (d ++ padT d.length len)) ∧ s'.n = (d ++ padT d.length len).length) := spec_l01Padded_calls s len (by
  unfold spec_l01Padded
  have hn := sl_len hs
  refine r_bs0 T_sl_uint8 (At.refl w) fun s1 w1 h1 hn1 => ?_
  refine r_append T_sl_uint8 h1 (hs.at h1.at_) u8s_one (by omega) (by omega) fun s2 w2 h2 hn2 => ?_
  refine r_push T_sl_uint8 h2 rfl (by omega) (by simp [Value.cells, oneC]) (by omega) (by omega) fun s3 w3 h3 hn3 => ?_
  refine r_loop (σ := Sl) (fun s w' => ∃ j : Nat, j ≤ padZ (d.length + 1) ∧ SlO w w' [] ty_uint8 1 s (u8s ((d ++ [128]) ++ List.replicate j 0)) ∧ s.n = d.length + 1 + j) (fun s _ => d.length + padZ (d.length + 1) + 1 - s.n) s3 rfl
    ⟨0, by omega, by simpa [u8s, Value.cells] using h3, by omega⟩ ?_
  rintro s4 w4 ⟨j, hj, h, hsn⟩
  refine r_any fun _ => ?_
  have hz : padZ (d.length + 1) < 32 := by unfold padZ; omega
  rw [tmod32]
  refine r_ne (fun hne => ?_) (fun he => ?_)
  · have hne' : ¬ s4.n % 32 = 24 := fun hh => hne (by omega)
    have hjlt : j < padZ (d.length + 1) := by unfold padZ at *; omega
    refine r_push T_sl_uint8 h rfl (by omega) (by simp [Value.cells, oneC]) (by omega) (by omega) fun s5 w5 h5 hn5 => ?_
    refine ⟨s5, rfl, ⟨j + 1, by omega, ?_, by omega⟩, by omega⟩
    rw [rep_snoc, u8s_append]
    exact h5
  · have he' : s4.n % 32 = 24 := by omega
    have hjz : j = padZ (d.length + 1) := by unfold padZ at *; omega
    subst hjz
    refine r_loop (σ := Int × Sl × Int) (fun i w' => ∃ k : Nat, i.1 = len / 2 ^ (8 * k) ∧ i.2.2 = k ∧ k ≤ 8 ∧ SlO w w' [] ty_uint8 1 i.2.1 (u8s ((d ++ [128]) ++ List.replicate (padZ (d.length + 1)) 0 ++ leB len k)) ∧ i.2.1.n = d.length + 1 + padZ (d.length + 1) + k) (fun i _ => (8 - i.2.2).toNat) (len, s4, 0) rfl
      ⟨0, by simp, rfl, by omega, by simpa [leB] using h, hsn⟩ ?_
    rintro ⟨l, s5, i⟩ w5 ⟨k, hl5, hi, hk, h5, hn5⟩
    simp only at hl5 hi h5 hn5
    subst hi
    refine r_any fun _ => ?_
    dsimp only
    have hpos : (0 : Int) < 2 ^ (8 * k) := Int.pow_pos (by omega)
    have hl0 : 0 ≤ l := by rw [hl5]; exact Int.ediv_nonneg h0 (by omega)
    have hlle : l ≤ len := by rw [hl5]; exact Int.ediv_le_self _ h0
    refine r_if ((k : Int) < 8) rfl (fun hlt => ?_) (fun hge => ?_)
    · refine r_push T_sl_uint8 h5 rfl (by omega) (by simp [Value.cells, oneC]) (by omega) (by omega) fun s6 w6 h6 hn6 => ?_
      refine ⟨(len / 2 ^ (8 * (k + 1)), s6, ((k + 1 : Nat) : Int)), ?_, ⟨k + 1, rfl, rfl, by omega, ?_, by show s6.n = _; omega⟩, by dsimp only; omega⟩
      · have e2 : len / 2 ^ (8 * (k + 1)) = l / 256 := by rw [hl5, show 8 * (k + 1) = 8 * k + 8 by omega, Int.pow_add, Int.ediv_ediv_of_nonneg (by omega)]; rfl
        rw [e2, Int.tdiv_eq_ediv_of_nonneg hl0, w64 (n := l / 256) (by omega) (by omega), w64 (n := (k : Int) + 1) (by omega) (by omega)]
        rfl
      · have hv : IntKind.wrap .u8 (Int.tmod l 256) = len / 2 ^ (8 * k) % 256 := by rw [tmod256 hl0, wrapu8, hl5]; omega
        rw [hv] at h6
        rw [leB_succ, ← List.append_assoc, u8s_append, u8s_one1]
        exact h6
    · have : k = 8 := by omega
      subst this
      refine r_ret h5.at_ s5 rfl ⟨?_, by rw [List.length_append, padT_len]; omega⟩
      simpa [padT] using h5)

end Go.Proofs.Ytkifkdkjljcclaa
