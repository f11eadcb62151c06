/- The number of bits; the left half of a tree. -/
import Derived.Test.YtffedfdhhglmkaaGreatY2
namespace Go.Proofs.YtffedfdhhglmkaaGreat
open Go.Sx Go.RowKit

def lenTab : ByteArray := ⟨#[0, 1, 2, 2, 3, 3, 3, 3, 4, 4, 4, 4, 4, 4, 4, 4, 5, 5, 5, 5, 5, 5, 5, 5, 5, 5, 5, 5, 5, 5, 5, 5, 6, 6, 6, 6, 6, 6, 6, 6, 6, 6, 6, 6, 6, 6, 6, 6, 6, 6, 6, 6, 6, 6, 6, 6, 6, 6, 6, 6, 6, 6, 6, 6, 7, 7, 7, 7, 7, 7, 7, 7, 7, 7, 7, 7, 7, 7, 7, 7, 7, 7, 7, 7, 7, 7, 7, 7, 7, 7, 7, 7, 7, 7, 7, 7, 7, 7, 7, 7, 7, 7, 7, 7, 7, 7, 7, 7, 7, 7, 7, 7, 7, 7, 7, 7, 7, 7, 7, 7, 7, 7, 7, 7, 7, 7, 7, 7, 8, 8, 8, 8, 8, 8, 8, 8, 8, 8, 8, 8, 8, 8, 8, 8, 8, 8, 8, 8, 8, 8, 8, 8, 8, 8, 8, 8, 8, 8, 8, 8, 8, 8, 8, 8, 8, 8, 8, 8, 8, 8, 8, 8, 8, 8, 8, 8, 8, 8, 8, 8, 8, 8, 8, 8, 8, 8, 8, 8, 8, 8, 8, 8, 8, 8, 8, 8, 8, 8, 8, 8, 8, 8, 8, 8, 8, 8, 8, 8, 8, 8, 8, 8, 8, 8, 8, 8, 8, 8, 8, 8, 8, 8, 8, 8, 8, 8, 8, 8, 8, 8, 8, 8, 8, 8, 8, 8, 8, 8, 8, 8, 8, 8, 8, 8, 8, 8, 8, 8, 8, 8, 8, 8, 8, 8, 8, 8]⟩
theorem lenTab_fin : ∀ y : Fin 256, 0 < y.val → lenTab[y.val]? = some (UInt8.ofNat (Nat.log2 y.val + 1)) ∧ (UInt8.ofNat (Nat.log2 y.val + 1)).toNat = Nat.log2 y.val + 1 := by decide +kernel
theorem lenTab_get {y : Nat} (h0 : 0 < y) (h1 : y < 256) : ∃ b : UInt8, lenTab[y]? = some b ∧ b.toNat = Nat.log2 y + 1 := ⟨_, (lenTab_fin ⟨y, h1⟩ h0).1, (lenTab_fin ⟨y, h1⟩ h0).2⟩

theorem log2_div {x m : Nat} (h : 1 ≤ x / 2 ^ m) : Nat.log2 x = Nat.log2 (x / 2 ^ m) + m := by
  have hx : x ≠ 0 := by rintro rfl; simp at h
  have hp : 0 < 2 ^ m := Nat.two_pow_pos m
  obtain ⟨h1, h2⟩ := (Nat.log2_eq_iff (n := x / 2 ^ m) (by omega)).1 rfl
  refine (Nat.log2_eq_iff hx).2 ⟨?_, ?_⟩
  · rw [Nat.pow_add]; exact (Nat.le_div_iff_mul_le hp).1 h1
  · rw [show Nat.log2 (x / 2 ^ m) + m + 1 = (Nat.log2 (x / 2 ^ m) + 1) + m by omega, Nat.pow_add]; exact (Nat.div_lt_iff_lt_mul hp).1 h2

theorem fdiv_nat (x n : Nat) : Int.fdiv (x : Int) (2 ^ n) = ((x / 2 ^ n : Nat) : Int) := by
  rw [Int.fdiv_eq_ediv_of_nonneg _ (Int.le_of_lt (Int.pow_pos (by omega)))]
  norm_cast

theorem c_Len64 (x : Nat) (h0 : 0 < x) (h1 : x < 18446744073709551616) : RetP Tryz.prog n_math_bits_Len64 [.int .u64 (x : Int)] [.int .i64] ((Nat.log2 x + 1 : Nat) : Int) := fun w => math_bits_Len64_calls x (by
  unfold math_bits_Len64
  let J : Nat → Nat → Int × Int → World → Prop := fun B M s w' => w' = w ∧ ∃ y m : Nat, s = ((y : Int), (m : Int)) ∧ y = x / 2 ^ m ∧ 1 ≤ y ∧ y < B ∧ m ≤ M
  refine r_join (σ := Int × Int) (J 4294967296 32) (fun s w1 hs => ?_) ?_
  · obtain ⟨rfl, y, m, rfl, hy, hy1, hyB, hm⟩ := hs
    refine r_any fun _ => ?_
    refine r_join (σ := Int × Int) (J 65536 48) (fun s w1 hs => ?_) ?_
    · obtain ⟨rfl, y, m, rfl, hy, hy1, hyB, hm⟩ := hs
      refine r_any fun _ => ?_
      refine r_join (σ := Int × Int) (J 256 56) (fun s w1 hs => ?_) ?_
      · obtain ⟨rfl, y, m, rfl, hy, hy1, hyB, hm⟩ := hs
        refine r_any fun _ => ?_
        obtain ⟨b, hb, hbn⟩ := lenTab_get (y := y) hy1 hyB
        have hlog := log2_div (x := x) (m := m) (by omega)
        rw [← hy] at hlog
        have hlt : Nat.log2 y < 8 := (Nat.log2_lt (by omega)).2 hyB
        dsimp only
        have e1 : IntKind.wrap .u8 (y : Int) = (y : Int) := by rw [wrapu8]; omega
        rw [e1]
        refine ⟨b, by omega, by rw [Int.toNat_natCast]; exact hb, ?_⟩
        have e2 : IntKind.wrap .i64 ((m : Int) + IntKind.wrap .i64 (b.toNat : Int)) = ((Nat.log2 x + 1 : Nat) : Int) := by
          rw [hbn, w64 (n := ((Nat.log2 y + 1 : Nat) : Int)) (by omega) (by omega), w64 (by omega) (by omega)]; omega
        dsimp only
        rw [e2]
        exact r_retP rfl
      · dsimp only
        refine r_if ((y : Int) ≥ 256) rfl (fun hge => ?_) (fun hlt => ?_)
        · refine ⟨(((y / 2 ^ 8 : Nat) : Int), ((m + 8 : Nat) : Int)), by rw [fdiv_nat, w64 (by omega) (by omega)]; rfl, rfl, y / 2 ^ 8, m + 8, rfl, ?_, ?_, ?_, by omega⟩
          · rw [hy, Nat.div_div_eq_div_mul, ← Nat.pow_add]
          · omega
          · omega
        · exact ⟨(_, _), rfl, rfl, y, m, rfl, hy, hy1, by omega, by omega⟩
    · dsimp only
      refine r_if ((y : Int) ≥ 65536) rfl (fun hge => ?_) (fun hlt => ?_)
      · refine ⟨(((y / 2 ^ 16 : Nat) : Int), ((m + 16 : Nat) : Int)), by rw [fdiv_nat, w64 (by omega) (by omega)]; rfl, rfl, y / 2 ^ 16, m + 16, rfl, ?_, ?_, ?_, by omega⟩
        · rw [hy, Nat.div_div_eq_div_mul, ← Nat.pow_add]
        · omega
        · omega
      · exact ⟨(_, _), rfl, rfl, y, m, rfl, hy, hy1, by omega, by omega⟩
  · refine r_if ((x : Int) ≥ 4294967296) rfl (fun hge => ?_) (fun hlt => ?_)
    · refine ⟨(((x / 2 ^ 32 : Nat) : Int), ((32 : Nat) : Int)), by rw [fdiv_nat]; rfl, rfl, x / 2 ^ 32, 32, rfl, rfl, ?_, ?_, by omega⟩
      · omega
      · omega
    · exact ⟨((x : Int), 0), rfl, rfl, x, 0, rfl, by simp, by omega, by omega, by omega⟩)

/-- How many leaves the left side of a tree of n leaves has. -/
def half (n : Nat) : Nat := 2 ^ Nat.log2 (n - 1)
theorem half_lt {n : Nat} (h : 2 ≤ n) : half n < n ∧ 1 ≤ half n := by
  have := Nat.log2_self_le (n := n - 1) (by omega)
  have := Nat.two_pow_pos (Nat.log2 (n - 1))
  unfold half
  omega

theorem c_leftOf (n : Nat) (h : 2 ≤ n) (hmax : n ≤ 1073741824) : RetP Tryz.prog n_impl_leftOf [.int .i64 (n : Int)] [.int .i64] (half n : Int) := fun w => impl_leftOf_calls n (by
  unfold impl_leftOf
  have hlt := (half_lt h).1
  have e1 : IntKind.wrap .u64 (IntKind.wrap .i64 ((n : Int) - 1)) = ((n - 1 : Nat) : Int) := by rw [w64 (by omega) (by omega), wrapu64 (by omega) (by omega)]; omega
  rw [e1]
  refine r_callp (c_Len64 (n - 1) (by omega) (by omega)) ?_
  have hl30 : Nat.log2 (n - 1) < 30 := (Nat.log2_lt (by omega)).2 (by omega)
  have e2 : IntKind.wrap .i64 (((Nat.log2 (n - 1) + 1 : Nat) : Int) - 1) = (Nat.log2 (n - 1) : Int) := by rw [w64 (by omega) (by omega)]; omega
  rw [e2]
  refine r_pur _ (fun w' => run_shl (by omega) w') ?_
  have hb : IntKind.bits .i64 = 64 := rfl
  have e3 : IntKind.wrap .i64 (1 * 2 ^ min (Nat.log2 (n - 1) : Int).toNat (IntKind.bits .i64)) = (half n : Int) := by
    rw [hb, Int.toNat_natCast, Nat.min_eq_left (by omega)]
    have : (1 * 2 ^ Nat.log2 (n - 1) : Int) = (half n : Int) := by unfold half; simp
    rw [this, w64 (by omega) (by omega)]
  rw [e3]
  exact r_retP rfl)

theorem c_l03Half (n : Nat) (h : 2 ≤ n) (hmax : n ≤ 1073741824) : RetP Tryz.prog n_spec_l03Half [.int .i64 (n : Int)] [.int .i64] (half n : Int) := fun w => spec_l03Half_calls n (by
  unfold spec_l03Half
  refine r_loop (σ := Int) (fun i w' => w' = w ∧ ∃ j : Nat, i = ((2 ^ j : Nat) : Int) ∧ 2 ^ j < n) (fun i _ => (n - i).toNat) 1 rfl ⟨rfl, 0, rfl, by omega⟩ ?_
  rintro i w1 ⟨rfl, j, rfl, hj⟩
  refine r_any fun _ => ?_
  have hp := Nat.two_pow_pos j
  have e1 : IntKind.wrap .i64 (2 * ((2 ^ j : Nat) : Int)) = ((2 ^ (j + 1) : Nat) : Int) := by rw [w64 (by omega) (by omega), Nat.pow_succ]; omega
  rw [e1]
  refine r_if (((2 ^ (j + 1) : Nat) : Int) < (n : Int)) rfl (fun hlt => ?_) (fun hge => ?_)
  · refine ⟨((2 ^ (j + 1) : Nat) : Int), rfl, ⟨rfl, j + 1, rfl, by omega⟩, ?_⟩
    have : 2 ^ (j + 1) = 2 ^ j * 2 := Nat.pow_succ ..
    omega
  · have : Nat.log2 (n - 1) = j := (Nat.log2_eq_iff (by omega)).2 ⟨by omega, by omega⟩
    refine r_retP ?_
    unfold half
    rw [this]
    rfl)

end Go.Proofs.YtffedfdhhglmkaaGreat
