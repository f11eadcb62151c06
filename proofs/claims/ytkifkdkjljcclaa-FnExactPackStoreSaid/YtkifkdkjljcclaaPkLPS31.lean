/- PackStore, PackReachable: both sides. PackStore: both sides. -/
import Derived.Test.YtkifkdkjljcclaaPkLPS30
import Derived.Test.YtkifkdkjljcclaaPkLPS22
import Derived.Test.YtkifkdkjljcclaaPkLPS25
namespace Go.Proofs.Ytkifkdkjljcclaa
open Go.Sx Go.RowKit

def packAns (B : List PB) : List Int × Int := if validS B then (packB B, 0) else ([], 1)
theorem packB_ok {B : List PB} (hv : validS B) (hb : ∀ b ∈ B, b.ok) : bytesOk (packB B) := by
  have h128 := hv.1
  unfold packB
  refine ((recsB_ok hv hb _).append fun x hx => ?_).append (hashL_ok _ _)
  simp only [List.mem_cons, List.not_mem_nil, or_false] at hx
  omega
theorem packB_max {B : List PB} (hv : validS B) : (packB B).length ≤ 140000 := by
  have := (recsB_len hv.2.1 B.length).1
  have := hv.1
  rw [packB_len]
  have h1 : 1033 * B.length ≤ 1033 * 128 := Nat.mul_le_mul_left _ hv.1
  omega
theorem packAns_small (B : List PB) : sizeByteS (packAns B).1 ≤ 140000 := by
  unfold packAns sizeByteS
  split
  · rename_i hv
    exact packB_max hv
  · simp
theorem slO_own {w w' : World} {r : Sl} {l : List Int} (h : SlO w w' [] ty_uint8 1 r (u8s l)) (hb : bytesOk l) : ∃ L, At w w' L ∧ OwnByteS r l L := by
  obtain ⟨L, hO, hA⟩ := h.split
  exact ⟨L, by simpa using hA, hO, hb⟩
theorem ownB_nil : OwnByteS ⟨none, 0, 0⟩ [] [] := ⟨OwnS.nil _ _, fun b hb => by cases hb⟩
end Go.Proofs.Ytkifkdkjljcclaa

namespace Go.Proofs.Ytkifkdkjljcclaa
open Go.Sx Go.RowKit

theorem c_spec_PackStore {w : World} {r : Array Value} {B : List PB} (hr : RdStore w r B) (hz : sizeBs B ≤ 1073741824) :
    Ret Try.prog n_spec_PackStore [.agg r] w [.slice, .int .i64] (fun y w' => ∃ L, At w w' L ∧ OwnByteS y.1 (packAns B).1 L ∧ y.2 = (packAns B).2) := spec_PackStore_calls _ (by
  unfold spec_PackStore
  have hBok := hr.ok
  obtain ⟨s, bs, rfl, hpb, hs⟩ := hr
  refine r_new (At.refl w) fun b1 w1 h => ?_
  refine r_call h (c_l05Open (p := ⟨b1, 0, none⟩) (fun n => ldOk_own h 0 rfl 0 rfl (by simp [Sh.emb])) (hs.at h.nil)) fun r w4 h4 hb4 ⟨hr2, b, hr1, hr⟩ => ?_
  rw [hpb] at hr hr2
  by_cases hv : validS B
  · have hans : packAns B = (packB B, 0) := by unfold packAns; rw [if_pos hv]
    rw [hans, hr2, decide_eq_true hv, hr1]
    obtain ⟨L, hL, hO⟩ := hr hv
    refine r_false rfl ?_
    have h := h.join hL
    refine r_call h (c_l06Pack (hO.rd h (keysOf_ok _) (fun b hb => (hs.at h.nil).ok b hb)) hpb hv) fun r w5 h5 _ hS => ?_
    obtain ⟨Lr, hAr, hOr⟩ := slO_own hS (packB_ok hv hBok)
    exact r_ret h5.nil (r, (0 : Int)) rfl ⟨Lr, (h.join hAr).left, hOr, rfl⟩
  · have hans : packAns B = ([], 1) := by unfold packAns; rw [if_neg hv]
    rw [hans, hr2, decide_eq_false hv]
    refine r_true rfl ?_
    refine r_bs0 T_sl_uint8 h4 fun y w5 hy hyn => ?_
    obtain ⟨Ly, hOy, hA⟩ := hy.split
    exact r_ret hA.nil (y, (1 : Int)) rfl ⟨Ly, hA.left, ⟨by simpa [u8s] using hOy, fun b hb => by cases hb⟩, rfl⟩)
theorem c_impl_PackStore {w : World} {r : Array Value} {B : List PB} (hr : RdStore w r B) (hz : sizeBs B ≤ 1073741824) :
    Ret Try.prog n_impl_PackStore [.agg r] w [.slice, .int .i64] (fun y w' => ∃ L, At w w' L ∧ OwnByteS y.1 (packAns B).1 L ∧ y.2 = (packAns B).2) := impl_PackStore_calls _ (by
  unfold impl_PackStore
  have hBok := hr.ok
  obtain ⟨s, bs, rfl, hpb, hs⟩ := hr
  have hl := le_sizeBs B
  have hbl : bs.length = B.length := by rw [← hpb]; simp
  refine r_new (At.refl w) fun b1 w1 h => ?_
  refine r_ldA h 0 rfl rfl rfl ?_
  refine r_call h (c_ValidStore (hs.at h.nil) (by omega)) fun r w4 h _ hr => ?_
  subst hr
  rw [hpb]
  by_cases hv : validS B
  · have hans : packAns B = (packB B, 0) := by unfold packAns; rw [if_pos hv]
    rw [hans, decide_eq_true hv]
    refine r_false rfl ?_
    refine r_ldA h 0 rfl rfl rfl ?_
    refine r_call h (c_impl_pack (hs.at h.nil) hpb hv) fun r w5 h5 _ hS => ?_
    obtain ⟨Lr, hAr, hOr⟩ := slO_own hS (packB_ok hv hBok)
    exact r_ret h5.nil (r, (0 : Int)) rfl ⟨Lr, (h.join hAr).left, hOr, rfl⟩
  · have hans : packAns B = ([], 1) := by unfold packAns; rw [if_neg hv]
    rw [hans, decide_eq_false hv]
    refine r_true rfl ?_
    exact r_ret h.nil (⟨none, 0, 0⟩, (1 : Int)) rfl ⟨[], h.nil, ownB_nil, rfl⟩)
end Go.Proofs.Ytkifkdkjljcclaa
