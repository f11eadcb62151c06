/- LinkPath: the program. LinkPath: the reference. -/
import Derived.Test.YtkifkdkjljcclaaGreatPkLPR29
namespace Go.Sx
open Go.RowKit (Below)
theorem r_pushM {P : Program} {R : Value → World → Prop} {w0 w : World} {ls : List Blk} {r : Nat} {o : Obj} (hM : w.heap[r]? = some o) (hmo : ∀ c e f, o ≠ .cells c e f) {t ty e z by_ : Nat} (hT : SlT P t e z by_) {v : Value} {s : Sl} {xs : List Value} {k : Sl → World → Prop} (hS : SlO w0 w ls e z s xs) (hv : v.cells.size = z) (hz : z ≤ 16777216) (h1 : ∀ u ∈ v.cells.toList, oneC u = true)
    (hbytes : (s.n + 1) * by_ ≤ 140737488355328) (hmax : s.n + 1 ≤ 140737488355328) (h : ∀ s' w', SlO w0 w' ls e z s' (xs ++ v.cells.toList) → s'.n = s.n + 1 → w'.heap[r]? = some o → k s' w') :
    ((real P R).sem (Instr.buildSlice t 1 #[(0, v)]) .slice fun y => (real P R).sem (Builtin.append_ #[t, t] ty #[.slice s.a s.n s.c, .slice y.a y.n y.c]) .slice k : World → Prop) w := by
  refine ⟨⟨some ⟨w.heap.size, 0, none⟩, 1, 1⟩, _, run_bs1 hT hv hz w, ?_⟩
  have hb := below_alloc w (.cells v.cells e)
  refine r_appendM (hb.keeps hM) hmo hT (hS.trans hb) (y := ⟨some ⟨w.heap.size, 0, none⟩, 1, 1⟩) (news := v.cells.toList) ⟨by simp [hv], fun j u hu => ⟨_, rfl, ?_⟩⟩ h1 hbytes hmax h
  rw [add_lit, cell_of_row _ _ _ _ _ _ (heap_alloc_self w _)]
  simpa using hu
end Go.Sx
namespace Go.Proofs.YtkifkdkjljcclaaGreat
open Go.Sx Go.RowKit

theorem ut_Key : (Tryz.prog).underlying ty_impl_Key = some (.array 32 ty_uint8) := by kernel_rfl
theorem tyOf_byte : tyOf Tryz.prog ty_uint8 = some (.int .u8, 1) := by kernel_rfl
end Go.Proofs.YtkifkdkjljcclaaGreat

namespace Go.Proofs.YtkifkdkjljcclaaGreat
open Go.Sx Go.RowKit

end Go.Proofs.YtkifkdkjljcclaaGreat
