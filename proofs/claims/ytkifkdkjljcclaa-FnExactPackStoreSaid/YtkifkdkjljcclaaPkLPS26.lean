/- Blocks of strings' bytes are kept; the laws' own source beside them: entries, maps, chunks. Printed in part (n4.py). -/
import Derived.ChangeMaps5
import Derived.Test.YtkifkdkjljcclaaPkLPS24
import Derived.Test.YtkifkdkjljcclaaPkLPS25
import Derived.Test.YtkifkdkjljcclaaPkLPS22
namespace Go.Sx
open Go.RowKit (Below)
def Keeps (w w' : World) : Prop := ∀ (r : Nat) (o : Obj), w.heap[r]? = some o → (∀ c e, o ≠ .cells c e (0, 0)) → w'.heap[r]? = some o
theorem Keeps.refl (w : World) : Keeps w w := fun _ _ h _ => h
theorem Keeps.trans {w w' w'' : World} (h : Keeps w w') (g : Keeps w' w'') : Keeps w w'' := fun r o ho hn => g r o (h r o ho hn) hn
theorem Keeps.of {w w' : World} (h : Below w.heap.size w w') : Keeps w w' := fun _ _ ho _ => h.keeps ho
section
variable {P : Program} {R : Value → World → Prop} {w0 w : World} {ls : List Blk}
end
def prsV : Nat → List Value → List (Nat × Value)
  | _, [] => []
  | k, v :: r => (k, v) :: prsV (k + 1) r
theorem fill_prs : ∀ (vs : List Value) (k : Nat) (cs : Array Value), (∀ v ∈ vs, v.cells = #[v]) → k + vs.length ≤ cs.size → Instr.fill (fun i => some (i * 1, 1)) cs (prsV k vs) = some (cs.toList.take k ++ vs ++ cs.toList.drop (k + vs.length)).toArray
  | [], k, cs, _, h => by
    simp [prsV, Instr.fill]
  | v :: r, k, cs, hv, h => by
    rw [List.length_cons] at h
    have hc := hv v (by simp)
    show Instr.fill _ cs ((k, v) :: prsV (k + 1) r) = _
    rw [fill_one (off := k) (z := 1) (by rw [hc]; rfl) (by omega) _ k (by simp) _]
    rw [fill_prs r (k + 1) _ (fun x hx => hv x (by simp [hx])) (by simp [hc]; omega)]
    have hl : (cs.toList.take k ++ [v]).length = k + 1 := by simp; omega
    have e : cs.toList.take k ++ v.cells.toList ++ cs.toList.drop (k + 1) = (cs.toList.take k ++ [v]) ++ cs.toList.drop (k + 1) := by rw [hc]
    simp only [e]
    congr 2
    have hd : (cs.toList.take k ++ [v]).drop (k + 1 + r.length) = [] := List.drop_eq_nil_of_le (by rw [hl]; omega)
    rw [List.take_left' hl, List.drop_append, hl, hd, List.nil_append, List.drop_drop, List.length_cons, show k + 1 + (k + 1 + r.length - (k + 1)) = k + (r.length + 1) by omega]
    simp
theorem run_bsV {P : Program} {t e by_ : Nat} (hT : SlT P t e 1 by_) (vs : List Value) (hv : ∀ v ∈ vs, v.cells = #[v]) (hn : vs.length ≤ 4096) (hne : vs ≠ []) (w : World) :
    (Instr.buildSlice t vs.length (prsV 0 vs).toArray).run P w = .ok (.slice (some ⟨w.heap.size, 0, none⟩) vs.length vs.length) (w.alloc (.cells vs.toArray e)) := by
  obtain ⟨i, zv, hi, hzv, hsz, hby, hzs⟩ := hT.ex
  have hf : ∀ cs : Array Value, cs.size = vs.length → Instr.fill (fun i => some (i * 1, 1)) cs (prsV 0 vs) = some vs.toArray := by
    intro cs hcs
    rw [fill_prs vs 0 cs hv (by omega)]
    simp
    omega
  have h0 : ¬ (16777216 < vs.length) := by omega
  simp [Instr.buildSlice, run_underlying hT.ut, sizeOf, typeInfo, hi, hsz, h0, zeroValue, hzv, newRow, hne]
  simp only [Nat.mul_one] at hf
  rw [hf _ (by simp [hzs])]
  simp
end Go.Sx
namespace Go.Proofs.Ytkifkdkjljcclaa
open Go.Sx Go.RowKit

end Go.Proofs.Ytkifkdkjljcclaa
