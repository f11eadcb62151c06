/- IsPartOf, GetBlob, MinusStores, DropBlob: what the program and the reference answer. -/
import Derived.Test.YtffedfdhhglmkaaGreatW0
namespace Go.Proofs.YtffedfdhhglmkaaGreat
open Go.Sx Go.RowKit

theorem validS.small {B : List PB} (h : validS B) : B.length ≤ 128 ∧ ∀ b ∈ B, b.data.length ≤ 1024 := ⟨h.1, h.2.1⟩
theorem keysOf_get {B : List PB} {i : Nat} {b : PB} (h : B[i]? = some b) : (keysOf B)[i]? = some b.key := by simp [keysOf, h]

theorem pb_get {bs : List BR} {B : List PB} (h : bs.map BR.pb = B) {i : Nat} {b : BR} (hb : bs[i]? = some b) : B[i]? = some b.pb := by rw [← h, List.getElem?_map, hb]; rfl

/-! ### GetBlob -/
def getAns (B : List PB) (k : List Int) : PB × Int := if validS B then (if k ∈ keysOf B then (B.getD (posK (keysOf B) k) ⟨0, []⟩, 0) else (⟨0, []⟩, 6)) else (⟨0, []⟩, 1)

theorem getAns_small (B : List PB) (k : List Int) : sizeBlob (getAns B k).1 ≤ 1024 := by
  unfold getAns sizeBlob
  split
  · rename_i hv
    split
    · simp only [List.getD]
      cases h : B[posK (keysOf B) k]? with
      | none => simp
      | some b => simpa using hv.2.1 b (List.mem_of_getElem? h)
    · simp
  · simp

end Go.Proofs.YtffedfdhhglmkaaGreat
