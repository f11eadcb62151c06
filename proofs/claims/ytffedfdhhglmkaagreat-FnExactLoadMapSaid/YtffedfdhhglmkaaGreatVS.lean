/- A string that is an argument of a law. -/
import Derived.Test.YtffedfdhhglmkaaGreatV4
import Derived.ChangeMaps5
namespace Go.Proofs.YtffedfdhhglmkaaGreat
open Go.Sx Go.RowKit

set_option maxRecDepth 100000 in
theorem open_Str {H : Type} {enc : TypeId × Value → H} {w : World} {base : Nat} {spare : Nat → Bool} {held : Bool} {r : Reach} {b0 : Nat} {v : Value} {d : DataW H} {ps : List MemPlace} (hval : Value.okWide Tryz.prog w r b0 ty_string v) (hd : DataW.Trod enc Tryz.prog w base spare held ty_string v d ps) : ∃ x : ByteArray, v = .string x ∧ x.size ≤ maxLen := by
  obtain ⟨s, h, _, _, hs⟩ := Go.ChangeMaps.open_string (P := Tryz.prog) (t := ty_string) (show Tryz.prog.underlying ty_string = some .string by kernel_rfl) hval hd
  exact ⟨s, h, hs⟩
end Go.Proofs.YtffedfdhhglmkaaGreat
