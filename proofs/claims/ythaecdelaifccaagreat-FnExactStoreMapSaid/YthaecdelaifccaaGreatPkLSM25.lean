/- The nodes of maps by their keys: the program's mapper and the reference's l08Node. -/
import Derived.Test.YthaecdelaifccaaGreatPkLSM22
import Derived.Test.YthaecdelaifccaaGreatPkLSM23
import Derived.Test.YthaecdelaifccaaGreatPkLSM24
namespace Go.Proofs.YthaecdelaifccaaGreat
open Go.Sx Go.RowKit

def nmOf (d : List Int) : ByteArray := strOf (nodeName d)
def lowBad (lo : Option ByteArray) (nm : ByteArray) : Bool := match lo with
  | none => false
  | some s => Op.bytesLess nm.toList s.toList || nm.toList == s.toList
def highBad (hi : Option ByteArray) (nm : ByteArray) : Bool := match hi with
  | none => false
  | some s => !Op.bytesLess nm.toList s.toList
def nodeGood (b : PB) : Prop := b.tag = 5 ∧ nodeOk b.data
instance (b : PB) : Decidable (nodeGood b) := inferInstanceAs (Decidable (b.tag = 5 ∧ nodeOk b.data))
def nodeFits (b : PB) (many : Nat) (loose : Bool) (lo hi : Option ByteArray) : Prop := nodeGood b ∧ many < 64 ∧ (loose = true ∨ (lowBad lo (nmOf b.data) = false ∧ highBad hi (nmOf b.data) = false))
end Go.Proofs.YthaecdelaifccaaGreat
