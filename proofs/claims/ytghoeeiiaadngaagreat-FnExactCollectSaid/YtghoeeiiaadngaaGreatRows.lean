/-
  No cell of these rows narrows 'for every input' (looked for: loops, veiled, ifaces, maps, wideKeys, modest, calm, conditions, laid).
  DERIVED. THE GIVEN ROWS OF THIS SEAT. 7 by the template 'for every input the law returns true; each argument reads behind the call as it read before'; 0 by the template 'total and deterministic' (their statements: YtghoeeiiaadngaaGreatTotals.lean).
  GIVEN WITH THE SEED: the statements are not yours to turn. If you find one false, say at which input.
  Laid BY PROGRAM, IN A SANDBOX (cutbox-rows.mjs): the forced cells as the released guide's own fill.sh prints them over the translation e8d780f0b8078822… (all of the seat's roots in one cut). By AI agents, Wed Nov 11 2026. No macro, syntax, notation, axiom, sorry.
-/
import Derived.Test.YtghoeeiiaadngaaGreatChecked
import GoSem.Claim
import GoSem.ClaimJoined
import GoSem.ClaimMapViews
import Derived.JoinedTies
import Derived.KernelRfl
namespace Go.Proofs.YtghoeeiiaadngaaGreat
/- THE CELL 'sum', in the pinned program and in every row, IS THE sha256 OF THE DUMP (.gsa) THAT YtghoeeiiaadngaaGreatProg.lean LOADS. Nothing in Lean hashes anything: it is a label: what it is worth is what the hold of that sum in a sandbox is worth. -/
noncomputable def Tryz.pinned : Pinned := { name := "ytghoeeiiaadngaagreat", sum := "e8d780f0b8078822456cad697959a3c70b6abbdd0e819bf89018a4785b74236b", checked := Tryz.checked }
namespace Rows
def none {H : Type} : Left H := { results := [], args := [] }

/-- 'laws.FnExactLinkPath': WHATEVER THE INPUT: true; the input reads as it did. -/
def fnExactLinkPathSpec : ChangeSpec := { name := "fnExactLinkPath", fn := fun _ => fun
  | [d1, d2, d3] => { results := [.lit (.bool true)], args := [d1, d2, d3] }
  | _ => none }
def fnExactLinkPathRow : OpenClaim := { program := "ytghoeeiiaadngaagreat", sum := "e8d780f0b8078822456cad697959a3c70b6abbdd0e819bf89018a4785b74236b", func := "loop.example/g01174/laws.FnExactLinkPath", spec := "fnExactLinkPath", unfollowed := true, recurses := true, plainKeys := false, apart := false }
def FnExactLinkPathSaid : Prop := fnExactLinkPathRow.holds Tryz.pinned (OpenSpec.ofChange fnExactLinkPathSpec)

/-- ITS FALSE NEIGHBOUR: 'it returns false'. Refute it at one input. -/
def fnExactLinkPathWrong : ChangeSpec := { name := "fnExactLinkPath", fn := fun _ => fun
  | [d1, d2, d3] => { results := [.lit (.bool false)], args := [d1, d2, d3] }
  | _ => none }
def FnExactLinkPathWrongFalsely : Prop := fnExactLinkPathRow.holds Tryz.pinned (OpenSpec.ofChange fnExactLinkPathWrong)

/-- 'laws.FnExactReachableFrom': WHATEVER THE INPUT: true; the input reads as it did. -/
def fnExactReachableFromSpec : ChangeSpec := { name := "fnExactReachableFrom", fn := fun _ => fun
  | [d1, d2] => { results := [.lit (.bool true)], args := [d1, d2] }
  | _ => none }
def fnExactReachableFromRow : OpenClaim := { program := "ytghoeeiiaadngaagreat", sum := "e8d780f0b8078822456cad697959a3c70b6abbdd0e819bf89018a4785b74236b", func := "loop.example/g01174/laws.FnExactReachableFrom", spec := "fnExactReachableFrom", unfollowed := true, recurses := true, plainKeys := false, apart := false }
def FnExactReachableFromSaid : Prop := fnExactReachableFromRow.holds Tryz.pinned (OpenSpec.ofChange fnExactReachableFromSpec)

/-- ITS FALSE NEIGHBOUR: 'it returns false'. Refute it at one input. -/
def fnExactReachableFromWrong : ChangeSpec := { name := "fnExactReachableFrom", fn := fun _ => fun
  | [d1, d2] => { results := [.lit (.bool false)], args := [d1, d2] }
  | _ => none }
def FnExactReachableFromWrongFalsely : Prop := fnExactReachableFromRow.holds Tryz.pinned (OpenSpec.ofChange fnExactReachableFromWrong)

/-- 'laws.FnExactMissingFrom': WHATEVER THE INPUT: true; the input reads as it did. -/
def fnExactMissingFromSpec : ChangeSpec := { name := "fnExactMissingFrom", fn := fun _ => fun
  | [d1, d2] => { results := [.lit (.bool true)], args := [d1, d2] }
  | _ => none }
def fnExactMissingFromRow : OpenClaim := { program := "ytghoeeiiaadngaagreat", sum := "e8d780f0b8078822456cad697959a3c70b6abbdd0e819bf89018a4785b74236b", func := "loop.example/g01174/laws.FnExactMissingFrom", spec := "fnExactMissingFrom", unfollowed := true, recurses := true, plainKeys := false, apart := false }
def FnExactMissingFromSaid : Prop := fnExactMissingFromRow.holds Tryz.pinned (OpenSpec.ofChange fnExactMissingFromSpec)

/-- ITS FALSE NEIGHBOUR: 'it returns false'. Refute it at one input. -/
def fnExactMissingFromWrong : ChangeSpec := { name := "fnExactMissingFrom", fn := fun _ => fun
  | [d1, d2] => { results := [.lit (.bool false)], args := [d1, d2] }
  | _ => none }
def FnExactMissingFromWrongFalsely : Prop := fnExactMissingFromRow.holds Tryz.pinned (OpenSpec.ofChange fnExactMissingFromWrong)

/-- 'laws.FnExactDeadIn': WHATEVER THE INPUT: true; the input reads as it did. -/
def fnExactDeadInSpec : ChangeSpec := { name := "fnExactDeadIn", fn := fun _ => fun
  | [d1, d2, d3, d4] => { results := [.lit (.bool true)], args := [d1, d2, d3, d4] }
  | _ => none }
def fnExactDeadInRow : OpenClaim := { program := "ytghoeeiiaadngaagreat", sum := "e8d780f0b8078822456cad697959a3c70b6abbdd0e819bf89018a4785b74236b", func := "loop.example/g01174/laws.FnExactDeadIn", spec := "fnExactDeadIn", unfollowed := true, recurses := true, plainKeys := false, apart := false }
def FnExactDeadInSaid : Prop := fnExactDeadInRow.holds Tryz.pinned (OpenSpec.ofChange fnExactDeadInSpec)

/-- ITS FALSE NEIGHBOUR: 'it returns false'. Refute it at one input. -/
def fnExactDeadInWrong : ChangeSpec := { name := "fnExactDeadIn", fn := fun _ => fun
  | [d1, d2, d3, d4] => { results := [.lit (.bool false)], args := [d1, d2, d3, d4] }
  | _ => none }
def FnExactDeadInWrongFalsely : Prop := fnExactDeadInRow.holds Tryz.pinned (OpenSpec.ofChange fnExactDeadInWrong)

/-- 'laws.FnCollected': WHATEVER THE INPUT: true; the input reads as it did. -/
def fnCollectedSpec : ChangeSpec := { name := "fnCollected", fn := fun _ => fun
  | [d1, d2] => { results := [.lit (.bool true)], args := [d1, d2] }
  | _ => none }
def fnCollectedRow : OpenClaim := { program := "ytghoeeiiaadngaagreat", sum := "e8d780f0b8078822456cad697959a3c70b6abbdd0e819bf89018a4785b74236b", func := "loop.example/g01174/laws.FnCollected", spec := "fnCollected", unfollowed := true, recurses := true, plainKeys := false, apart := false }
def FnCollectedSaid : Prop := fnCollectedRow.holds Tryz.pinned (OpenSpec.ofChange fnCollectedSpec)

/-- ITS FALSE NEIGHBOUR: 'it returns false'. Refute it at one input. -/
def fnCollectedWrong : ChangeSpec := { name := "fnCollected", fn := fun _ => fun
  | [d1, d2] => { results := [.lit (.bool false)], args := [d1, d2] }
  | _ => none }
def FnCollectedWrongFalsely : Prop := fnCollectedRow.holds Tryz.pinned (OpenSpec.ofChange fnCollectedWrong)

/-- 'laws.FnExactCollect': WHATEVER THE INPUT: true; the input reads as it did. -/
def fnExactCollectSpec : ChangeSpec := { name := "fnExactCollect", fn := fun _ => fun
  | [d1, d2, d3, d4] => { results := [.lit (.bool true)], args := [d1, d2, d3, d4] }
  | _ => none }
def fnExactCollectRow : OpenClaim := { program := "ytghoeeiiaadngaagreat", sum := "e8d780f0b8078822456cad697959a3c70b6abbdd0e819bf89018a4785b74236b", func := "loop.example/g01174/laws.FnExactCollect", spec := "fnExactCollect", unfollowed := true, recurses := true, plainKeys := false, apart := false }
def FnExactCollectSaid : Prop := fnExactCollectRow.holds Tryz.pinned (OpenSpec.ofChange fnExactCollectSpec)

/-- ITS FALSE NEIGHBOUR: 'it returns false'. Refute it at one input. -/
def fnExactCollectWrong : ChangeSpec := { name := "fnExactCollect", fn := fun _ => fun
  | [d1, d2, d3, d4] => { results := [.lit (.bool false)], args := [d1, d2, d3, d4] }
  | _ => none }
def FnExactCollectWrongFalsely : Prop := fnExactCollectRow.holds Tryz.pinned (OpenSpec.ofChange fnExactCollectWrong)

/-- 'laws.FnLinks': WHATEVER THE INPUT: true; the input reads as it did. -/
def fnLinksSpec : ChangeSpec := { name := "fnLinks", fn := fun _ => fun
  | [d1, d2] => { results := [.lit (.bool true)], args := [d1, d2] }
  | _ => none }
def fnLinksRow : OpenClaim := { program := "ytghoeeiiaadngaagreat", sum := "e8d780f0b8078822456cad697959a3c70b6abbdd0e819bf89018a4785b74236b", func := "loop.example/g01174/laws.FnLinks", spec := "fnLinks", unfollowed := true, recurses := true, plainKeys := false, apart := false }
def FnLinksSaid : Prop := fnLinksRow.holds Tryz.pinned (OpenSpec.ofChange fnLinksSpec)

/-- ITS FALSE NEIGHBOUR: 'it returns false'. Refute it at one input. -/
def fnLinksWrong : ChangeSpec := { name := "fnLinks", fn := fun _ => fun
  | [d1, d2] => { results := [.lit (.bool false)], args := [d1, d2] }
  | _ => none }
def FnLinksWrongFalsely : Prop := fnLinksRow.holds Tryz.pinned (OpenSpec.ofChange fnLinksWrong)

/- THE SECOND FORM. 'bulk': how many values and letters a reading holds, each counted each time it is reached (what is shared counts as often as it is met; a slice's spare places count too). A statement '..UptoSaid' is the law's where the arguments, and the package variables that the reading takes, are together of bulk at most 1048576: NARROWER than '..Said'. Prove '..Said' where nothing that the law and all that it calls make is longer than what came in: it says more and counts as full. Else prove '..UptoSaid'. A law counts once. -/
mutual
def uptoBulk {H : Type} : DataW H → Nat
  | .lit (.string bytes) => bytes.length + 1
  | .lit _ => 1
  | .nil => 1
  | .ptr d => uptoBulk d + 1
  | .slice elems spare => uptoBulkAll elems + uptoBulkAll spare + 1
  | .agg parts => uptoBulkAll parts + 1
  | .iface _ d => uptoBulk d + 1
  | .map entries => uptoBulkEntries entries + 1
  | .held _ => 1
def uptoBulkAll {H : Type} : List (DataW H) → Nat
  | [] => 0
  | d :: r => uptoBulk d + uptoBulkAll r
def uptoBulkEntries {H : Type} : List (Lit × DataW H) → Nat
  | [] => 0
  | x :: r => uptoBulkEntry x + uptoBulkEntries r
def uptoBulkEntry {H : Type} : Lit × DataW H → Nat
  | (.string bytes, d) => bytes.length + uptoBulk d + 1
  | (_, d) => uptoBulk d + 1
 end
def uptoSmall : (H : Type) → List (DataW H) → Bool := fun _ ds => decide (uptoBulkAll ds ≤ 1048576)
def OpenSpec.upto (s : _root_.Go.ChangeSpec) : _root_.Go.OpenSpec := { _root_.Go.OpenSpec.ofChange s with cond := some uptoSmall }

/-- 'laws.FnExactLinkPath', WHERE WHAT IT READS IS OF BULK AT MOST 1048576: true; the input reads as it did. -/
def fnExactLinkPathUptoRow : OpenClaim := { program := "ytghoeeiiaadngaagreat", sum := "e8d780f0b8078822456cad697959a3c70b6abbdd0e819bf89018a4785b74236b", func := "loop.example/g01174/laws.FnExactLinkPath", spec := "fnExactLinkPath", unfollowed := true, recurses := true, plainKeys := false, apart := false, narrowed := true }
def FnExactLinkPathUptoSaid : Prop := fnExactLinkPathUptoRow.holds Tryz.pinned (OpenSpec.upto fnExactLinkPathSpec)

/-- 'laws.FnExactReachableFrom', WHERE WHAT IT READS IS OF BULK AT MOST 1048576: true; the input reads as it did. -/
def fnExactReachableFromUptoRow : OpenClaim := { program := "ytghoeeiiaadngaagreat", sum := "e8d780f0b8078822456cad697959a3c70b6abbdd0e819bf89018a4785b74236b", func := "loop.example/g01174/laws.FnExactReachableFrom", spec := "fnExactReachableFrom", unfollowed := true, recurses := true, plainKeys := false, apart := false, narrowed := true }
def FnExactReachableFromUptoSaid : Prop := fnExactReachableFromUptoRow.holds Tryz.pinned (OpenSpec.upto fnExactReachableFromSpec)

/-- 'laws.FnExactMissingFrom', WHERE WHAT IT READS IS OF BULK AT MOST 1048576: true; the input reads as it did. -/
def fnExactMissingFromUptoRow : OpenClaim := { program := "ytghoeeiiaadngaagreat", sum := "e8d780f0b8078822456cad697959a3c70b6abbdd0e819bf89018a4785b74236b", func := "loop.example/g01174/laws.FnExactMissingFrom", spec := "fnExactMissingFrom", unfollowed := true, recurses := true, plainKeys := false, apart := false, narrowed := true }
def FnExactMissingFromUptoSaid : Prop := fnExactMissingFromUptoRow.holds Tryz.pinned (OpenSpec.upto fnExactMissingFromSpec)

/-- 'laws.FnExactDeadIn', WHERE WHAT IT READS IS OF BULK AT MOST 1048576: true; the input reads as it did. -/
def fnExactDeadInUptoRow : OpenClaim := { program := "ytghoeeiiaadngaagreat", sum := "e8d780f0b8078822456cad697959a3c70b6abbdd0e819bf89018a4785b74236b", func := "loop.example/g01174/laws.FnExactDeadIn", spec := "fnExactDeadIn", unfollowed := true, recurses := true, plainKeys := false, apart := false, narrowed := true }
def FnExactDeadInUptoSaid : Prop := fnExactDeadInUptoRow.holds Tryz.pinned (OpenSpec.upto fnExactDeadInSpec)

/-- 'laws.FnCollected', WHERE WHAT IT READS IS OF BULK AT MOST 1048576: true; the input reads as it did. -/
def fnCollectedUptoRow : OpenClaim := { program := "ytghoeeiiaadngaagreat", sum := "e8d780f0b8078822456cad697959a3c70b6abbdd0e819bf89018a4785b74236b", func := "loop.example/g01174/laws.FnCollected", spec := "fnCollected", unfollowed := true, recurses := true, plainKeys := false, apart := false, narrowed := true }
def FnCollectedUptoSaid : Prop := fnCollectedUptoRow.holds Tryz.pinned (OpenSpec.upto fnCollectedSpec)

/-- 'laws.FnExactCollect', WHERE WHAT IT READS IS OF BULK AT MOST 1048576: true; the input reads as it did. -/
def fnExactCollectUptoRow : OpenClaim := { program := "ytghoeeiiaadngaagreat", sum := "e8d780f0b8078822456cad697959a3c70b6abbdd0e819bf89018a4785b74236b", func := "loop.example/g01174/laws.FnExactCollect", spec := "fnExactCollect", unfollowed := true, recurses := true, plainKeys := false, apart := false, narrowed := true }
def FnExactCollectUptoSaid : Prop := fnExactCollectUptoRow.holds Tryz.pinned (OpenSpec.upto fnExactCollectSpec)

/-- 'laws.FnLinks', WHERE WHAT IT READS IS OF BULK AT MOST 1048576: true; the input reads as it did. -/
def fnLinksUptoRow : OpenClaim := { program := "ytghoeeiiaadngaagreat", sum := "e8d780f0b8078822456cad697959a3c70b6abbdd0e819bf89018a4785b74236b", func := "loop.example/g01174/laws.FnLinks", spec := "fnLinks", unfollowed := true, recurses := true, plainKeys := false, apart := false, narrowed := true }
def FnLinksUptoSaid : Prop := fnLinksUptoRow.holds Tryz.pinned (OpenSpec.upto fnLinksSpec)

end Rows
end Go.Proofs.YtghoeeiiaadngaaGreat
