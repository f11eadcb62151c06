/-
  No cell of these rows narrows 'for every input' (looked for: loops, veiled, ifaces, maps, wideKeys, modest, calm, conditions, laid).
  DERIVED. THE GIVEN ROWS OF THIS SEAT. 4 by the template 'for every input the law returns true; each argument reads behind the call as it read before'; 0 by the template 'total and deterministic' (their statements: YtjmncaoddfggnaaTotals.lean).
  GIVEN WITH THE SEED: the statements are not yours to turn. If you find one false, say at which input.
  Laid BY PROGRAM, IN A SANDBOX (cutbox-rows.mjs): the forced cells as the released guide's own fill.sh prints them over the translation 615e3637a8b59ee3… (all of the seat's roots in one cut). By AI agents, Wed Nov 11 2026. No macro, syntax, notation, axiom, sorry.
-/
import Derived.Test.YtjmncaoddfggnaaChecked
import GoSem.Claim
import GoSem.ClaimJoined
import GoSem.ClaimMapViews
import Derived.JoinedTies
import Derived.KernelRfl
namespace Go.Proofs.Ytjmncaoddfggnaa
/- THE CELL 'sum', in the pinned program and in every row, IS THE sha256 OF THE DUMP (.gsa) THAT YtjmncaoddfggnaaProg.lean LOADS. Nothing in Lean hashes anything: it is a label: what it is worth is what the hold of that sum in a sandbox is worth. -/
noncomputable def Try.pinned : Pinned := { name := "ytjmncaoddfggnaa", sum := "615e3637a8b59ee3b5af52717fcdb36345f9c3b3e1fb73ddfa8374c3ccfbf022", checked := Try.checked }
namespace Rows
def none {H : Type} : Left H := { results := [], args := [] }

/-- 'laws.FnExactCheckRange': WHATEVER THE INPUT: true; the input reads as it did. -/
def fnExactCheckRangeSpec : ChangeSpec := { name := "fnExactCheckRange", fn := fun _ => fun
  | [d1, d2, d3, d4, d5] => { results := [.lit (.bool true)], args := [d1, d2, d3, d4, d5] }
  | _ => none }
def fnExactCheckRangeRow : OpenClaim := { program := "ytjmncaoddfggnaa", sum := "615e3637a8b59ee3b5af52717fcdb36345f9c3b3e1fb73ddfa8374c3ccfbf022", func := "loop.example/g01174/laws.FnExactCheckRange", spec := "fnExactCheckRange", unfollowed := true, recurses := true, apart := false }
def FnExactCheckRangeSaid : Prop := fnExactCheckRangeRow.holds Try.pinned (OpenSpec.ofChange fnExactCheckRangeSpec)

/-- ITS FALSE NEIGHBOUR: 'it returns false'. Refute it at one input. -/
def fnExactCheckRangeWrong : ChangeSpec := { name := "fnExactCheckRange", fn := fun _ => fun
  | [d1, d2, d3, d4, d5] => { results := [.lit (.bool false)], args := [d1, d2, d3, d4, d5] }
  | _ => none }
def FnExactCheckRangeWrongFalsely : Prop := fnExactCheckRangeRow.holds Try.pinned (OpenSpec.ofChange fnExactCheckRangeWrong)

/-- 'laws.FnExactCheckGrowth': WHATEVER THE INPUT: true; the input reads as it did. -/
def fnExactCheckGrowthSpec : ChangeSpec := { name := "fnExactCheckGrowth", fn := fun _ => fun
  | [d1, d2, d3, d4, d5] => { results := [.lit (.bool true)], args := [d1, d2, d3, d4, d5] }
  | _ => none }
def fnExactCheckGrowthRow : OpenClaim := { program := "ytjmncaoddfggnaa", sum := "615e3637a8b59ee3b5af52717fcdb36345f9c3b3e1fb73ddfa8374c3ccfbf022", func := "loop.example/g01174/laws.FnExactCheckGrowth", spec := "fnExactCheckGrowth", unfollowed := true, recurses := true, apart := false }
def FnExactCheckGrowthSaid : Prop := fnExactCheckGrowthRow.holds Try.pinned (OpenSpec.ofChange fnExactCheckGrowthSpec)

/-- ITS FALSE NEIGHBOUR: 'it returns false'. Refute it at one input. -/
def fnExactCheckGrowthWrong : ChangeSpec := { name := "fnExactCheckGrowth", fn := fun _ => fun
  | [d1, d2, d3, d4, d5] => { results := [.lit (.bool false)], args := [d1, d2, d3, d4, d5] }
  | _ => none }
def FnExactCheckGrowthWrongFalsely : Prop := fnExactCheckGrowthRow.holds Try.pinned (OpenSpec.ofChange fnExactCheckGrowthWrong)

/-- 'laws.FnGrowth': WHATEVER THE INPUT: true; the input reads as it did. -/
def fnGrowthSpec : ChangeSpec := { name := "fnGrowth", fn := fun _ => fun
  | [d1, d2] => { results := [.lit (.bool true)], args := [d1, d2] }
  | _ => none }
def fnGrowthRow : OpenClaim := { program := "ytjmncaoddfggnaa", sum := "615e3637a8b59ee3b5af52717fcdb36345f9c3b3e1fb73ddfa8374c3ccfbf022", func := "loop.example/g01174/laws.FnGrowth", spec := "fnGrowth", unfollowed := true, recurses := true, apart := false }
def FnGrowthSaid : Prop := fnGrowthRow.holds Try.pinned (OpenSpec.ofChange fnGrowthSpec)

/-- ITS FALSE NEIGHBOUR: 'it returns false'. Refute it at one input. -/
def fnGrowthWrong : ChangeSpec := { name := "fnGrowth", fn := fun _ => fun
  | [d1, d2] => { results := [.lit (.bool false)], args := [d1, d2] }
  | _ => none }
def FnGrowthWrongFalsely : Prop := fnGrowthRow.holds Try.pinned (OpenSpec.ofChange fnGrowthWrong)

/-- 'laws.FnRangeProofs': WHATEVER THE INPUT: true; the input reads as it did. -/
def fnRangeProofsSpec : ChangeSpec := { name := "fnRangeProofs", fn := fun _ => fun
  | [d1, d2] => { results := [.lit (.bool true)], args := [d1, d2] }
  | _ => none }
def fnRangeProofsRow : OpenClaim := { program := "ytjmncaoddfggnaa", sum := "615e3637a8b59ee3b5af52717fcdb36345f9c3b3e1fb73ddfa8374c3ccfbf022", func := "loop.example/g01174/laws.FnRangeProofs", spec := "fnRangeProofs", unfollowed := true, recurses := true, apart := false }
def FnRangeProofsSaid : Prop := fnRangeProofsRow.holds Try.pinned (OpenSpec.ofChange fnRangeProofsSpec)

/-- ITS FALSE NEIGHBOUR: 'it returns false'. Refute it at one input. -/
def fnRangeProofsWrong : ChangeSpec := { name := "fnRangeProofs", fn := fun _ => fun
  | [d1, d2] => { results := [.lit (.bool false)], args := [d1, d2] }
  | _ => none }
def FnRangeProofsWrongFalsely : Prop := fnRangeProofsRow.holds Try.pinned (OpenSpec.ofChange fnRangeProofsWrong)

/- THE SECOND FORM. 'bulk': how many values and letters a reading holds, each counted each time it is reached (what is shared counts as often as it is met; a slice's spare places count too). A statement '..UptoSaid' is the law's where the arguments, and the package variables that the reading takes, are together of bulk at most 1048576: NARROWER than '..Said'. Prove '..Said' where nothing that the law and all that it calls make is longer than what came in: it says more and counts as full. Else prove '..UptoSaid'. A law counts once. -/
mutual
def uptoBulk {H : Type} : DataW H → Nat
  | .lit (.string bytes) => bytes.length + 1
  | .lit _ => 1
  | .nil => 1
  | .ptr d => uptoBulk d + 1
  | .slice elems spare => uptoBulkAll elems + uptoBulkAll spare + 1
  | .agg parts => uptoBulkAll parts + 1
  | .iface _ d => uptoBulk d + 1
  | .map entries => uptoBulkEntries entries + 1
  | .held _ => 1
def uptoBulkAll {H : Type} : List (DataW H) → Nat
  | [] => 0
  | d :: r => uptoBulk d + uptoBulkAll r
def uptoBulkEntries {H : Type} : List (Lit × DataW H) → Nat
  | [] => 0
  | x :: r => uptoBulkEntry x + uptoBulkEntries r
def uptoBulkEntry {H : Type} : Lit × DataW H → Nat
  | (.string bytes, d) => bytes.length + uptoBulk d + 1
  | (_, d) => uptoBulk d + 1
 end
def uptoSmall : (H : Type) → List (DataW H) → Bool := fun _ ds => decide (uptoBulkAll ds ≤ 1048576)
def OpenSpec.upto (s : _root_.Go.ChangeSpec) : _root_.Go.OpenSpec := { _root_.Go.OpenSpec.ofChange s with cond := some uptoSmall }

/-- 'laws.FnExactCheckRange', WHERE WHAT IT READS IS OF BULK AT MOST 1048576: true; the input reads as it did. -/
def fnExactCheckRangeUptoRow : OpenClaim := { program := "ytjmncaoddfggnaa", sum := "615e3637a8b59ee3b5af52717fcdb36345f9c3b3e1fb73ddfa8374c3ccfbf022", func := "loop.example/g01174/laws.FnExactCheckRange", spec := "fnExactCheckRange", unfollowed := true, recurses := true, apart := false, narrowed := true }
def FnExactCheckRangeUptoSaid : Prop := fnExactCheckRangeUptoRow.holds Try.pinned (OpenSpec.upto fnExactCheckRangeSpec)

/-- 'laws.FnExactCheckGrowth', WHERE WHAT IT READS IS OF BULK AT MOST 1048576: true; the input reads as it did. -/
def fnExactCheckGrowthUptoRow : OpenClaim := { program := "ytjmncaoddfggnaa", sum := "615e3637a8b59ee3b5af52717fcdb36345f9c3b3e1fb73ddfa8374c3ccfbf022", func := "loop.example/g01174/laws.FnExactCheckGrowth", spec := "fnExactCheckGrowth", unfollowed := true, recurses := true, apart := false, narrowed := true }
def FnExactCheckGrowthUptoSaid : Prop := fnExactCheckGrowthUptoRow.holds Try.pinned (OpenSpec.upto fnExactCheckGrowthSpec)

/-- 'laws.FnGrowth', WHERE WHAT IT READS IS OF BULK AT MOST 1048576: true; the input reads as it did. -/
def fnGrowthUptoRow : OpenClaim := { program := "ytjmncaoddfggnaa", sum := "615e3637a8b59ee3b5af52717fcdb36345f9c3b3e1fb73ddfa8374c3ccfbf022", func := "loop.example/g01174/laws.FnGrowth", spec := "fnGrowth", unfollowed := true, recurses := true, apart := false, narrowed := true }
def FnGrowthUptoSaid : Prop := fnGrowthUptoRow.holds Try.pinned (OpenSpec.upto fnGrowthSpec)

/-- 'laws.FnRangeProofs', WHERE WHAT IT READS IS OF BULK AT MOST 1048576: true; the input reads as it did. -/
def fnRangeProofsUptoRow : OpenClaim := { program := "ytjmncaoddfggnaa", sum := "615e3637a8b59ee3b5af52717fcdb36345f9c3b3e1fb73ddfa8374c3ccfbf022", func := "loop.example/g01174/laws.FnRangeProofs", spec := "fnRangeProofs", unfollowed := true, recurses := true, apart := false, narrowed := true }
def FnRangeProofsUptoSaid : Prop := fnRangeProofsUptoRow.holds Try.pinned (OpenSpec.upto fnRangeProofsSpec)

end Rows
end Go.Proofs.Ytjmncaoddfggnaa
