/-
  No cell of these rows narrows 'for every input' (looked for: loops, veiled, ifaces, maps, wideKeys, modest, calm, conditions, laid).
  DERIVED. THE GIVEN ROWS OF THIS SEAT. 7 by the template 'for every input the law returns true; each argument reads behind the call as it read before'; 0 by the template 'total and deterministic' (their statements: YtkifkdkjljcclaaGreatTotals.lean).
  GIVEN WITH THE SEED: the statements are not yours to turn. If you find one false, say at which input.
  Laid BY PROGRAM, IN A SANDBOX (cutbox-rows.mjs): the forced cells as the released guide's own fill.sh prints them over the translation 37b771b3fca7e5ed… (all of the seat's roots in one cut). By AI agents, Wed Nov 11 2026. No macro, syntax, notation, axiom, sorry.
-/
import Derived.Test.YtkifkdkjljcclaaGreatChecked
import GoSem.Claim
import GoSem.ClaimJoined
import GoSem.ClaimMapViews
import Derived.JoinedTies
import Derived.KernelRfl
namespace Go.Proofs.YtkifkdkjljcclaaGreat
/- THE CELL 'sum', in the pinned program and in every row, IS THE sha256 OF THE DUMP (.gsa) THAT YtkifkdkjljcclaaGreatProg.lean LOADS. Nothing in Lean hashes anything: it is a label: what it is worth is what the hold of that sum in a sandbox is worth. -/
noncomputable def Tryz.pinned : Pinned := { name := "ytkifkdkjljcclaagreat", sum := "37b771b3fca7e5ed54623578b87687dd0705a8393a914cdf3099bba362122c9e", checked := Tryz.checked }
namespace Rows
def none {H : Type} : Left H := { results := [], args := [] }

/-- 'laws.FnTorn': WHATEVER THE INPUT: true; the input reads as it did. -/
def fnTornSpec : ChangeSpec := { name := "fnTorn", fn := fun _ => fun
  | [d1, d2] => { results := [.lit (.bool true)], args := [d1, d2] }
  | _ => none }
def fnTornRow : OpenClaim := { program := "ytkifkdkjljcclaagreat", sum := "37b771b3fca7e5ed54623578b87687dd0705a8393a914cdf3099bba362122c9e", func := "loop.example/g01174/laws.FnTorn", spec := "fnTorn", unfollowed := true, recurses := true, plainKeys := false, apart := false }
def FnTornSaid : Prop := fnTornRow.holds Tryz.pinned (OpenSpec.ofChange fnTornSpec)

/-- ITS FALSE NEIGHBOUR: 'it returns false'. Refute it at one input. -/
def fnTornWrong : ChangeSpec := { name := "fnTorn", fn := fun _ => fun
  | [d1, d2] => { results := [.lit (.bool false)], args := [d1, d2] }
  | _ => none }
def FnTornWrongFalsely : Prop := fnTornRow.holds Tryz.pinned (OpenSpec.ofChange fnTornWrong)

/-- 'laws.FnAncestors': WHATEVER THE INPUT: true; the input reads as it did. -/
def fnAncestorsSpec : ChangeSpec := { name := "fnAncestors", fn := fun _ => fun
  | [d1, d2] => { results := [.lit (.bool true)], args := [d1, d2] }
  | _ => none }
def fnAncestorsRow : OpenClaim := { program := "ytkifkdkjljcclaagreat", sum := "37b771b3fca7e5ed54623578b87687dd0705a8393a914cdf3099bba362122c9e", func := "loop.example/g01174/laws.FnAncestors", spec := "fnAncestors", unfollowed := true, recurses := true, plainKeys := false, apart := false }
def FnAncestorsSaid : Prop := fnAncestorsRow.holds Tryz.pinned (OpenSpec.ofChange fnAncestorsSpec)

/-- ITS FALSE NEIGHBOUR: 'it returns false'. Refute it at one input. -/
def fnAncestorsWrong : ChangeSpec := { name := "fnAncestors", fn := fun _ => fun
  | [d1, d2] => { results := [.lit (.bool false)], args := [d1, d2] }
  | _ => none }
def FnAncestorsWrongFalsely : Prop := fnAncestorsRow.holds Tryz.pinned (OpenSpec.ofChange fnAncestorsWrong)

/-- 'laws.FnCollected': WHATEVER THE INPUT: true; the input reads as it did. -/
def fnCollectedSpec : ChangeSpec := { name := "fnCollected", fn := fun _ => fun
  | [d1, d2] => { results := [.lit (.bool true)], args := [d1, d2] }
  | _ => none }
def fnCollectedRow : OpenClaim := { program := "ytkifkdkjljcclaagreat", sum := "37b771b3fca7e5ed54623578b87687dd0705a8393a914cdf3099bba362122c9e", func := "loop.example/g01174/laws.FnCollected", spec := "fnCollected", unfollowed := true, recurses := true, plainKeys := false, apart := false }
def FnCollectedSaid : Prop := fnCollectedRow.holds Tryz.pinned (OpenSpec.ofChange fnCollectedSpec)

/-- ITS FALSE NEIGHBOUR: 'it returns false'. Refute it at one input. -/
def fnCollectedWrong : ChangeSpec := { name := "fnCollected", fn := fun _ => fun
  | [d1, d2] => { results := [.lit (.bool false)], args := [d1, d2] }
  | _ => none }
def FnCollectedWrongFalsely : Prop := fnCollectedRow.holds Tryz.pinned (OpenSpec.ofChange fnCollectedWrong)

/-- 'laws.FnCommits': WHATEVER THE INPUT: true; the input reads as it did. -/
def fnCommitsSpec : ChangeSpec := { name := "fnCommits", fn := fun _ => fun
  | [d1, d2] => { results := [.lit (.bool true)], args := [d1, d2] }
  | _ => none }
def fnCommitsRow : OpenClaim := { program := "ytkifkdkjljcclaagreat", sum := "37b771b3fca7e5ed54623578b87687dd0705a8393a914cdf3099bba362122c9e", func := "loop.example/g01174/laws.FnCommits", spec := "fnCommits", unfollowed := true, recurses := true, plainKeys := false, apart := false }
def FnCommitsSaid : Prop := fnCommitsRow.holds Tryz.pinned (OpenSpec.ofChange fnCommitsSpec)

/-- ITS FALSE NEIGHBOUR: 'it returns false'. Refute it at one input. -/
def fnCommitsWrong : ChangeSpec := { name := "fnCommits", fn := fun _ => fun
  | [d1, d2] => { results := [.lit (.bool false)], args := [d1, d2] }
  | _ => none }
def FnCommitsWrongFalsely : Prop := fnCommitsRow.holds Tryz.pinned (OpenSpec.ofChange fnCommitsWrong)

/-- 'laws.FnExactPackReachable': WHATEVER THE INPUT: true; the input reads as it did. -/
def fnExactPackReachableSpec : ChangeSpec := { name := "fnExactPackReachable", fn := fun _ => fun
  | [d1, d2] => { results := [.lit (.bool true)], args := [d1, d2] }
  | _ => none }
def fnExactPackReachableRow : OpenClaim := { program := "ytkifkdkjljcclaagreat", sum := "37b771b3fca7e5ed54623578b87687dd0705a8393a914cdf3099bba362122c9e", func := "loop.example/g01174/laws.FnExactPackReachable", spec := "fnExactPackReachable", unfollowed := true, recurses := true, plainKeys := false, apart := false }
def FnExactPackReachableSaid : Prop := fnExactPackReachableRow.holds Tryz.pinned (OpenSpec.ofChange fnExactPackReachableSpec)

/-- ITS FALSE NEIGHBOUR: 'it returns false'. Refute it at one input. -/
def fnExactPackReachableWrong : ChangeSpec := { name := "fnExactPackReachable", fn := fun _ => fun
  | [d1, d2] => { results := [.lit (.bool false)], args := [d1, d2] }
  | _ => none }
def FnExactPackReachableWrongFalsely : Prop := fnExactPackReachableRow.holds Tryz.pinned (OpenSpec.ofChange fnExactPackReachableWrong)

/-- 'laws.FnLinks': WHATEVER THE INPUT: true; the input reads as it did. -/
def fnLinksSpec : ChangeSpec := { name := "fnLinks", fn := fun _ => fun
  | [d1, d2] => { results := [.lit (.bool true)], args := [d1, d2] }
  | _ => none }
def fnLinksRow : OpenClaim := { program := "ytkifkdkjljcclaagreat", sum := "37b771b3fca7e5ed54623578b87687dd0705a8393a914cdf3099bba362122c9e", func := "loop.example/g01174/laws.FnLinks", spec := "fnLinks", unfollowed := true, recurses := true, plainKeys := false, apart := false }
def FnLinksSaid : Prop := fnLinksRow.holds Tryz.pinned (OpenSpec.ofChange fnLinksSpec)

/-- ITS FALSE NEIGHBOUR: 'it returns false'. Refute it at one input. -/
def fnLinksWrong : ChangeSpec := { name := "fnLinks", fn := fun _ => fun
  | [d1, d2] => { results := [.lit (.bool false)], args := [d1, d2] }
  | _ => none }
def FnLinksWrongFalsely : Prop := fnLinksRow.holds Tryz.pinned (OpenSpec.ofChange fnLinksWrong)

/-- 'laws.FnLoaded': WHATEVER THE INPUT: true; the input reads as it did. -/
def fnLoadedSpec : ChangeSpec := { name := "fnLoaded", fn := fun _ => fun
  | [d1, d2] => { results := [.lit (.bool true)], args := [d1, d2] }
  | _ => none }
def fnLoadedRow : OpenClaim := { program := "ytkifkdkjljcclaagreat", sum := "37b771b3fca7e5ed54623578b87687dd0705a8393a914cdf3099bba362122c9e", func := "loop.example/g01174/laws.FnLoaded", spec := "fnLoaded", inPlace := ["slices.overlaps[loop.example/g01174/impl.Key]", "slices.overlaps[loop.example/g01174/impl.Blob]"], unfollowed := true, recurses := true, plainKeys := false, apart := false }
def FnLoadedSaid : Prop := fnLoadedRow.holds Tryz.pinned (OpenSpec.ofChange fnLoadedSpec)

/-- ITS FALSE NEIGHBOUR: 'it returns false'. Refute it at one input. -/
def fnLoadedWrong : ChangeSpec := { name := "fnLoaded", fn := fun _ => fun
  | [d1, d2] => { results := [.lit (.bool false)], args := [d1, d2] }
  | _ => none }
def FnLoadedWrongFalsely : Prop := fnLoadedRow.holds Tryz.pinned (OpenSpec.ofChange fnLoadedWrong)

/- THE SECOND FORM. 'bulk': how many values and letters a reading holds, each counted each time it is reached (what is shared counts as often as it is met; a slice's spare places count too). A statement '..UptoSaid' is the law's where the arguments, and the package variables that the reading takes, are together of bulk at most 1048576: NARROWER than '..Said'. Prove '..Said' where nothing that the law and all that it calls make is longer than what came in: it says more and counts as full. Else prove '..UptoSaid'. A law counts once. -/
mutual
def uptoBulk {H : Type} : DataW H → Nat
  | .lit (.string bytes) => bytes.length + 1
  | .lit _ => 1
  | .nil => 1
  | .ptr d => uptoBulk d + 1
  | .slice elems spare => uptoBulkAll elems + uptoBulkAll spare + 1
  | .agg parts => uptoBulkAll parts + 1
  | .iface _ d => uptoBulk d + 1
  | .map entries => uptoBulkEntries entries + 1
  | .held _ => 1
def uptoBulkAll {H : Type} : List (DataW H) → Nat
  | [] => 0
  | d :: r => uptoBulk d + uptoBulkAll r
def uptoBulkEntries {H : Type} : List (Lit × DataW H) → Nat
  | [] => 0
  | x :: r => uptoBulkEntry x + uptoBulkEntries r
def uptoBulkEntry {H : Type} : Lit × DataW H → Nat
  | (.string bytes, d) => bytes.length + uptoBulk d + 1
  | (_, d) => uptoBulk d + 1
 end
def uptoSmall : (H : Type) → List (DataW H) → Bool := fun _ ds => decide (uptoBulkAll ds ≤ 1048576)
def OpenSpec.upto (s : _root_.Go.ChangeSpec) : _root_.Go.OpenSpec := { _root_.Go.OpenSpec.ofChange s with cond := some uptoSmall }

/-- 'laws.FnTorn', WHERE WHAT IT READS IS OF BULK AT MOST 1048576: true; the input reads as it did. -/
def fnTornUptoRow : OpenClaim := { program := "ytkifkdkjljcclaagreat", sum := "37b771b3fca7e5ed54623578b87687dd0705a8393a914cdf3099bba362122c9e", func := "loop.example/g01174/laws.FnTorn", spec := "fnTorn", unfollowed := true, recurses := true, plainKeys := false, apart := false, narrowed := true }
def FnTornUptoSaid : Prop := fnTornUptoRow.holds Tryz.pinned (OpenSpec.upto fnTornSpec)

/-- 'laws.FnAncestors', WHERE WHAT IT READS IS OF BULK AT MOST 1048576: true; the input reads as it did. -/
def fnAncestorsUptoRow : OpenClaim := { program := "ytkifkdkjljcclaagreat", sum := "37b771b3fca7e5ed54623578b87687dd0705a8393a914cdf3099bba362122c9e", func := "loop.example/g01174/laws.FnAncestors", spec := "fnAncestors", unfollowed := true, recurses := true, plainKeys := false, apart := false, narrowed := true }
def FnAncestorsUptoSaid : Prop := fnAncestorsUptoRow.holds Tryz.pinned (OpenSpec.upto fnAncestorsSpec)

/-- 'laws.FnCollected', WHERE WHAT IT READS IS OF BULK AT MOST 1048576: true; the input reads as it did. -/
def fnCollectedUptoRow : OpenClaim := { program := "ytkifkdkjljcclaagreat", sum := "37b771b3fca7e5ed54623578b87687dd0705a8393a914cdf3099bba362122c9e", func := "loop.example/g01174/laws.FnCollected", spec := "fnCollected", unfollowed := true, recurses := true, plainKeys := false, apart := false, narrowed := true }
def FnCollectedUptoSaid : Prop := fnCollectedUptoRow.holds Tryz.pinned (OpenSpec.upto fnCollectedSpec)

/-- 'laws.FnCommits', WHERE WHAT IT READS IS OF BULK AT MOST 1048576: true; the input reads as it did. -/
def fnCommitsUptoRow : OpenClaim := { program := "ytkifkdkjljcclaagreat", sum := "37b771b3fca7e5ed54623578b87687dd0705a8393a914cdf3099bba362122c9e", func := "loop.example/g01174/laws.FnCommits", spec := "fnCommits", unfollowed := true, recurses := true, plainKeys := false, apart := false, narrowed := true }
def FnCommitsUptoSaid : Prop := fnCommitsUptoRow.holds Tryz.pinned (OpenSpec.upto fnCommitsSpec)

/-- 'laws.FnExactPackReachable', WHERE WHAT IT READS IS OF BULK AT MOST 1048576: true; the input reads as it did. -/
def fnExactPackReachableUptoRow : OpenClaim := { program := "ytkifkdkjljcclaagreat", sum := "37b771b3fca7e5ed54623578b87687dd0705a8393a914cdf3099bba362122c9e", func := "loop.example/g01174/laws.FnExactPackReachable", spec := "fnExactPackReachable", unfollowed := true, recurses := true, plainKeys := false, apart := false, narrowed := true }
def FnExactPackReachableUptoSaid : Prop := fnExactPackReachableUptoRow.holds Tryz.pinned (OpenSpec.upto fnExactPackReachableSpec)

/-- 'laws.FnLinks', WHERE WHAT IT READS IS OF BULK AT MOST 1048576: true; the input reads as it did. -/
def fnLinksUptoRow : OpenClaim := { program := "ytkifkdkjljcclaagreat", sum := "37b771b3fca7e5ed54623578b87687dd0705a8393a914cdf3099bba362122c9e", func := "loop.example/g01174/laws.FnLinks", spec := "fnLinks", unfollowed := true, recurses := true, plainKeys := false, apart := false, narrowed := true }
def FnLinksUptoSaid : Prop := fnLinksUptoRow.holds Tryz.pinned (OpenSpec.upto fnLinksSpec)

/-- 'laws.FnLoaded', WHERE WHAT IT READS IS OF BULK AT MOST 1048576: true; the input reads as it did. -/
def fnLoadedUptoRow : OpenClaim := { program := "ytkifkdkjljcclaagreat", sum := "37b771b3fca7e5ed54623578b87687dd0705a8393a914cdf3099bba362122c9e", func := "loop.example/g01174/laws.FnLoaded", spec := "fnLoaded", inPlace := ["slices.overlaps[loop.example/g01174/impl.Key]", "slices.overlaps[loop.example/g01174/impl.Blob]"], unfollowed := true, recurses := true, plainKeys := false, apart := false, narrowed := true }
def FnLoadedUptoSaid : Prop := fnLoadedUptoRow.holds Tryz.pinned (OpenSpec.upto fnLoadedSpec)

end Rows
end Go.Proofs.YtkifkdkjljcclaaGreat
