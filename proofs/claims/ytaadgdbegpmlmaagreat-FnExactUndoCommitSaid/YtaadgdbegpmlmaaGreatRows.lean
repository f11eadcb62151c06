/-
  No cell of these rows narrows 'for every input' (looked for: loops, veiled, ifaces, maps, wideKeys, modest, calm, conditions, laid).
  DERIVED. THE GIVEN ROWS OF THIS SEAT. 12 by the template 'for every input the law returns true; each argument reads behind the call as it read before'; 0 by the template 'total and deterministic' (their statements: YtaadgdbegpmlmaaGreatTotals.lean).
  GIVEN WITH THE SEED: the statements are not yours to turn. If you find one false, say at which input.
  Laid BY PROGRAM, IN A SANDBOX (cutbox-rows.mjs): the forced cells as the released guide's own fill.sh prints them over the translation 382b528f1b9ab4d9… (all of the seat's roots in one cut). By AI agents, Wed Nov 11 2026. No macro, syntax, notation, axiom, sorry.
-/
import Derived.Test.YtaadgdbegpmlmaaGreatChecked
import GoSem.Claim
import GoSem.ClaimJoined
import GoSem.ClaimMapViews
import Derived.JoinedTies
import Derived.KernelRfl
namespace Go.Proofs.YtaadgdbegpmlmaaGreat
/- THE CELL 'sum', in the pinned program and in every row, IS THE sha256 OF THE DUMP (.gsa) THAT YtaadgdbegpmlmaaGreatProg.lean LOADS. Nothing in Lean hashes anything: it is a label: what it is worth is what the hold of that sum in a sandbox is worth. -/
noncomputable def Tryz.pinned : Pinned := { name := "ytaadgdbegpmlmaagreat", sum := "382b528f1b9ab4d94bd04634ea84039c58b50dd16427ccab6c8ce3504e1defdc", checked := Tryz.checked }
namespace Rows
def none {H : Type} : Left H := { results := [], args := [] }

/-- 'laws.FnAncestors': WHATEVER THE INPUT: true; the input reads as it did. -/
def fnAncestorsSpec : ChangeSpec := { name := "fnAncestors", fn := fun _ => fun
  | [d1, d2] => { results := [.lit (.bool true)], args := [d1, d2] }
  | _ => none }
def fnAncestorsRow : OpenClaim := { program := "ytaadgdbegpmlmaagreat", sum := "382b528f1b9ab4d94bd04634ea84039c58b50dd16427ccab6c8ce3504e1defdc", func := "loop.example/g01174/laws.FnAncestors", spec := "fnAncestors", unfollowed := true, recurses := true, plainKeys := false, apart := false }
def FnAncestorsSaid : Prop := fnAncestorsRow.holds Tryz.pinned (OpenSpec.ofChange fnAncestorsSpec)

/-- ITS FALSE NEIGHBOUR: 'it returns false'. Refute it at one input. -/
def fnAncestorsWrong : ChangeSpec := { name := "fnAncestors", fn := fun _ => fun
  | [d1, d2] => { results := [.lit (.bool false)], args := [d1, d2] }
  | _ => none }
def FnAncestorsWrongFalsely : Prop := fnAncestorsRow.holds Tryz.pinned (OpenSpec.ofChange fnAncestorsWrong)

/-- 'laws.FnExactChangesAt': WHATEVER THE INPUT: true; the input reads as it did. -/
def fnExactChangesAtSpec : ChangeSpec := { name := "fnExactChangesAt", fn := fun _ => fun
  | [d1, d2] => { results := [.lit (.bool true)], args := [d1, d2] }
  | _ => none }
def fnExactChangesAtRow : OpenClaim := { program := "ytaadgdbegpmlmaagreat", sum := "382b528f1b9ab4d94bd04634ea84039c58b50dd16427ccab6c8ce3504e1defdc", func := "loop.example/g01174/laws.FnExactChangesAt", spec := "fnExactChangesAt", recurses := true, plainKeys := false, apart := false }
def FnExactChangesAtSaid : Prop := fnExactChangesAtRow.holds Tryz.pinned (OpenSpec.ofChange fnExactChangesAtSpec)

/-- ITS FALSE NEIGHBOUR: 'it returns false'. Refute it at one input. -/
def fnExactChangesAtWrong : ChangeSpec := { name := "fnExactChangesAt", fn := fun _ => fun
  | [d1, d2] => { results := [.lit (.bool false)], args := [d1, d2] }
  | _ => none }
def FnExactChangesAtWrongFalsely : Prop := fnExactChangesAtRow.holds Tryz.pinned (OpenSpec.ofChange fnExactChangesAtWrong)

/-- 'laws.FnCollected': WHATEVER THE INPUT: true; the input reads as it did. -/
def fnCollectedSpec : ChangeSpec := { name := "fnCollected", fn := fun _ => fun
  | [d1, d2] => { results := [.lit (.bool true)], args := [d1, d2] }
  | _ => none }
def fnCollectedRow : OpenClaim := { program := "ytaadgdbegpmlmaagreat", sum := "382b528f1b9ab4d94bd04634ea84039c58b50dd16427ccab6c8ce3504e1defdc", func := "loop.example/g01174/laws.FnCollected", spec := "fnCollected", unfollowed := true, recurses := true, plainKeys := false, apart := false }
def FnCollectedSaid : Prop := fnCollectedRow.holds Tryz.pinned (OpenSpec.ofChange fnCollectedSpec)

/-- ITS FALSE NEIGHBOUR: 'it returns false'. Refute it at one input. -/
def fnCollectedWrong : ChangeSpec := { name := "fnCollected", fn := fun _ => fun
  | [d1, d2] => { results := [.lit (.bool false)], args := [d1, d2] }
  | _ => none }
def FnCollectedWrongFalsely : Prop := fnCollectedRow.holds Tryz.pinned (OpenSpec.ofChange fnCollectedWrong)

/-- 'laws.FnExactIsAncestor': WHATEVER THE INPUT: true; the input reads as it did. -/
def fnExactIsAncestorSpec : ChangeSpec := { name := "fnExactIsAncestor", fn := fun _ => fun
  | [d1, d2, d3] => { results := [.lit (.bool true)], args := [d1, d2, d3] }
  | _ => none }
def fnExactIsAncestorRow : OpenClaim := { program := "ytaadgdbegpmlmaagreat", sum := "382b528f1b9ab4d94bd04634ea84039c58b50dd16427ccab6c8ce3504e1defdc", func := "loop.example/g01174/laws.FnExactIsAncestor", spec := "fnExactIsAncestor", unfollowed := true, recurses := true, plainKeys := false, apart := false }
def FnExactIsAncestorSaid : Prop := fnExactIsAncestorRow.holds Tryz.pinned (OpenSpec.ofChange fnExactIsAncestorSpec)

/-- ITS FALSE NEIGHBOUR: 'it returns false'. Refute it at one input. -/
def fnExactIsAncestorWrong : ChangeSpec := { name := "fnExactIsAncestor", fn := fun _ => fun
  | [d1, d2, d3] => { results := [.lit (.bool false)], args := [d1, d2, d3] }
  | _ => none }
def FnExactIsAncestorWrongFalsely : Prop := fnExactIsAncestorRow.holds Tryz.pinned (OpenSpec.ofChange fnExactIsAncestorWrong)

/-- 'laws.FnCommits': WHATEVER THE INPUT: true; the input reads as it did. -/
def fnCommitsSpec : ChangeSpec := { name := "fnCommits", fn := fun _ => fun
  | [d1, d2] => { results := [.lit (.bool true)], args := [d1, d2] }
  | _ => none }
def fnCommitsRow : OpenClaim := { program := "ytaadgdbegpmlmaagreat", sum := "382b528f1b9ab4d94bd04634ea84039c58b50dd16427ccab6c8ce3504e1defdc", func := "loop.example/g01174/laws.FnCommits", spec := "fnCommits", unfollowed := true, recurses := true, plainKeys := false, apart := false }
def FnCommitsSaid : Prop := fnCommitsRow.holds Tryz.pinned (OpenSpec.ofChange fnCommitsSpec)

/-- ITS FALSE NEIGHBOUR: 'it returns false'. Refute it at one input. -/
def fnCommitsWrong : ChangeSpec := { name := "fnCommits", fn := fun _ => fun
  | [d1, d2] => { results := [.lit (.bool false)], args := [d1, d2] }
  | _ => none }
def FnCommitsWrongFalsely : Prop := fnCommitsRow.holds Tryz.pinned (OpenSpec.ofChange fnCommitsWrong)

/-- 'laws.FnExactHeadsOf': WHATEVER THE INPUT: true; the input reads as it did. -/
def fnExactHeadsOfSpec : ChangeSpec := { name := "fnExactHeadsOf", fn := fun _ => fun
  | [d] => { results := [.lit (.bool true)], args := [d] }
  | _ => none }
def fnExactHeadsOfRow : OpenClaim := { program := "ytaadgdbegpmlmaagreat", sum := "382b528f1b9ab4d94bd04634ea84039c58b50dd16427ccab6c8ce3504e1defdc", func := "loop.example/g01174/laws.FnExactHeadsOf", spec := "fnExactHeadsOf", unfollowed := true, recurses := true, plainKeys := false, apart := false }
def FnExactHeadsOfSaid : Prop := fnExactHeadsOfRow.holds Tryz.pinned (OpenSpec.ofChange fnExactHeadsOfSpec)

/-- ITS FALSE NEIGHBOUR: 'it returns false'. Refute it at one input. -/
def fnExactHeadsOfWrong : ChangeSpec := { name := "fnExactHeadsOf", fn := fun _ => fun
  | [d] => { results := [.lit (.bool false)], args := [d] }
  | _ => none }
def FnExactHeadsOfWrongFalsely : Prop := fnExactHeadsOfRow.holds Tryz.pinned (OpenSpec.ofChange fnExactHeadsOfWrong)

/-- 'laws.FnExactAncestorsOf': WHATEVER THE INPUT: true; the input reads as it did. -/
def fnExactAncestorsOfSpec : ChangeSpec := { name := "fnExactAncestorsOf", fn := fun _ => fun
  | [d1, d2] => { results := [.lit (.bool true)], args := [d1, d2] }
  | _ => none }
def fnExactAncestorsOfRow : OpenClaim := { program := "ytaadgdbegpmlmaagreat", sum := "382b528f1b9ab4d94bd04634ea84039c58b50dd16427ccab6c8ce3504e1defdc", func := "loop.example/g01174/laws.FnExactAncestorsOf", spec := "fnExactAncestorsOf", unfollowed := true, recurses := true, plainKeys := false, apart := false }
def FnExactAncestorsOfSaid : Prop := fnExactAncestorsOfRow.holds Tryz.pinned (OpenSpec.ofChange fnExactAncestorsOfSpec)

/-- ITS FALSE NEIGHBOUR: 'it returns false'. Refute it at one input. -/
def fnExactAncestorsOfWrong : ChangeSpec := { name := "fnExactAncestorsOf", fn := fun _ => fun
  | [d1, d2] => { results := [.lit (.bool false)], args := [d1, d2] }
  | _ => none }
def FnExactAncestorsOfWrongFalsely : Prop := fnExactAncestorsOfRow.holds Tryz.pinned (OpenSpec.ofChange fnExactAncestorsOfWrong)

/-- 'laws.FnExactWayTo': WHATEVER THE INPUT: true; the input reads as it did. -/
def fnExactWayToSpec : ChangeSpec := { name := "fnExactWayTo", fn := fun _ => fun
  | [d1, d2, d3] => { results := [.lit (.bool true)], args := [d1, d2, d3] }
  | _ => none }
def fnExactWayToRow : OpenClaim := { program := "ytaadgdbegpmlmaagreat", sum := "382b528f1b9ab4d94bd04634ea84039c58b50dd16427ccab6c8ce3504e1defdc", func := "loop.example/g01174/laws.FnExactWayTo", spec := "fnExactWayTo", unfollowed := true, recurses := true, plainKeys := false, apart := false }
def FnExactWayToSaid : Prop := fnExactWayToRow.holds Tryz.pinned (OpenSpec.ofChange fnExactWayToSpec)

/-- ITS FALSE NEIGHBOUR: 'it returns false'. Refute it at one input. -/
def fnExactWayToWrong : ChangeSpec := { name := "fnExactWayTo", fn := fun _ => fun
  | [d1, d2, d3] => { results := [.lit (.bool false)], args := [d1, d2, d3] }
  | _ => none }
def FnExactWayToWrongFalsely : Prop := fnExactWayToRow.holds Tryz.pinned (OpenSpec.ofChange fnExactWayToWrong)

/-- 'laws.FnExactBasesOf': WHATEVER THE INPUT: true; the input reads as it did. -/
def fnExactBasesOfSpec : ChangeSpec := { name := "fnExactBasesOf", fn := fun _ => fun
  | [d1, d2, d3] => { results := [.lit (.bool true)], args := [d1, d2, d3] }
  | _ => none }
def fnExactBasesOfRow : OpenClaim := { program := "ytaadgdbegpmlmaagreat", sum := "382b528f1b9ab4d94bd04634ea84039c58b50dd16427ccab6c8ce3504e1defdc", func := "loop.example/g01174/laws.FnExactBasesOf", spec := "fnExactBasesOf", unfollowed := true, recurses := true, plainKeys := false, apart := false }
def FnExactBasesOfSaid : Prop := fnExactBasesOfRow.holds Tryz.pinned (OpenSpec.ofChange fnExactBasesOfSpec)

/-- ITS FALSE NEIGHBOUR: 'it returns false'. Refute it at one input. -/
def fnExactBasesOfWrong : ChangeSpec := { name := "fnExactBasesOf", fn := fun _ => fun
  | [d1, d2, d3] => { results := [.lit (.bool false)], args := [d1, d2, d3] }
  | _ => none }
def FnExactBasesOfWrongFalsely : Prop := fnExactBasesOfRow.holds Tryz.pinned (OpenSpec.ofChange fnExactBasesOfWrong)

/-- 'laws.FnExactCommitMap': WHATEVER THE INPUT: true; the input reads as it did. -/
def fnExactCommitMapSpec : ChangeSpec := { name := "fnExactCommitMap", fn := fun _ => fun
  | [d1, d2, d3, d4] => { results := [.lit (.bool true)], args := [d1, d2, d3, d4] }
  | _ => none }
def fnExactCommitMapRow : OpenClaim := { program := "ytaadgdbegpmlmaagreat", sum := "382b528f1b9ab4d94bd04634ea84039c58b50dd16427ccab6c8ce3504e1defdc", func := "loop.example/g01174/laws.FnExactCommitMap", spec := "fnExactCommitMap", unfollowed := true, recurses := true, plainKeys := false, apart := false }
def FnExactCommitMapSaid : Prop := fnExactCommitMapRow.holds Tryz.pinned (OpenSpec.ofChange fnExactCommitMapSpec)

/-- ITS FALSE NEIGHBOUR: 'it returns false'. Refute it at one input. -/
def fnExactCommitMapWrong : ChangeSpec := { name := "fnExactCommitMap", fn := fun _ => fun
  | [d1, d2, d3, d4] => { results := [.lit (.bool false)], args := [d1, d2, d3, d4] }
  | _ => none }
def FnExactCommitMapWrongFalsely : Prop := fnExactCommitMapRow.holds Tryz.pinned (OpenSpec.ofChange fnExactCommitMapWrong)

/-- 'laws.FnLinks': WHATEVER THE INPUT: true; the input reads as it did. -/
def fnLinksSpec : ChangeSpec := { name := "fnLinks", fn := fun _ => fun
  | [d1, d2] => { results := [.lit (.bool true)], args := [d1, d2] }
  | _ => none }
def fnLinksRow : OpenClaim := { program := "ytaadgdbegpmlmaagreat", sum := "382b528f1b9ab4d94bd04634ea84039c58b50dd16427ccab6c8ce3504e1defdc", func := "loop.example/g01174/laws.FnLinks", spec := "fnLinks", unfollowed := true, recurses := true, plainKeys := false, apart := false }
def FnLinksSaid : Prop := fnLinksRow.holds Tryz.pinned (OpenSpec.ofChange fnLinksSpec)

/-- ITS FALSE NEIGHBOUR: 'it returns false'. Refute it at one input. -/
def fnLinksWrong : ChangeSpec := { name := "fnLinks", fn := fun _ => fun
  | [d1, d2] => { results := [.lit (.bool false)], args := [d1, d2] }
  | _ => none }
def FnLinksWrongFalsely : Prop := fnLinksRow.holds Tryz.pinned (OpenSpec.ofChange fnLinksWrong)

/-- 'laws.FnExactUndoCommit': WHATEVER THE INPUT: true; the input reads as it did. -/
def fnExactUndoCommitSpec : ChangeSpec := { name := "fnExactUndoCommit", fn := fun _ => fun
  | [d1, d2, d3, d4] => { results := [.lit (.bool true)], args := [d1, d2, d3, d4] }
  | _ => none }
def fnExactUndoCommitRow : OpenClaim := { program := "ytaadgdbegpmlmaagreat", sum := "382b528f1b9ab4d94bd04634ea84039c58b50dd16427ccab6c8ce3504e1defdc", func := "loop.example/g01174/laws.FnExactUndoCommit", spec := "fnExactUndoCommit", inPlace := ["slices.overlaps[loop.example/g01174/impl.Entry]"], unfollowed := true, recurses := true, plainKeys := false, apart := false }
def FnExactUndoCommitSaid : Prop := fnExactUndoCommitRow.holds Tryz.pinned (OpenSpec.ofChange fnExactUndoCommitSpec)

/-- ITS FALSE NEIGHBOUR: 'it returns false'. Refute it at one input. -/
def fnExactUndoCommitWrong : ChangeSpec := { name := "fnExactUndoCommit", fn := fun _ => fun
  | [d1, d2, d3, d4] => { results := [.lit (.bool false)], args := [d1, d2, d3, d4] }
  | _ => none }
def FnExactUndoCommitWrongFalsely : Prop := fnExactUndoCommitRow.holds Tryz.pinned (OpenSpec.ofChange fnExactUndoCommitWrong)

/- THE SECOND FORM. 'bulk': how many values and letters a reading holds, each counted each time it is reached (what is shared counts as often as it is met; a slice's spare places count too). A statement '..UptoSaid' is the law's where the arguments, and the package variables that the reading takes, are together of bulk at most 1048576: NARROWER than '..Said'. Prove '..Said' where nothing that the law and all that it calls make is longer than what came in: it says more and counts as full. Else prove '..UptoSaid'. A law counts once. -/
mutual
def uptoBulk {H : Type} : DataW H → Nat
  | .lit (.string bytes) => bytes.length + 1
  | .lit _ => 1
  | .nil => 1
  | .ptr d => uptoBulk d + 1
  | .slice elems spare => uptoBulkAll elems + uptoBulkAll spare + 1
  | .agg parts => uptoBulkAll parts + 1
  | .iface _ d => uptoBulk d + 1
  | .map entries => uptoBulkEntries entries + 1
  | .held _ => 1
def uptoBulkAll {H : Type} : List (DataW H) → Nat
  | [] => 0
  | d :: r => uptoBulk d + uptoBulkAll r
def uptoBulkEntries {H : Type} : List (Lit × DataW H) → Nat
  | [] => 0
  | x :: r => uptoBulkEntry x + uptoBulkEntries r
def uptoBulkEntry {H : Type} : Lit × DataW H → Nat
  | (.string bytes, d) => bytes.length + uptoBulk d + 1
  | (_, d) => uptoBulk d + 1
 end
def uptoSmall : (H : Type) → List (DataW H) → Bool := fun _ ds => decide (uptoBulkAll ds ≤ 1048576)
def OpenSpec.upto (s : _root_.Go.ChangeSpec) : _root_.Go.OpenSpec := { _root_.Go.OpenSpec.ofChange s with cond := some uptoSmall }

/-- 'laws.FnAncestors', WHERE WHAT IT READS IS OF BULK AT MOST 1048576: true; the input reads as it did. -/
def fnAncestorsUptoRow : OpenClaim := { program := "ytaadgdbegpmlmaagreat", sum := "382b528f1b9ab4d94bd04634ea84039c58b50dd16427ccab6c8ce3504e1defdc", func := "loop.example/g01174/laws.FnAncestors", spec := "fnAncestors", unfollowed := true, recurses := true, plainKeys := false, apart := false, narrowed := true }
def FnAncestorsUptoSaid : Prop := fnAncestorsUptoRow.holds Tryz.pinned (OpenSpec.upto fnAncestorsSpec)

/-- 'laws.FnExactChangesAt', WHERE WHAT IT READS IS OF BULK AT MOST 1048576: true; the input reads as it did. -/
def fnExactChangesAtUptoRow : OpenClaim := { program := "ytaadgdbegpmlmaagreat", sum := "382b528f1b9ab4d94bd04634ea84039c58b50dd16427ccab6c8ce3504e1defdc", func := "loop.example/g01174/laws.FnExactChangesAt", spec := "fnExactChangesAt", recurses := true, plainKeys := false, apart := false, narrowed := true }
def FnExactChangesAtUptoSaid : Prop := fnExactChangesAtUptoRow.holds Tryz.pinned (OpenSpec.upto fnExactChangesAtSpec)

/-- 'laws.FnCollected', WHERE WHAT IT READS IS OF BULK AT MOST 1048576: true; the input reads as it did. -/
def fnCollectedUptoRow : OpenClaim := { program := "ytaadgdbegpmlmaagreat", sum := "382b528f1b9ab4d94bd04634ea84039c58b50dd16427ccab6c8ce3504e1defdc", func := "loop.example/g01174/laws.FnCollected", spec := "fnCollected", unfollowed := true, recurses := true, plainKeys := false, apart := false, narrowed := true }
def FnCollectedUptoSaid : Prop := fnCollectedUptoRow.holds Tryz.pinned (OpenSpec.upto fnCollectedSpec)

/-- 'laws.FnExactIsAncestor', WHERE WHAT IT READS IS OF BULK AT MOST 1048576: true; the input reads as it did. -/
def fnExactIsAncestorUptoRow : OpenClaim := { program := "ytaadgdbegpmlmaagreat", sum := "382b528f1b9ab4d94bd04634ea84039c58b50dd16427ccab6c8ce3504e1defdc", func := "loop.example/g01174/laws.FnExactIsAncestor", spec := "fnExactIsAncestor", unfollowed := true, recurses := true, plainKeys := false, apart := false, narrowed := true }
def FnExactIsAncestorUptoSaid : Prop := fnExactIsAncestorUptoRow.holds Tryz.pinned (OpenSpec.upto fnExactIsAncestorSpec)

/-- 'laws.FnCommits', WHERE WHAT IT READS IS OF BULK AT MOST 1048576: true; the input reads as it did. -/
def fnCommitsUptoRow : OpenClaim := { program := "ytaadgdbegpmlmaagreat", sum := "382b528f1b9ab4d94bd04634ea84039c58b50dd16427ccab6c8ce3504e1defdc", func := "loop.example/g01174/laws.FnCommits", spec := "fnCommits", unfollowed := true, recurses := true, plainKeys := false, apart := false, narrowed := true }
def FnCommitsUptoSaid : Prop := fnCommitsUptoRow.holds Tryz.pinned (OpenSpec.upto fnCommitsSpec)

/-- 'laws.FnExactHeadsOf', WHERE WHAT IT READS IS OF BULK AT MOST 1048576: true; the input reads as it did. -/
def fnExactHeadsOfUptoRow : OpenClaim := { program := "ytaadgdbegpmlmaagreat", sum := "382b528f1b9ab4d94bd04634ea84039c58b50dd16427ccab6c8ce3504e1defdc", func := "loop.example/g01174/laws.FnExactHeadsOf", spec := "fnExactHeadsOf", unfollowed := true, recurses := true, plainKeys := false, apart := false, narrowed := true }
def FnExactHeadsOfUptoSaid : Prop := fnExactHeadsOfUptoRow.holds Tryz.pinned (OpenSpec.upto fnExactHeadsOfSpec)

/-- 'laws.FnExactAncestorsOf', WHERE WHAT IT READS IS OF BULK AT MOST 1048576: true; the input reads as it did. -/
def fnExactAncestorsOfUptoRow : OpenClaim := { program := "ytaadgdbegpmlmaagreat", sum := "382b528f1b9ab4d94bd04634ea84039c58b50dd16427ccab6c8ce3504e1defdc", func := "loop.example/g01174/laws.FnExactAncestorsOf", spec := "fnExactAncestorsOf", unfollowed := true, recurses := true, plainKeys := false, apart := false, narrowed := true }
def FnExactAncestorsOfUptoSaid : Prop := fnExactAncestorsOfUptoRow.holds Tryz.pinned (OpenSpec.upto fnExactAncestorsOfSpec)

/-- 'laws.FnExactWayTo', WHERE WHAT IT READS IS OF BULK AT MOST 1048576: true; the input reads as it did. -/
def fnExactWayToUptoRow : OpenClaim := { program := "ytaadgdbegpmlmaagreat", sum := "382b528f1b9ab4d94bd04634ea84039c58b50dd16427ccab6c8ce3504e1defdc", func := "loop.example/g01174/laws.FnExactWayTo", spec := "fnExactWayTo", unfollowed := true, recurses := true, plainKeys := false, apart := false, narrowed := true }
def FnExactWayToUptoSaid : Prop := fnExactWayToUptoRow.holds Tryz.pinned (OpenSpec.upto fnExactWayToSpec)

/-- 'laws.FnExactBasesOf', WHERE WHAT IT READS IS OF BULK AT MOST 1048576: true; the input reads as it did. -/
def fnExactBasesOfUptoRow : OpenClaim := { program := "ytaadgdbegpmlmaagreat", sum := "382b528f1b9ab4d94bd04634ea84039c58b50dd16427ccab6c8ce3504e1defdc", func := "loop.example/g01174/laws.FnExactBasesOf", spec := "fnExactBasesOf", unfollowed := true, recurses := true, plainKeys := false, apart := false, narrowed := true }
def FnExactBasesOfUptoSaid : Prop := fnExactBasesOfUptoRow.holds Tryz.pinned (OpenSpec.upto fnExactBasesOfSpec)

/-- 'laws.FnExactCommitMap', WHERE WHAT IT READS IS OF BULK AT MOST 1048576: true; the input reads as it did. -/
def fnExactCommitMapUptoRow : OpenClaim := { program := "ytaadgdbegpmlmaagreat", sum := "382b528f1b9ab4d94bd04634ea84039c58b50dd16427ccab6c8ce3504e1defdc", func := "loop.example/g01174/laws.FnExactCommitMap", spec := "fnExactCommitMap", unfollowed := true, recurses := true, plainKeys := false, apart := false, narrowed := true }
def FnExactCommitMapUptoSaid : Prop := fnExactCommitMapUptoRow.holds Tryz.pinned (OpenSpec.upto fnExactCommitMapSpec)

/-- 'laws.FnLinks', WHERE WHAT IT READS IS OF BULK AT MOST 1048576: true; the input reads as it did. -/
def fnLinksUptoRow : OpenClaim := { program := "ytaadgdbegpmlmaagreat", sum := "382b528f1b9ab4d94bd04634ea84039c58b50dd16427ccab6c8ce3504e1defdc", func := "loop.example/g01174/laws.FnLinks", spec := "fnLinks", unfollowed := true, recurses := true, plainKeys := false, apart := false, narrowed := true }
def FnLinksUptoSaid : Prop := fnLinksUptoRow.holds Tryz.pinned (OpenSpec.upto fnLinksSpec)

/-- 'laws.FnExactUndoCommit', WHERE WHAT IT READS IS OF BULK AT MOST 1048576: true; the input reads as it did. -/
def fnExactUndoCommitUptoRow : OpenClaim := { program := "ytaadgdbegpmlmaagreat", sum := "382b528f1b9ab4d94bd04634ea84039c58b50dd16427ccab6c8ce3504e1defdc", func := "loop.example/g01174/laws.FnExactUndoCommit", spec := "fnExactUndoCommit", inPlace := ["slices.overlaps[loop.example/g01174/impl.Entry]"], unfollowed := true, recurses := true, plainKeys := false, apart := false, narrowed := true }
def FnExactUndoCommitUptoSaid : Prop := fnExactUndoCommitUptoRow.holds Tryz.pinned (OpenSpec.upto fnExactUndoCommitSpec)

end Rows
end Go.Proofs.YtaadgdbegpmlmaaGreat
