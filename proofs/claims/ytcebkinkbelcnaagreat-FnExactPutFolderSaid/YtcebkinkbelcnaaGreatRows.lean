/-
  No cell of these rows narrows 'for every input' (looked for: loops, veiled, ifaces, maps, wideKeys, modest, calm, conditions, laid).
  DERIVED. THE GIVEN ROWS OF THIS SEAT. 8 by the template 'for every input the law returns true; each argument reads behind the call as it read before'; 0 by the template 'total and deterministic' (their statements: YtcebkinkbelcnaaGreatTotals.lean).
  GIVEN WITH THE SEED: the statements are not yours to turn. If you find one false, say at which input.
  Laid BY PROGRAM, IN A SANDBOX (cutbox-rows.mjs): the forced cells as the released guide's own fill.sh prints them over the translation 1b89d54ace9470f7… (all of the seat's roots in one cut). By AI agents, Wed Nov 11 2026. No macro, syntax, notation, axiom, sorry.
-/
import Derived.Test.YtcebkinkbelcnaaGreatChecked
import GoSem.Claim
import GoSem.ClaimJoined
import GoSem.ClaimMapViews
import Derived.JoinedTies
import Derived.KernelRfl
namespace Go.Proofs.YtcebkinkbelcnaaGreat
/- THE CELL 'sum', in the pinned program and in every row, IS THE sha256 OF THE DUMP (.gsa) THAT YtcebkinkbelcnaaGreatProg.lean LOADS. Nothing in Lean hashes anything: it is a label: what it is worth is what the hold of that sum in a sandbox is worth. -/
noncomputable def Tryz.pinned : Pinned := { name := "ytcebkinkbelcnaagreat", sum := "1b89d54ace9470f769f5e345b12c03d38609f0725b3e12575cd70c6f124af67e", checked := Tryz.checked }
namespace Rows
def none {H : Type} : Left H := { results := [], args := [] }

/-- 'laws.FnExactLinkCounts': WHATEVER THE INPUT: true; the input reads as it did. -/
def fnExactLinkCountsSpec : ChangeSpec := { name := "fnExactLinkCounts", fn := fun _ => fun
  | [d] => { results := [.lit (.bool true)], args := [d] }
  | _ => none }
def fnExactLinkCountsRow : OpenClaim := { program := "ytcebkinkbelcnaagreat", sum := "1b89d54ace9470f769f5e345b12c03d38609f0725b3e12575cd70c6f124af67e", func := "loop.example/g01174/laws.FnExactLinkCounts", spec := "fnExactLinkCounts", unfollowed := true, recurses := true, plainKeys := false, apart := false }
def FnExactLinkCountsSaid : Prop := fnExactLinkCountsRow.holds Tryz.pinned (OpenSpec.ofChange fnExactLinkCountsSpec)

/-- ITS FALSE NEIGHBOUR: 'it returns false'. Refute it at one input. -/
def fnExactLinkCountsWrong : ChangeSpec := { name := "fnExactLinkCounts", fn := fun _ => fun
  | [d] => { results := [.lit (.bool false)], args := [d] }
  | _ => none }
def FnExactLinkCountsWrongFalsely : Prop := fnExactLinkCountsRow.holds Tryz.pinned (OpenSpec.ofChange fnExactLinkCountsWrong)

/-- 'laws.FnExactRootsOf': WHATEVER THE INPUT: true; the input reads as it did. -/
def fnExactRootsOfSpec : ChangeSpec := { name := "fnExactRootsOf", fn := fun _ => fun
  | [d] => { results := [.lit (.bool true)], args := [d] }
  | _ => none }
def fnExactRootsOfRow : OpenClaim := { program := "ytcebkinkbelcnaagreat", sum := "1b89d54ace9470f769f5e345b12c03d38609f0725b3e12575cd70c6f124af67e", func := "loop.example/g01174/laws.FnExactRootsOf", spec := "fnExactRootsOf", unfollowed := true, recurses := true, plainKeys := false, apart := false }
def FnExactRootsOfSaid : Prop := fnExactRootsOfRow.holds Tryz.pinned (OpenSpec.ofChange fnExactRootsOfSpec)

/-- ITS FALSE NEIGHBOUR: 'it returns false'. Refute it at one input. -/
def fnExactRootsOfWrong : ChangeSpec := { name := "fnExactRootsOf", fn := fun _ => fun
  | [d] => { results := [.lit (.bool false)], args := [d] }
  | _ => none }
def FnExactRootsOfWrongFalsely : Prop := fnExactRootsOfRow.holds Tryz.pinned (OpenSpec.ofChange fnExactRootsOfWrong)

/-- 'laws.FnExactPutBlob': WHATEVER THE INPUT: true; the input reads as it did. -/
def fnExactPutBlobSpec : ChangeSpec := { name := "fnExactPutBlob", fn := fun _ => fun
  | [d1, d2] => { results := [.lit (.bool true)], args := [d1, d2] }
  | _ => none }
def fnExactPutBlobRow : OpenClaim := { program := "ytcebkinkbelcnaagreat", sum := "1b89d54ace9470f769f5e345b12c03d38609f0725b3e12575cd70c6f124af67e", func := "loop.example/g01174/laws.FnExactPutBlob", spec := "fnExactPutBlob", inPlace := ["slices.overlaps[loop.example/g01174/impl.Key]", "slices.overlaps[loop.example/g01174/impl.Blob]"], unfollowed := true, recurses := true, plainKeys := false, apart := false }
def FnExactPutBlobSaid : Prop := fnExactPutBlobRow.holds Tryz.pinned (OpenSpec.ofChange fnExactPutBlobSpec)

/-- ITS FALSE NEIGHBOUR: 'it returns false'. Refute it at one input. -/
def fnExactPutBlobWrong : ChangeSpec := { name := "fnExactPutBlob", fn := fun _ => fun
  | [d1, d2] => { results := [.lit (.bool false)], args := [d1, d2] }
  | _ => none }
def FnExactPutBlobWrongFalsely : Prop := fnExactPutBlobRow.holds Tryz.pinned (OpenSpec.ofChange fnExactPutBlobWrong)

/-- 'laws.FnExactJoinStores': WHATEVER THE INPUT: true; the input reads as it did. -/
def fnExactJoinStoresSpec : ChangeSpec := { name := "fnExactJoinStores", fn := fun _ => fun
  | [d1, d2] => { results := [.lit (.bool true)], args := [d1, d2] }
  | _ => none }
def fnExactJoinStoresRow : OpenClaim := { program := "ytcebkinkbelcnaagreat", sum := "1b89d54ace9470f769f5e345b12c03d38609f0725b3e12575cd70c6f124af67e", func := "loop.example/g01174/laws.FnExactJoinStores", spec := "fnExactJoinStores", inPlace := ["slices.overlaps[loop.example/g01174/impl.Key]", "slices.overlaps[loop.example/g01174/impl.Blob]"], unfollowed := true, recurses := true, plainKeys := false, apart := false }
def FnExactJoinStoresSaid : Prop := fnExactJoinStoresRow.holds Tryz.pinned (OpenSpec.ofChange fnExactJoinStoresSpec)

/-- ITS FALSE NEIGHBOUR: 'it returns false'. Refute it at one input. -/
def fnExactJoinStoresWrong : ChangeSpec := { name := "fnExactJoinStores", fn := fun _ => fun
  | [d1, d2] => { results := [.lit (.bool false)], args := [d1, d2] }
  | _ => none }
def FnExactJoinStoresWrongFalsely : Prop := fnExactJoinStoresRow.holds Tryz.pinned (OpenSpec.ofChange fnExactJoinStoresWrong)

/-- 'laws.FnExactLinkPath': WHATEVER THE INPUT: true; the input reads as it did. -/
def fnExactLinkPathSpec : ChangeSpec := { name := "fnExactLinkPath", fn := fun _ => fun
  | [d1, d2, d3] => { results := [.lit (.bool true)], args := [d1, d2, d3] }
  | _ => none }
def fnExactLinkPathRow : OpenClaim := { program := "ytcebkinkbelcnaagreat", sum := "1b89d54ace9470f769f5e345b12c03d38609f0725b3e12575cd70c6f124af67e", func := "loop.example/g01174/laws.FnExactLinkPath", spec := "fnExactLinkPath", unfollowed := true, recurses := true, plainKeys := false, apart := false }
def FnExactLinkPathSaid : Prop := fnExactLinkPathRow.holds Tryz.pinned (OpenSpec.ofChange fnExactLinkPathSpec)

/-- ITS FALSE NEIGHBOUR: 'it returns false'. Refute it at one input. -/
def fnExactLinkPathWrong : ChangeSpec := { name := "fnExactLinkPath", fn := fun _ => fun
  | [d1, d2, d3] => { results := [.lit (.bool false)], args := [d1, d2, d3] }
  | _ => none }
def FnExactLinkPathWrongFalsely : Prop := fnExactLinkPathRow.holds Tryz.pinned (OpenSpec.ofChange fnExactLinkPathWrong)

/-- 'laws.FnExactReachableFrom': WHATEVER THE INPUT: true; the input reads as it did. -/
def fnExactReachableFromSpec : ChangeSpec := { name := "fnExactReachableFrom", fn := fun _ => fun
  | [d1, d2] => { results := [.lit (.bool true)], args := [d1, d2] }
  | _ => none }
def fnExactReachableFromRow : OpenClaim := { program := "ytcebkinkbelcnaagreat", sum := "1b89d54ace9470f769f5e345b12c03d38609f0725b3e12575cd70c6f124af67e", func := "loop.example/g01174/laws.FnExactReachableFrom", spec := "fnExactReachableFrom", unfollowed := true, recurses := true, plainKeys := false, apart := false }
def FnExactReachableFromSaid : Prop := fnExactReachableFromRow.holds Tryz.pinned (OpenSpec.ofChange fnExactReachableFromSpec)

/-- ITS FALSE NEIGHBOUR: 'it returns false'. Refute it at one input. -/
def fnExactReachableFromWrong : ChangeSpec := { name := "fnExactReachableFrom", fn := fun _ => fun
  | [d1, d2] => { results := [.lit (.bool false)], args := [d1, d2] }
  | _ => none }
def FnExactReachableFromWrongFalsely : Prop := fnExactReachableFromRow.holds Tryz.pinned (OpenSpec.ofChange fnExactReachableFromWrong)

/-- 'laws.FnExactPutFolder': WHATEVER THE INPUT: true; the input reads as it did. -/
def fnExactPutFolderSpec : ChangeSpec := { name := "fnExactPutFolder", fn := fun _ => fun
  | [d1, d2] => { results := [.lit (.bool true)], args := [d1, d2] }
  | _ => none }
def fnExactPutFolderRow : OpenClaim := { program := "ytcebkinkbelcnaagreat", sum := "1b89d54ace9470f769f5e345b12c03d38609f0725b3e12575cd70c6f124af67e", func := "loop.example/g01174/laws.FnExactPutFolder", spec := "fnExactPutFolder", inPlace := ["slices.overlaps[loop.example/g01174/impl.Key]", "slices.overlaps[loop.example/g01174/impl.Blob]"], unfollowed := true, recurses := true, plainKeys := false, apart := false }
def FnExactPutFolderSaid : Prop := fnExactPutFolderRow.holds Tryz.pinned (OpenSpec.ofChange fnExactPutFolderSpec)

/-- ITS FALSE NEIGHBOUR: 'it returns false'. Refute it at one input. -/
def fnExactPutFolderWrong : ChangeSpec := { name := "fnExactPutFolder", fn := fun _ => fun
  | [d1, d2] => { results := [.lit (.bool false)], args := [d1, d2] }
  | _ => none }
def FnExactPutFolderWrongFalsely : Prop := fnExactPutFolderRow.holds Tryz.pinned (OpenSpec.ofChange fnExactPutFolderWrong)

/-- 'laws.FnExactMissingFrom': WHATEVER THE INPUT: true; the input reads as it did. -/
def fnExactMissingFromSpec : ChangeSpec := { name := "fnExactMissingFrom", fn := fun _ => fun
  | [d1, d2] => { results := [.lit (.bool true)], args := [d1, d2] }
  | _ => none }
def fnExactMissingFromRow : OpenClaim := { program := "ytcebkinkbelcnaagreat", sum := "1b89d54ace9470f769f5e345b12c03d38609f0725b3e12575cd70c6f124af67e", func := "loop.example/g01174/laws.FnExactMissingFrom", spec := "fnExactMissingFrom", unfollowed := true, recurses := true, plainKeys := false, apart := false }
def FnExactMissingFromSaid : Prop := fnExactMissingFromRow.holds Tryz.pinned (OpenSpec.ofChange fnExactMissingFromSpec)

/-- ITS FALSE NEIGHBOUR: 'it returns false'. Refute it at one input. -/
def fnExactMissingFromWrong : ChangeSpec := { name := "fnExactMissingFrom", fn := fun _ => fun
  | [d1, d2] => { results := [.lit (.bool false)], args := [d1, d2] }
  | _ => none }
def FnExactMissingFromWrongFalsely : Prop := fnExactMissingFromRow.holds Tryz.pinned (OpenSpec.ofChange fnExactMissingFromWrong)

/- THE SECOND FORM. 'bulk': how many values and letters a reading holds, each counted each time it is reached (what is shared counts as often as it is met; a slice's spare places count too). A statement '..UptoSaid' is the law's where the arguments, and the package variables that the reading takes, are together of bulk at most 1048576: NARROWER than '..Said'. Prove '..Said' where nothing that the law and all that it calls make is longer than what came in: it says more and counts as full. Else prove '..UptoSaid'. A law counts once. -/
mutual
def uptoBulk {H : Type} : DataW H → Nat
  | .lit (.string bytes) => bytes.length + 1
  | .lit _ => 1
  | .nil => 1
  | .ptr d => uptoBulk d + 1
  | .slice elems spare => uptoBulkAll elems + uptoBulkAll spare + 1
  | .agg parts => uptoBulkAll parts + 1
  | .iface _ d => uptoBulk d + 1
  | .map entries => uptoBulkEntries entries + 1
  | .held _ => 1
def uptoBulkAll {H : Type} : List (DataW H) → Nat
  | [] => 0
  | d :: r => uptoBulk d + uptoBulkAll r
def uptoBulkEntries {H : Type} : List (Lit × DataW H) → Nat
  | [] => 0
  | x :: r => uptoBulkEntry x + uptoBulkEntries r
def uptoBulkEntry {H : Type} : Lit × DataW H → Nat
  | (.string bytes, d) => bytes.length + uptoBulk d + 1
  | (_, d) => uptoBulk d + 1
 end
def uptoSmall : (H : Type) → List (DataW H) → Bool := fun _ ds => decide (uptoBulkAll ds ≤ 1048576)
def OpenSpec.upto (s : _root_.Go.ChangeSpec) : _root_.Go.OpenSpec := { _root_.Go.OpenSpec.ofChange s with cond := some uptoSmall }

/-- 'laws.FnExactLinkCounts', WHERE WHAT IT READS IS OF BULK AT MOST 1048576: true; the input reads as it did. -/
def fnExactLinkCountsUptoRow : OpenClaim := { program := "ytcebkinkbelcnaagreat", sum := "1b89d54ace9470f769f5e345b12c03d38609f0725b3e12575cd70c6f124af67e", func := "loop.example/g01174/laws.FnExactLinkCounts", spec := "fnExactLinkCounts", unfollowed := true, recurses := true, plainKeys := false, apart := false, narrowed := true }
def FnExactLinkCountsUptoSaid : Prop := fnExactLinkCountsUptoRow.holds Tryz.pinned (OpenSpec.upto fnExactLinkCountsSpec)

/-- 'laws.FnExactRootsOf', WHERE WHAT IT READS IS OF BULK AT MOST 1048576: true; the input reads as it did. -/
def fnExactRootsOfUptoRow : OpenClaim := { program := "ytcebkinkbelcnaagreat", sum := "1b89d54ace9470f769f5e345b12c03d38609f0725b3e12575cd70c6f124af67e", func := "loop.example/g01174/laws.FnExactRootsOf", spec := "fnExactRootsOf", unfollowed := true, recurses := true, plainKeys := false, apart := false, narrowed := true }
def FnExactRootsOfUptoSaid : Prop := fnExactRootsOfUptoRow.holds Tryz.pinned (OpenSpec.upto fnExactRootsOfSpec)

/-- 'laws.FnExactPutBlob', WHERE WHAT IT READS IS OF BULK AT MOST 1048576: true; the input reads as it did. -/
def fnExactPutBlobUptoRow : OpenClaim := { program := "ytcebkinkbelcnaagreat", sum := "1b89d54ace9470f769f5e345b12c03d38609f0725b3e12575cd70c6f124af67e", func := "loop.example/g01174/laws.FnExactPutBlob", spec := "fnExactPutBlob", inPlace := ["slices.overlaps[loop.example/g01174/impl.Key]", "slices.overlaps[loop.example/g01174/impl.Blob]"], unfollowed := true, recurses := true, plainKeys := false, apart := false, narrowed := true }
def FnExactPutBlobUptoSaid : Prop := fnExactPutBlobUptoRow.holds Tryz.pinned (OpenSpec.upto fnExactPutBlobSpec)

/-- 'laws.FnExactJoinStores', WHERE WHAT IT READS IS OF BULK AT MOST 1048576: true; the input reads as it did. -/
def fnExactJoinStoresUptoRow : OpenClaim := { program := "ytcebkinkbelcnaagreat", sum := "1b89d54ace9470f769f5e345b12c03d38609f0725b3e12575cd70c6f124af67e", func := "loop.example/g01174/laws.FnExactJoinStores", spec := "fnExactJoinStores", inPlace := ["slices.overlaps[loop.example/g01174/impl.Key]", "slices.overlaps[loop.example/g01174/impl.Blob]"], unfollowed := true, recurses := true, plainKeys := false, apart := false, narrowed := true }
def FnExactJoinStoresUptoSaid : Prop := fnExactJoinStoresUptoRow.holds Tryz.pinned (OpenSpec.upto fnExactJoinStoresSpec)

/-- 'laws.FnExactLinkPath', WHERE WHAT IT READS IS OF BULK AT MOST 1048576: true; the input reads as it did. -/
def fnExactLinkPathUptoRow : OpenClaim := { program := "ytcebkinkbelcnaagreat", sum := "1b89d54ace9470f769f5e345b12c03d38609f0725b3e12575cd70c6f124af67e", func := "loop.example/g01174/laws.FnExactLinkPath", spec := "fnExactLinkPath", unfollowed := true, recurses := true, plainKeys := false, apart := false, narrowed := true }
def FnExactLinkPathUptoSaid : Prop := fnExactLinkPathUptoRow.holds Tryz.pinned (OpenSpec.upto fnExactLinkPathSpec)

/-- 'laws.FnExactReachableFrom', WHERE WHAT IT READS IS OF BULK AT MOST 1048576: true; the input reads as it did. -/
def fnExactReachableFromUptoRow : OpenClaim := { program := "ytcebkinkbelcnaagreat", sum := "1b89d54ace9470f769f5e345b12c03d38609f0725b3e12575cd70c6f124af67e", func := "loop.example/g01174/laws.FnExactReachableFrom", spec := "fnExactReachableFrom", unfollowed := true, recurses := true, plainKeys := false, apart := false, narrowed := true }
def FnExactReachableFromUptoSaid : Prop := fnExactReachableFromUptoRow.holds Tryz.pinned (OpenSpec.upto fnExactReachableFromSpec)

/-- 'laws.FnExactPutFolder', WHERE WHAT IT READS IS OF BULK AT MOST 1048576: true; the input reads as it did. -/
def fnExactPutFolderUptoRow : OpenClaim := { program := "ytcebkinkbelcnaagreat", sum := "1b89d54ace9470f769f5e345b12c03d38609f0725b3e12575cd70c6f124af67e", func := "loop.example/g01174/laws.FnExactPutFolder", spec := "fnExactPutFolder", inPlace := ["slices.overlaps[loop.example/g01174/impl.Key]", "slices.overlaps[loop.example/g01174/impl.Blob]"], unfollowed := true, recurses := true, plainKeys := false, apart := false, narrowed := true }
def FnExactPutFolderUptoSaid : Prop := fnExactPutFolderUptoRow.holds Tryz.pinned (OpenSpec.upto fnExactPutFolderSpec)

/-- 'laws.FnExactMissingFrom', WHERE WHAT IT READS IS OF BULK AT MOST 1048576: true; the input reads as it did. -/
def fnExactMissingFromUptoRow : OpenClaim := { program := "ytcebkinkbelcnaagreat", sum := "1b89d54ace9470f769f5e345b12c03d38609f0725b3e12575cd70c6f124af67e", func := "loop.example/g01174/laws.FnExactMissingFrom", spec := "fnExactMissingFrom", unfollowed := true, recurses := true, plainKeys := false, apart := false, narrowed := true }
def FnExactMissingFromUptoSaid : Prop := fnExactMissingFromUptoRow.holds Tryz.pinned (OpenSpec.upto fnExactMissingFromSpec)

end Rows
end Go.Proofs.YtcebkinkbelcnaaGreat
