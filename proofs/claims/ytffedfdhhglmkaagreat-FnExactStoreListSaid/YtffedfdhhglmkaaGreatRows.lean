/-
  No cell of these rows narrows 'for every input' (looked for: loops, veiled, ifaces, maps, wideKeys, modest, calm, conditions, laid).
  DERIVED. THE GIVEN ROWS OF THIS SEAT. 8 by the template 'for every input the law returns true; each argument reads behind the call as it read before'; 0 by the template 'total and deterministic' (their statements: YtffedfdhhglmkaaGreatTotals.lean).
  GIVEN WITH THE SEED: the statements are not yours to turn. If you find one false, say at which input.
  Laid BY PROGRAM, IN A SANDBOX (cutbox-rows.mjs): the forced cells as the released guide's own fill.sh prints them over the translation 632ab3c478c1ea39… (all of the seat's roots in one cut). By AI agents, Wed Nov 11 2026. No macro, syntax, notation, axiom, sorry.
-/
import Derived.Test.YtffedfdhhglmkaaGreatChecked
import GoSem.Claim
import GoSem.ClaimJoined
import GoSem.ClaimMapViews
import Derived.JoinedTies
import Derived.KernelRfl
namespace Go.Proofs.YtffedfdhhglmkaaGreat
/- THE CELL 'sum', in the pinned program and in every row, IS THE sha256 OF THE DUMP (.gsa) THAT YtffedfdhhglmkaaGreatProg.lean LOADS. Nothing in Lean hashes anything: it is a label: what it is worth is what the hold of that sum in a sandbox is worth. -/
noncomputable def Tryz.pinned : Pinned := { name := "ytffedfdhhglmkaagreat", sum := "632ab3c478c1ea3974b34f3f3c622f0df3b670323c235b21b9c18fe5192440bb", checked := Tryz.checked }
namespace Rows
def none {H : Type} : Left H := { results := [], args := [] }

/-- 'laws.FnExactChunkPartial': WHATEVER THE INPUT: true; the input reads as it did. -/
def fnExactChunkPartialSpec : ChangeSpec := { name := "fnExactChunkPartial", fn := fun _ => fun
  | [d1, d2, d3, d4] => { results := [.lit (.bool true)], args := [d1, d2, d3, d4] }
  | _ => none }
def fnExactChunkPartialRow : OpenClaim := { program := "ytffedfdhhglmkaagreat", sum := "632ab3c478c1ea3974b34f3f3c622f0df3b670323c235b21b9c18fe5192440bb", func := "loop.example/g01174/laws.FnExactChunkPartial", spec := "fnExactChunkPartial", unfollowed := true, recurses := true, apart := false }
def FnExactChunkPartialSaid : Prop := fnExactChunkPartialRow.holds Tryz.pinned (OpenSpec.ofChange fnExactChunkPartialSpec)

/-- ITS FALSE NEIGHBOUR: 'it returns false'. Refute it at one input. -/
def fnExactChunkPartialWrong : ChangeSpec := { name := "fnExactChunkPartial", fn := fun _ => fun
  | [d1, d2, d3, d4] => { results := [.lit (.bool false)], args := [d1, d2, d3, d4] }
  | _ => none }
def FnExactChunkPartialWrongFalsely : Prop := fnExactChunkPartialRow.holds Tryz.pinned (OpenSpec.ofChange fnExactChunkPartialWrong)

/-- 'laws.FnExactListProofFromCopy': WHATEVER THE INPUT: true; the input reads as it did. -/
def fnExactListProofFromCopySpec : ChangeSpec := { name := "fnExactListProofFromCopy", fn := fun _ => fun
  | [d1, d2, d3, d4] => { results := [.lit (.bool true)], args := [d1, d2, d3, d4] }
  | _ => none }
def fnExactListProofFromCopyRow : OpenClaim := { program := "ytffedfdhhglmkaagreat", sum := "632ab3c478c1ea3974b34f3f3c622f0df3b670323c235b21b9c18fe5192440bb", func := "loop.example/g01174/laws.FnExactListProofFromCopy", spec := "fnExactListProofFromCopy", unfollowed := true, recurses := true, apart := false }
def FnExactListProofFromCopySaid : Prop := fnExactListProofFromCopyRow.holds Tryz.pinned (OpenSpec.ofChange fnExactListProofFromCopySpec)

/-- ITS FALSE NEIGHBOUR: 'it returns false'. Refute it at one input. -/
def fnExactListProofFromCopyWrong : ChangeSpec := { name := "fnExactListProofFromCopy", fn := fun _ => fun
  | [d1, d2, d3, d4] => { results := [.lit (.bool false)], args := [d1, d2, d3, d4] }
  | _ => none }
def FnExactListProofFromCopyWrongFalsely : Prop := fnExactListProofFromCopyRow.holds Tryz.pinned (OpenSpec.ofChange fnExactListProofFromCopyWrong)

/-- 'laws.FnExactLoadList': WHATEVER THE INPUT: true; the input reads as it did. -/
def fnExactLoadListSpec : ChangeSpec := { name := "fnExactLoadList", fn := fun _ => fun
  | [d1, d2, d3] => { results := [.lit (.bool true)], args := [d1, d2, d3] }
  | _ => none }
def fnExactLoadListRow : OpenClaim := { program := "ytffedfdhhglmkaagreat", sum := "632ab3c478c1ea3974b34f3f3c622f0df3b670323c235b21b9c18fe5192440bb", func := "loop.example/g01174/laws.FnExactLoadList", spec := "fnExactLoadList", unfollowed := true, recurses := true, apart := false }
def FnExactLoadListSaid : Prop := fnExactLoadListRow.holds Tryz.pinned (OpenSpec.ofChange fnExactLoadListSpec)

/-- ITS FALSE NEIGHBOUR: 'it returns false'. Refute it at one input. -/
def fnExactLoadListWrong : ChangeSpec := { name := "fnExactLoadList", fn := fun _ => fun
  | [d1, d2, d3] => { results := [.lit (.bool false)], args := [d1, d2, d3] }
  | _ => none }
def FnExactLoadListWrongFalsely : Prop := fnExactLoadListRow.holds Tryz.pinned (OpenSpec.ofChange fnExactLoadListWrong)

/-- 'laws.FnExactStoreList': WHATEVER THE INPUT: true; the input reads as it did. -/
def fnExactStoreListSpec : ChangeSpec := { name := "fnExactStoreList", fn := fun _ => fun
  | [d1, d2] => { results := [.lit (.bool true)], args := [d1, d2] }
  | _ => none }
def fnExactStoreListRow : OpenClaim := { program := "ytffedfdhhglmkaagreat", sum := "632ab3c478c1ea3974b34f3f3c622f0df3b670323c235b21b9c18fe5192440bb", func := "loop.example/g01174/laws.FnExactStoreList", spec := "fnExactStoreList", inPlace := ["slices.overlaps[loop.example/g01174/impl.Key]", "slices.overlaps[loop.example/g01174/impl.Blob]"], unfollowed := true, recurses := true, apart := false }
def FnExactStoreListSaid : Prop := fnExactStoreListRow.holds Tryz.pinned (OpenSpec.ofChange fnExactStoreListSpec)

/-- ITS FALSE NEIGHBOUR: 'it returns false'. Refute it at one input. -/
def fnExactStoreListWrong : ChangeSpec := { name := "fnExactStoreList", fn := fun _ => fun
  | [d1, d2] => { results := [.lit (.bool false)], args := [d1, d2] }
  | _ => none }
def FnExactStoreListWrongFalsely : Prop := fnExactStoreListRow.holds Tryz.pinned (OpenSpec.ofChange fnExactStoreListWrong)

/-- 'laws.FnExactStoreMap': WHATEVER THE INPUT: true; the input reads as it did. -/
def fnExactStoreMapSpec : ChangeSpec := { name := "fnExactStoreMap", fn := fun _ => fun
  | [d1, d2] => { results := [.lit (.bool true)], args := [d1, d2] }
  | _ => none }
def fnExactStoreMapRow : OpenClaim := { program := "ytffedfdhhglmkaagreat", sum := "632ab3c478c1ea3974b34f3f3c622f0df3b670323c235b21b9c18fe5192440bb", func := "loop.example/g01174/laws.FnExactStoreMap", spec := "fnExactStoreMap", inPlace := ["slices.overlaps[loop.example/g01174/impl.Key]", "slices.overlaps[loop.example/g01174/impl.Blob]"], unfollowed := true, recurses := true, apart := false }
def FnExactStoreMapSaid : Prop := fnExactStoreMapRow.holds Tryz.pinned (OpenSpec.ofChange fnExactStoreMapSpec)

/-- ITS FALSE NEIGHBOUR: 'it returns false'. Refute it at one input. -/
def fnExactStoreMapWrong : ChangeSpec := { name := "fnExactStoreMap", fn := fun _ => fun
  | [d1, d2] => { results := [.lit (.bool false)], args := [d1, d2] }
  | _ => none }
def FnExactStoreMapWrongFalsely : Prop := fnExactStoreMapRow.holds Tryz.pinned (OpenSpec.ofChange fnExactStoreMapWrong)

/-- 'laws.FnExactLoadMap': WHATEVER THE INPUT: true; the input reads as it did. -/
def fnExactLoadMapSpec : ChangeSpec := { name := "fnExactLoadMap", fn := fun _ => fun
  | [d1, d2] => { results := [.lit (.bool true)], args := [d1, d2] }
  | _ => none }
def fnExactLoadMapRow : OpenClaim := { program := "ytffedfdhhglmkaagreat", sum := "632ab3c478c1ea3974b34f3f3c622f0df3b670323c235b21b9c18fe5192440bb", func := "loop.example/g01174/laws.FnExactLoadMap", spec := "fnExactLoadMap", unfollowed := true, recurses := true, apart := false }
def FnExactLoadMapSaid : Prop := fnExactLoadMapRow.holds Tryz.pinned (OpenSpec.ofChange fnExactLoadMapSpec)

/-- ITS FALSE NEIGHBOUR: 'it returns false'. Refute it at one input. -/
def fnExactLoadMapWrong : ChangeSpec := { name := "fnExactLoadMap", fn := fun _ => fun
  | [d1, d2] => { results := [.lit (.bool false)], args := [d1, d2] }
  | _ => none }
def FnExactLoadMapWrongFalsely : Prop := fnExactLoadMapRow.holds Tryz.pinned (OpenSpec.ofChange fnExactLoadMapWrong)

/-- 'laws.FnExactGetPartial': WHATEVER THE INPUT: true; the input reads as it did. -/
def fnExactGetPartialSpec : ChangeSpec := { name := "fnExactGetPartial", fn := fun _ => fun
  | [d1, d2, d3] => { results := [.lit (.bool true)], args := [d1, d2, d3] }
  | _ => none }
def fnExactGetPartialRow : OpenClaim := { program := "ytffedfdhhglmkaagreat", sum := "632ab3c478c1ea3974b34f3f3c622f0df3b670323c235b21b9c18fe5192440bb", func := "loop.example/g01174/laws.FnExactGetPartial", spec := "fnExactGetPartial", unfollowed := true, recurses := true, apart := false }
def FnExactGetPartialSaid : Prop := fnExactGetPartialRow.holds Tryz.pinned (OpenSpec.ofChange fnExactGetPartialSpec)

/-- ITS FALSE NEIGHBOUR: 'it returns false'. Refute it at one input. -/
def fnExactGetPartialWrong : ChangeSpec := { name := "fnExactGetPartial", fn := fun _ => fun
  | [d1, d2, d3] => { results := [.lit (.bool false)], args := [d1, d2, d3] }
  | _ => none }
def FnExactGetPartialWrongFalsely : Prop := fnExactGetPartialRow.holds Tryz.pinned (OpenSpec.ofChange fnExactGetPartialWrong)

/-- 'laws.FnExactRangePartial': WHATEVER THE INPUT: true; the input reads as it did. -/
def fnExactRangePartialSpec : ChangeSpec := { name := "fnExactRangePartial", fn := fun _ => fun
  | [d1, d2, d3, d4] => { results := [.lit (.bool true)], args := [d1, d2, d3, d4] }
  | _ => none }
def fnExactRangePartialRow : OpenClaim := { program := "ytffedfdhhglmkaagreat", sum := "632ab3c478c1ea3974b34f3f3c622f0df3b670323c235b21b9c18fe5192440bb", func := "loop.example/g01174/laws.FnExactRangePartial", spec := "fnExactRangePartial", unfollowed := true, recurses := true, apart := false }
def FnExactRangePartialSaid : Prop := fnExactRangePartialRow.holds Tryz.pinned (OpenSpec.ofChange fnExactRangePartialSpec)

/-- ITS FALSE NEIGHBOUR: 'it returns false'. Refute it at one input. -/
def fnExactRangePartialWrong : ChangeSpec := { name := "fnExactRangePartial", fn := fun _ => fun
  | [d1, d2, d3, d4] => { results := [.lit (.bool false)], args := [d1, d2, d3, d4] }
  | _ => none }
def FnExactRangePartialWrongFalsely : Prop := fnExactRangePartialRow.holds Tryz.pinned (OpenSpec.ofChange fnExactRangePartialWrong)

/- THE SECOND FORM. 'bulk': how many values and letters a reading holds, each counted each time it is reached (what is shared counts as often as it is met; a slice's spare places count too). A statement '..UptoSaid' is the law's where the arguments, and the package variables that the reading takes, are together of bulk at most 1048576: NARROWER than '..Said'. Prove '..Said' where nothing that the law and all that it calls make is longer than what came in: it says more and counts as full. Else prove '..UptoSaid'. A law counts once. -/
mutual
def uptoBulk {H : Type} : DataW H → Nat
  | .lit (.string bytes) => bytes.length + 1
  | .lit _ => 1
  | .nil => 1
  | .ptr d => uptoBulk d + 1
  | .slice elems spare => uptoBulkAll elems + uptoBulkAll spare + 1
  | .agg parts => uptoBulkAll parts + 1
  | .iface _ d => uptoBulk d + 1
  | .map entries => uptoBulkEntries entries + 1
  | .held _ => 1
def uptoBulkAll {H : Type} : List (DataW H) → Nat
  | [] => 0
  | d :: r => uptoBulk d + uptoBulkAll r
def uptoBulkEntries {H : Type} : List (Lit × DataW H) → Nat
  | [] => 0
  | x :: r => uptoBulkEntry x + uptoBulkEntries r
def uptoBulkEntry {H : Type} : Lit × DataW H → Nat
  | (.string bytes, d) => bytes.length + uptoBulk d + 1
  | (_, d) => uptoBulk d + 1
 end
def uptoSmall : (H : Type) → List (DataW H) → Bool := fun _ ds => decide (uptoBulkAll ds ≤ 1048576)
def OpenSpec.upto (s : _root_.Go.ChangeSpec) : _root_.Go.OpenSpec := { _root_.Go.OpenSpec.ofChange s with cond := some uptoSmall }

/-- 'laws.FnExactChunkPartial', WHERE WHAT IT READS IS OF BULK AT MOST 1048576: true; the input reads as it did. -/
def fnExactChunkPartialUptoRow : OpenClaim := { program := "ytffedfdhhglmkaagreat", sum := "632ab3c478c1ea3974b34f3f3c622f0df3b670323c235b21b9c18fe5192440bb", func := "loop.example/g01174/laws.FnExactChunkPartial", spec := "fnExactChunkPartial", unfollowed := true, recurses := true, apart := false, narrowed := true }
def FnExactChunkPartialUptoSaid : Prop := fnExactChunkPartialUptoRow.holds Tryz.pinned (OpenSpec.upto fnExactChunkPartialSpec)

/-- 'laws.FnExactListProofFromCopy', WHERE WHAT IT READS IS OF BULK AT MOST 1048576: true; the input reads as it did. -/
def fnExactListProofFromCopyUptoRow : OpenClaim := { program := "ytffedfdhhglmkaagreat", sum := "632ab3c478c1ea3974b34f3f3c622f0df3b670323c235b21b9c18fe5192440bb", func := "loop.example/g01174/laws.FnExactListProofFromCopy", spec := "fnExactListProofFromCopy", unfollowed := true, recurses := true, apart := false, narrowed := true }
def FnExactListProofFromCopyUptoSaid : Prop := fnExactListProofFromCopyUptoRow.holds Tryz.pinned (OpenSpec.upto fnExactListProofFromCopySpec)

/-- 'laws.FnExactLoadList', WHERE WHAT IT READS IS OF BULK AT MOST 1048576: true; the input reads as it did. -/
def fnExactLoadListUptoRow : OpenClaim := { program := "ytffedfdhhglmkaagreat", sum := "632ab3c478c1ea3974b34f3f3c622f0df3b670323c235b21b9c18fe5192440bb", func := "loop.example/g01174/laws.FnExactLoadList", spec := "fnExactLoadList", unfollowed := true, recurses := true, apart := false, narrowed := true }
def FnExactLoadListUptoSaid : Prop := fnExactLoadListUptoRow.holds Tryz.pinned (OpenSpec.upto fnExactLoadListSpec)

/-- 'laws.FnExactStoreList', WHERE WHAT IT READS IS OF BULK AT MOST 1048576: true; the input reads as it did. -/
def fnExactStoreListUptoRow : OpenClaim := { program := "ytffedfdhhglmkaagreat", sum := "632ab3c478c1ea3974b34f3f3c622f0df3b670323c235b21b9c18fe5192440bb", func := "loop.example/g01174/laws.FnExactStoreList", spec := "fnExactStoreList", inPlace := ["slices.overlaps[loop.example/g01174/impl.Key]", "slices.overlaps[loop.example/g01174/impl.Blob]"], unfollowed := true, recurses := true, apart := false, narrowed := true }
def FnExactStoreListUptoSaid : Prop := fnExactStoreListUptoRow.holds Tryz.pinned (OpenSpec.upto fnExactStoreListSpec)

/-- 'laws.FnExactStoreMap', WHERE WHAT IT READS IS OF BULK AT MOST 1048576: true; the input reads as it did. -/
def fnExactStoreMapUptoRow : OpenClaim := { program := "ytffedfdhhglmkaagreat", sum := "632ab3c478c1ea3974b34f3f3c622f0df3b670323c235b21b9c18fe5192440bb", func := "loop.example/g01174/laws.FnExactStoreMap", spec := "fnExactStoreMap", inPlace := ["slices.overlaps[loop.example/g01174/impl.Key]", "slices.overlaps[loop.example/g01174/impl.Blob]"], unfollowed := true, recurses := true, apart := false, narrowed := true }
def FnExactStoreMapUptoSaid : Prop := fnExactStoreMapUptoRow.holds Tryz.pinned (OpenSpec.upto fnExactStoreMapSpec)

/-- 'laws.FnExactLoadMap', WHERE WHAT IT READS IS OF BULK AT MOST 1048576: true; the input reads as it did. -/
def fnExactLoadMapUptoRow : OpenClaim := { program := "ytffedfdhhglmkaagreat", sum := "632ab3c478c1ea3974b34f3f3c622f0df3b670323c235b21b9c18fe5192440bb", func := "loop.example/g01174/laws.FnExactLoadMap", spec := "fnExactLoadMap", unfollowed := true, recurses := true, apart := false, narrowed := true }
def FnExactLoadMapUptoSaid : Prop := fnExactLoadMapUptoRow.holds Tryz.pinned (OpenSpec.upto fnExactLoadMapSpec)

/-- 'laws.FnExactGetPartial', WHERE WHAT IT READS IS OF BULK AT MOST 1048576: true; the input reads as it did. -/
def fnExactGetPartialUptoRow : OpenClaim := { program := "ytffedfdhhglmkaagreat", sum := "632ab3c478c1ea3974b34f3f3c622f0df3b670323c235b21b9c18fe5192440bb", func := "loop.example/g01174/laws.FnExactGetPartial", spec := "fnExactGetPartial", unfollowed := true, recurses := true, apart := false, narrowed := true }
def FnExactGetPartialUptoSaid : Prop := fnExactGetPartialUptoRow.holds Tryz.pinned (OpenSpec.upto fnExactGetPartialSpec)

/-- 'laws.FnExactRangePartial', WHERE WHAT IT READS IS OF BULK AT MOST 1048576: true; the input reads as it did. -/
def fnExactRangePartialUptoRow : OpenClaim := { program := "ytffedfdhhglmkaagreat", sum := "632ab3c478c1ea3974b34f3f3c622f0df3b670323c235b21b9c18fe5192440bb", func := "loop.example/g01174/laws.FnExactRangePartial", spec := "fnExactRangePartial", unfollowed := true, recurses := true, apart := false, narrowed := true }
def FnExactRangePartialUptoSaid : Prop := fnExactRangePartialUptoRow.holds Tryz.pinned (OpenSpec.upto fnExactRangePartialSpec)

end Rows
end Go.Proofs.YtffedfdhhglmkaaGreat
