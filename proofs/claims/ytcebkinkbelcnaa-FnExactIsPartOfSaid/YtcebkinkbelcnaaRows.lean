/-
  No cell of these rows narrows 'for every input' (looked for: loops, veiled, ifaces, maps, wideKeys, modest, calm, conditions, laid).
  DERIVED. THE GIVEN ROWS OF THIS SEAT. 4 by the template 'for every input the law returns true; each argument reads behind the call as it read before'; 0 by the template 'total and deterministic' (their statements: YtcebkinkbelcnaaTotals.lean).
  GIVEN WITH THE SEED: the statements are not yours to turn. If you find one false, say at which input.
  Laid BY PROGRAM, IN A SANDBOX (cutbox-rows.mjs): the forced cells as the released guide's own fill.sh prints them over the translation 653c36309f8099d1… (all of the seat's roots in one cut). By AI agents, Wed Nov 11 2026. No macro, syntax, notation, axiom, sorry.
-/
import Derived.Test.YtcebkinkbelcnaaChecked
import GoSem.Claim
import GoSem.ClaimJoined
import GoSem.ClaimMapViews
import Derived.JoinedTies
import Derived.KernelRfl
namespace Go.Proofs.Ytcebkinkbelcnaa
/- THE CELL 'sum', in the pinned program and in every row, IS THE sha256 OF THE DUMP (.gsa) THAT YtcebkinkbelcnaaProg.lean LOADS. Nothing in Lean hashes anything: it is a label: what it is worth is what the hold of that sum in a sandbox is worth. -/
noncomputable def Try.pinned : Pinned := { name := "ytcebkinkbelcnaa", sum := "653c36309f8099d1c2dc26e24ffff6cf994e4450a3bc482b07065b5fcbb30ceb", checked := Try.checked }
namespace Rows
def none {H : Type} : Left H := { results := [], args := [] }

/-- 'laws.FnExactIsPartOf': WHATEVER THE INPUT: true; the input reads as it did. -/
def fnExactIsPartOfSpec : ChangeSpec := { name := "fnExactIsPartOf", fn := fun _ => fun
  | [d1, d2] => { results := [.lit (.bool true)], args := [d1, d2] }
  | _ => none }
def fnExactIsPartOfRow : OpenClaim := { program := "ytcebkinkbelcnaa", sum := "653c36309f8099d1c2dc26e24ffff6cf994e4450a3bc482b07065b5fcbb30ceb", func := "loop.example/g01174/laws.FnExactIsPartOf", spec := "fnExactIsPartOf", unfollowed := true, recurses := true, apart := false }
def FnExactIsPartOfSaid : Prop := fnExactIsPartOfRow.holds Try.pinned (OpenSpec.ofChange fnExactIsPartOfSpec)

/-- ITS FALSE NEIGHBOUR: 'it returns false'. Refute it at one input. -/
def fnExactIsPartOfWrong : ChangeSpec := { name := "fnExactIsPartOf", fn := fun _ => fun
  | [d1, d2] => { results := [.lit (.bool false)], args := [d1, d2] }
  | _ => none }
def FnExactIsPartOfWrongFalsely : Prop := fnExactIsPartOfRow.holds Try.pinned (OpenSpec.ofChange fnExactIsPartOfWrong)

/-- 'laws.FnExactGetBlob': WHATEVER THE INPUT: true; the input reads as it did. -/
def fnExactGetBlobSpec : ChangeSpec := { name := "fnExactGetBlob", fn := fun _ => fun
  | [d1, d2] => { results := [.lit (.bool true)], args := [d1, d2] }
  | _ => none }
def fnExactGetBlobRow : OpenClaim := { program := "ytcebkinkbelcnaa", sum := "653c36309f8099d1c2dc26e24ffff6cf994e4450a3bc482b07065b5fcbb30ceb", func := "loop.example/g01174/laws.FnExactGetBlob", spec := "fnExactGetBlob", unfollowed := true, recurses := true, apart := false }
def FnExactGetBlobSaid : Prop := fnExactGetBlobRow.holds Try.pinned (OpenSpec.ofChange fnExactGetBlobSpec)

/-- ITS FALSE NEIGHBOUR: 'it returns false'. Refute it at one input. -/
def fnExactGetBlobWrong : ChangeSpec := { name := "fnExactGetBlob", fn := fun _ => fun
  | [d1, d2] => { results := [.lit (.bool false)], args := [d1, d2] }
  | _ => none }
def FnExactGetBlobWrongFalsely : Prop := fnExactGetBlobRow.holds Try.pinned (OpenSpec.ofChange fnExactGetBlobWrong)

/-- 'laws.FnExactMinusStores': WHATEVER THE INPUT: true; the input reads as it did. -/
def fnExactMinusStoresSpec : ChangeSpec := { name := "fnExactMinusStores", fn := fun _ => fun
  | [d1, d2] => { results := [.lit (.bool true)], args := [d1, d2] }
  | _ => none }
def fnExactMinusStoresRow : OpenClaim := { program := "ytcebkinkbelcnaa", sum := "653c36309f8099d1c2dc26e24ffff6cf994e4450a3bc482b07065b5fcbb30ceb", func := "loop.example/g01174/laws.FnExactMinusStores", spec := "fnExactMinusStores", unfollowed := true, recurses := true, apart := false }
def FnExactMinusStoresSaid : Prop := fnExactMinusStoresRow.holds Try.pinned (OpenSpec.ofChange fnExactMinusStoresSpec)

/-- ITS FALSE NEIGHBOUR: 'it returns false'. Refute it at one input. -/
def fnExactMinusStoresWrong : ChangeSpec := { name := "fnExactMinusStores", fn := fun _ => fun
  | [d1, d2] => { results := [.lit (.bool false)], args := [d1, d2] }
  | _ => none }
def FnExactMinusStoresWrongFalsely : Prop := fnExactMinusStoresRow.holds Try.pinned (OpenSpec.ofChange fnExactMinusStoresWrong)

/-- 'laws.FnExactDropBlob': WHATEVER THE INPUT: true; the input reads as it did. -/
def fnExactDropBlobSpec : ChangeSpec := { name := "fnExactDropBlob", fn := fun _ => fun
  | [d1, d2] => { results := [.lit (.bool true)], args := [d1, d2] }
  | _ => none }
def fnExactDropBlobRow : OpenClaim := { program := "ytcebkinkbelcnaa", sum := "653c36309f8099d1c2dc26e24ffff6cf994e4450a3bc482b07065b5fcbb30ceb", func := "loop.example/g01174/laws.FnExactDropBlob", spec := "fnExactDropBlob", unfollowed := true, recurses := true, apart := false }
def FnExactDropBlobSaid : Prop := fnExactDropBlobRow.holds Try.pinned (OpenSpec.ofChange fnExactDropBlobSpec)

/-- ITS FALSE NEIGHBOUR: 'it returns false'. Refute it at one input. -/
def fnExactDropBlobWrong : ChangeSpec := { name := "fnExactDropBlob", fn := fun _ => fun
  | [d1, d2] => { results := [.lit (.bool false)], args := [d1, d2] }
  | _ => none }
def FnExactDropBlobWrongFalsely : Prop := fnExactDropBlobRow.holds Try.pinned (OpenSpec.ofChange fnExactDropBlobWrong)

/- THE SECOND FORM. 'bulk': how many values and letters a reading holds, each counted each time it is reached (what is shared counts as often as it is met; a slice's spare places count too). A statement '..UptoSaid' is the law's where the arguments, and the package variables that the reading takes, are together of bulk at most 1048576: NARROWER than '..Said'. Prove '..Said' where nothing that the law and all that it calls make is longer than what came in: it says more and counts as full. Else prove '..UptoSaid'. A law counts once. -/
mutual
def uptoBulk {H : Type} : DataW H → Nat
  | .lit (.string bytes) => bytes.length + 1
  | .lit _ => 1
  | .nil => 1
  | .ptr d => uptoBulk d + 1
  | .slice elems spare => uptoBulkAll elems + uptoBulkAll spare + 1
  | .agg parts => uptoBulkAll parts + 1
  | .iface _ d => uptoBulk d + 1
  | .map entries => uptoBulkEntries entries + 1
  | .held _ => 1
def uptoBulkAll {H : Type} : List (DataW H) → Nat
  | [] => 0
  | d :: r => uptoBulk d + uptoBulkAll r
def uptoBulkEntries {H : Type} : List (Lit × DataW H) → Nat
  | [] => 0
  | x :: r => uptoBulkEntry x + uptoBulkEntries r
def uptoBulkEntry {H : Type} : Lit × DataW H → Nat
  | (.string bytes, d) => bytes.length + uptoBulk d + 1
  | (_, d) => uptoBulk d + 1
 end
def uptoSmall : (H : Type) → List (DataW H) → Bool := fun _ ds => decide (uptoBulkAll ds ≤ 1048576)
def OpenSpec.upto (s : _root_.Go.ChangeSpec) : _root_.Go.OpenSpec := { _root_.Go.OpenSpec.ofChange s with cond := some uptoSmall }

/-- 'laws.FnExactIsPartOf', WHERE WHAT IT READS IS OF BULK AT MOST 1048576: true; the input reads as it did. -/
def fnExactIsPartOfUptoRow : OpenClaim := { program := "ytcebkinkbelcnaa", sum := "653c36309f8099d1c2dc26e24ffff6cf994e4450a3bc482b07065b5fcbb30ceb", func := "loop.example/g01174/laws.FnExactIsPartOf", spec := "fnExactIsPartOf", unfollowed := true, recurses := true, apart := false, narrowed := true }
def FnExactIsPartOfUptoSaid : Prop := fnExactIsPartOfUptoRow.holds Try.pinned (OpenSpec.upto fnExactIsPartOfSpec)

/-- 'laws.FnExactGetBlob', WHERE WHAT IT READS IS OF BULK AT MOST 1048576: true; the input reads as it did. -/
def fnExactGetBlobUptoRow : OpenClaim := { program := "ytcebkinkbelcnaa", sum := "653c36309f8099d1c2dc26e24ffff6cf994e4450a3bc482b07065b5fcbb30ceb", func := "loop.example/g01174/laws.FnExactGetBlob", spec := "fnExactGetBlob", unfollowed := true, recurses := true, apart := false, narrowed := true }
def FnExactGetBlobUptoSaid : Prop := fnExactGetBlobUptoRow.holds Try.pinned (OpenSpec.upto fnExactGetBlobSpec)

/-- 'laws.FnExactMinusStores', WHERE WHAT IT READS IS OF BULK AT MOST 1048576: true; the input reads as it did. -/
def fnExactMinusStoresUptoRow : OpenClaim := { program := "ytcebkinkbelcnaa", sum := "653c36309f8099d1c2dc26e24ffff6cf994e4450a3bc482b07065b5fcbb30ceb", func := "loop.example/g01174/laws.FnExactMinusStores", spec := "fnExactMinusStores", unfollowed := true, recurses := true, apart := false, narrowed := true }
def FnExactMinusStoresUptoSaid : Prop := fnExactMinusStoresUptoRow.holds Try.pinned (OpenSpec.upto fnExactMinusStoresSpec)

/-- 'laws.FnExactDropBlob', WHERE WHAT IT READS IS OF BULK AT MOST 1048576: true; the input reads as it did. -/
def fnExactDropBlobUptoRow : OpenClaim := { program := "ytcebkinkbelcnaa", sum := "653c36309f8099d1c2dc26e24ffff6cf994e4450a3bc482b07065b5fcbb30ceb", func := "loop.example/g01174/laws.FnExactDropBlob", spec := "fnExactDropBlob", unfollowed := true, recurses := true, apart := false, narrowed := true }
def FnExactDropBlobUptoSaid : Prop := fnExactDropBlobUptoRow.holds Try.pinned (OpenSpec.upto fnExactDropBlobSpec)

end Rows
end Go.Proofs.Ytcebkinkbelcnaa
