/-
  No cell of these rows narrows 'for every input' (looked for: loops, veiled, ifaces, maps, wideKeys, modest, calm, conditions, laid).
  DERIVED. THE GIVEN ROWS OF THIS SEAT. 7 by the template 'for every input the law returns true; each argument reads behind the call as it read before'; 0 by the template 'total and deterministic' (their statements: YtkmkfgepdlkdkaaTotals.lean).
  GIVEN WITH THE SEED: the statements are not yours to turn. If you find one false, say at which input.
  Laid BY PROGRAM, IN A SANDBOX (cutbox-rows.mjs): the forced cells as the released guide's own fill.sh prints them over the translation f44d9699e1bc6299… (all of the seat's roots in one cut). By AI agents, Wed Nov 11 2026. No macro, syntax, notation, axiom, sorry.
-/
import Derived.Test.YtkmkfgepdlkdkaaChecked
import GoSem.Claim
import GoSem.ClaimJoined
import GoSem.ClaimMapViews
import Derived.JoinedTies
import Derived.KernelRfl
namespace Go.Proofs.Ytkmkfgepdlkdkaa
/- THE CELL 'sum', in the pinned program and in every row, IS THE sha256 OF THE DUMP (.gsa) THAT YtkmkfgepdlkdkaaProg.lean LOADS. Nothing in Lean hashes anything: it is a label: what it is worth is what the hold of that sum in a sandbox is worth. -/
noncomputable def Try.pinned : Pinned := { name := "ytkmkfgepdlkdkaa", sum := "f44d9699e1bc629966cec7ad10f376ea3c60813e3b34034d12875101e9c25ec9", checked := Try.checked }
namespace Rows
def none {H : Type} : Left H := { results := [], args := [] }

/-- 'rolodexlaw13.DotKnown': WHATEVER THE INPUT: true; the input reads as it did. -/
def dotKnownSpec : ChangeSpec := { name := "dotKnown", fn := fun _ => fun
  | [] => { results := [.lit (.bool true)], args := [] }
  | _ => none }
def dotKnownRow : OpenClaim := { program := "ytkmkfgepdlkdkaa", sum := "f44d9699e1bc629966cec7ad10f376ea3c60813e3b34034d12875101e9c25ec9", func := "rolodex/rolodexlaw13.DotKnown", spec := "dotKnown", inPlace := ["slices.overlaps[uint64]"], recurses := true, apart := false }
def DotKnownSaid : Prop := dotKnownRow.holds Try.pinned (OpenSpec.ofChange dotKnownSpec)

/-- ITS FALSE NEIGHBOUR: 'it returns false'. Refute it at one input. -/
def dotKnownWrong : ChangeSpec := { name := "dotKnown", fn := fun _ => fun
  | [] => { results := [.lit (.bool false)], args := [] }
  | _ => none }
def DotKnownWrongFalsely : Prop := dotKnownRow.holds Try.pinned (OpenSpec.ofChange dotKnownWrong)

/-- 'rolodexlaw13.DotSets': WHATEVER THE INPUT: true; the input reads as it did. -/
def dotSetsSpec : ChangeSpec := { name := "dotSets", fn := fun _ => fun
  | [d1, d2] => { results := [.lit (.bool true)], args := [d1, d2] }
  | _ => none }
def dotSetsRow : OpenClaim := { program := "ytkmkfgepdlkdkaa", sum := "f44d9699e1bc629966cec7ad10f376ea3c60813e3b34034d12875101e9c25ec9", func := "rolodex/rolodexlaw13.DotSets", spec := "dotSets", inPlace := ["slices.overlaps[uint64]"], recurses := true, apart := false }
def DotSetsSaid : Prop := dotSetsRow.holds Try.pinned (OpenSpec.ofChange dotSetsSpec)

/-- ITS FALSE NEIGHBOUR: 'it returns false'. Refute it at one input. -/
def dotSetsWrong : ChangeSpec := { name := "dotSets", fn := fun _ => fun
  | [d1, d2] => { results := [.lit (.bool false)], args := [d1, d2] }
  | _ => none }
def DotSetsWrongFalsely : Prop := dotSetsRow.holds Try.pinned (OpenSpec.ofChange dotSetsWrong)

/-- 'rolodexlaw13.DotJoins': WHATEVER THE INPUT: true; the input reads as it did. -/
def dotJoinsSpec : ChangeSpec := { name := "dotJoins", fn := fun _ => fun
  | [d1, d2, d3] => { results := [.lit (.bool true)], args := [d1, d2, d3] }
  | _ => none }
def dotJoinsRow : OpenClaim := { program := "ytkmkfgepdlkdkaa", sum := "f44d9699e1bc629966cec7ad10f376ea3c60813e3b34034d12875101e9c25ec9", func := "rolodex/rolodexlaw13.DotJoins", spec := "dotJoins", inPlace := ["slices.overlaps[uint64]"], recurses := true, apart := false }
def DotJoinsSaid : Prop := dotJoinsRow.holds Try.pinned (OpenSpec.ofChange dotJoinsSpec)

/-- ITS FALSE NEIGHBOUR: 'it returns false'. Refute it at one input. -/
def dotJoinsWrong : ChangeSpec := { name := "dotJoins", fn := fun _ => fun
  | [d1, d2, d3] => { results := [.lit (.bool false)], args := [d1, d2, d3] }
  | _ => none }
def DotJoinsWrongFalsely : Prop := dotJoinsRow.holds Try.pinned (OpenSpec.ofChange dotJoinsWrong)

/-- 'rolodexlaw13.DotBytes': WHATEVER THE INPUT: true; the input reads as it did. -/
def dotBytesSpec : ChangeSpec := { name := "dotBytes", fn := fun _ => fun
  | [d1, d2, d3, d4] => { results := [.lit (.bool true)], args := [d1, d2, d3, d4] }
  | _ => none }
def dotBytesRow : OpenClaim := { program := "ytkmkfgepdlkdkaa", sum := "f44d9699e1bc629966cec7ad10f376ea3c60813e3b34034d12875101e9c25ec9", func := "rolodex/rolodexlaw13.DotBytes", spec := "dotBytes", inPlace := ["slices.overlaps[uint64]"], recurses := true, apart := false }
def DotBytesSaid : Prop := dotBytesRow.holds Try.pinned (OpenSpec.ofChange dotBytesSpec)

/-- ITS FALSE NEIGHBOUR: 'it returns false'. Refute it at one input. -/
def dotBytesWrong : ChangeSpec := { name := "dotBytes", fn := fun _ => fun
  | [d1, d2, d3, d4] => { results := [.lit (.bool false)], args := [d1, d2, d3, d4] }
  | _ => none }
def DotBytesWrongFalsely : Prop := dotBytesRow.holds Try.pinned (OpenSpec.ofChange dotBytesWrong)

/-- 'rolodexlaw13.DotOrder': WHATEVER THE INPUT: true; the input reads as it did. -/
def dotOrderSpec : ChangeSpec := { name := "dotOrder", fn := fun _ => fun
  | [d1, d2, d3] => { results := [.lit (.bool true)], args := [d1, d2, d3] }
  | _ => none }
def dotOrderRow : OpenClaim := { program := "ytkmkfgepdlkdkaa", sum := "f44d9699e1bc629966cec7ad10f376ea3c60813e3b34034d12875101e9c25ec9", func := "rolodex/rolodexlaw13.DotOrder", spec := "dotOrder", inPlace := ["slices.overlaps[uint64]"], recurses := true, apart := false }
def DotOrderSaid : Prop := dotOrderRow.holds Try.pinned (OpenSpec.ofChange dotOrderSpec)

/-- ITS FALSE NEIGHBOUR: 'it returns false'. Refute it at one input. -/
def dotOrderWrong : ChangeSpec := { name := "dotOrder", fn := fun _ => fun
  | [d1, d2, d3] => { results := [.lit (.bool false)], args := [d1, d2, d3] }
  | _ => none }
def DotOrderWrongFalsely : Prop := dotOrderRow.holds Try.pinned (OpenSpec.ofChange dotOrderWrong)

/-- 'rolodexlaw13.DotGrows': WHATEVER THE INPUT: true; the input reads as it did. -/
def dotGrowsSpec : ChangeSpec := { name := "dotGrows", fn := fun _ => fun
  | [d] => { results := [.lit (.bool true)], args := [d] }
  | _ => none }
def dotGrowsRow : OpenClaim := { program := "ytkmkfgepdlkdkaa", sum := "f44d9699e1bc629966cec7ad10f376ea3c60813e3b34034d12875101e9c25ec9", func := "rolodex/rolodexlaw13.DotGrows", spec := "dotGrows", inPlace := ["slices.overlaps[uint64]"], recurses := true, apart := false }
def DotGrowsSaid : Prop := dotGrowsRow.holds Try.pinned (OpenSpec.ofChange dotGrowsSpec)

/-- ITS FALSE NEIGHBOUR: 'it returns false'. Refute it at one input. -/
def dotGrowsWrong : ChangeSpec := { name := "dotGrows", fn := fun _ => fun
  | [d] => { results := [.lit (.bool false)], args := [d] }
  | _ => none }
def DotGrowsWrongFalsely : Prop := dotGrowsRow.holds Try.pinned (OpenSpec.ofChange dotGrowsWrong)

/-- 'rolodexlaw13.DotParts': WHATEVER THE INPUT: true; the input reads as it did. -/
def dotPartsSpec : ChangeSpec := { name := "dotParts", fn := fun _ => fun
  | [d1, d2] => { results := [.lit (.bool true)], args := [d1, d2] }
  | _ => none }
def dotPartsRow : OpenClaim := { program := "ytkmkfgepdlkdkaa", sum := "f44d9699e1bc629966cec7ad10f376ea3c60813e3b34034d12875101e9c25ec9", func := "rolodex/rolodexlaw13.DotParts", spec := "dotParts", inPlace := ["slices.overlaps[uint64]"], recurses := true, apart := false }
def DotPartsSaid : Prop := dotPartsRow.holds Try.pinned (OpenSpec.ofChange dotPartsSpec)

/-- ITS FALSE NEIGHBOUR: 'it returns false'. Refute it at one input. -/
def dotPartsWrong : ChangeSpec := { name := "dotParts", fn := fun _ => fun
  | [d1, d2] => { results := [.lit (.bool false)], args := [d1, d2] }
  | _ => none }
def DotPartsWrongFalsely : Prop := dotPartsRow.holds Try.pinned (OpenSpec.ofChange dotPartsWrong)

/- THE SECOND FORM. 'bulk': how many values and letters a reading holds, each counted each time it is reached (what is shared counts as often as it is met; a slice's spare places count too). A statement '..UptoSaid' is the law's where the arguments, and the package variables that the reading takes, are together of bulk at most 1048576: NARROWER than '..Said'. Prove '..Said' where nothing that the law and all that it calls make is longer than what came in: it says more and counts as full. Else prove '..UptoSaid'. A law counts once. -/
mutual
def uptoBulk {H : Type} : DataW H → Nat
  | .lit (.string bytes) => bytes.length + 1
  | .lit _ => 1
  | .nil => 1
  | .ptr d => uptoBulk d + 1
  | .slice elems spare => uptoBulkAll elems + uptoBulkAll spare + 1
  | .agg parts => uptoBulkAll parts + 1
  | .iface _ d => uptoBulk d + 1
  | .map entries => uptoBulkEntries entries + 1
  | .held _ => 1
def uptoBulkAll {H : Type} : List (DataW H) → Nat
  | [] => 0
  | d :: r => uptoBulk d + uptoBulkAll r
def uptoBulkEntries {H : Type} : List (Lit × DataW H) → Nat
  | [] => 0
  | x :: r => uptoBulkEntry x + uptoBulkEntries r
def uptoBulkEntry {H : Type} : Lit × DataW H → Nat
  | (.string bytes, d) => bytes.length + uptoBulk d + 1
  | (_, d) => uptoBulk d + 1
 end
def uptoSmall : (H : Type) → List (DataW H) → Bool := fun _ ds => decide (uptoBulkAll ds ≤ 1048576)
def OpenSpec.upto (s : _root_.Go.ChangeSpec) : _root_.Go.OpenSpec := { _root_.Go.OpenSpec.ofChange s with cond := some uptoSmall }

/-- 'rolodexlaw13.DotKnown', WHERE WHAT IT READS IS OF BULK AT MOST 1048576: true; the input reads as it did. -/
def dotKnownUptoRow : OpenClaim := { program := "ytkmkfgepdlkdkaa", sum := "f44d9699e1bc629966cec7ad10f376ea3c60813e3b34034d12875101e9c25ec9", func := "rolodex/rolodexlaw13.DotKnown", spec := "dotKnown", inPlace := ["slices.overlaps[uint64]"], recurses := true, apart := false, narrowed := true }
def DotKnownUptoSaid : Prop := dotKnownUptoRow.holds Try.pinned (OpenSpec.upto dotKnownSpec)

/-- 'rolodexlaw13.DotSets', WHERE WHAT IT READS IS OF BULK AT MOST 1048576: true; the input reads as it did. -/
def dotSetsUptoRow : OpenClaim := { program := "ytkmkfgepdlkdkaa", sum := "f44d9699e1bc629966cec7ad10f376ea3c60813e3b34034d12875101e9c25ec9", func := "rolodex/rolodexlaw13.DotSets", spec := "dotSets", inPlace := ["slices.overlaps[uint64]"], recurses := true, apart := false, narrowed := true }
def DotSetsUptoSaid : Prop := dotSetsUptoRow.holds Try.pinned (OpenSpec.upto dotSetsSpec)

/-- 'rolodexlaw13.DotJoins', WHERE WHAT IT READS IS OF BULK AT MOST 1048576: true; the input reads as it did. -/
def dotJoinsUptoRow : OpenClaim := { program := "ytkmkfgepdlkdkaa", sum := "f44d9699e1bc629966cec7ad10f376ea3c60813e3b34034d12875101e9c25ec9", func := "rolodex/rolodexlaw13.DotJoins", spec := "dotJoins", inPlace := ["slices.overlaps[uint64]"], recurses := true, apart := false, narrowed := true }
def DotJoinsUptoSaid : Prop := dotJoinsUptoRow.holds Try.pinned (OpenSpec.upto dotJoinsSpec)

/-- 'rolodexlaw13.DotBytes', WHERE WHAT IT READS IS OF BULK AT MOST 1048576: true; the input reads as it did. -/
def dotBytesUptoRow : OpenClaim := { program := "ytkmkfgepdlkdkaa", sum := "f44d9699e1bc629966cec7ad10f376ea3c60813e3b34034d12875101e9c25ec9", func := "rolodex/rolodexlaw13.DotBytes", spec := "dotBytes", inPlace := ["slices.overlaps[uint64]"], recurses := true, apart := false, narrowed := true }
def DotBytesUptoSaid : Prop := dotBytesUptoRow.holds Try.pinned (OpenSpec.upto dotBytesSpec)

/-- 'rolodexlaw13.DotOrder', WHERE WHAT IT READS IS OF BULK AT MOST 1048576: true; the input reads as it did. -/
def dotOrderUptoRow : OpenClaim := { program := "ytkmkfgepdlkdkaa", sum := "f44d9699e1bc629966cec7ad10f376ea3c60813e3b34034d12875101e9c25ec9", func := "rolodex/rolodexlaw13.DotOrder", spec := "dotOrder", inPlace := ["slices.overlaps[uint64]"], recurses := true, apart := false, narrowed := true }
def DotOrderUptoSaid : Prop := dotOrderUptoRow.holds Try.pinned (OpenSpec.upto dotOrderSpec)

/-- 'rolodexlaw13.DotGrows', WHERE WHAT IT READS IS OF BULK AT MOST 1048576: true; the input reads as it did. -/
def dotGrowsUptoRow : OpenClaim := { program := "ytkmkfgepdlkdkaa", sum := "f44d9699e1bc629966cec7ad10f376ea3c60813e3b34034d12875101e9c25ec9", func := "rolodex/rolodexlaw13.DotGrows", spec := "dotGrows", inPlace := ["slices.overlaps[uint64]"], recurses := true, apart := false, narrowed := true }
def DotGrowsUptoSaid : Prop := dotGrowsUptoRow.holds Try.pinned (OpenSpec.upto dotGrowsSpec)

/-- 'rolodexlaw13.DotParts', WHERE WHAT IT READS IS OF BULK AT MOST 1048576: true; the input reads as it did. -/
def dotPartsUptoRow : OpenClaim := { program := "ytkmkfgepdlkdkaa", sum := "f44d9699e1bc629966cec7ad10f376ea3c60813e3b34034d12875101e9c25ec9", func := "rolodex/rolodexlaw13.DotParts", spec := "dotParts", inPlace := ["slices.overlaps[uint64]"], recurses := true, apart := false, narrowed := true }
def DotPartsUptoSaid : Prop := dotPartsUptoRow.holds Try.pinned (OpenSpec.upto dotPartsSpec)

end Rows
end Go.Proofs.Ytkmkfgepdlkdkaa
