/-
  No cell of these rows narrows 'for every input' (looked for: loops, veiled, ifaces, maps, wideKeys, modest, calm, conditions, laid).
  DERIVED. THE GIVEN ROWS OF THIS SEAT. 7 by the template 'for every input the law returns true; each argument reads behind the call as it read before'; 0 by the template 'total and deterministic' (their statements: YtlhlnchhaminjaaGreatTotals.lean).
  GIVEN WITH THE SEED: the statements are not yours to turn. If you find one false, say at which input.
  Laid BY PROGRAM, IN A SANDBOX (cutbox-rows.mjs): the forced cells as the released guide's own fill.sh prints them over the translation e97c9362db7aae7f… (all of the seat's roots in one cut). By AI agents, Wed Nov 11 2026. No macro, syntax, notation, axiom, sorry.
-/
import Derived.Test.YtlhlnchhaminjaaGreatChecked
import GoSem.Claim
import GoSem.ClaimJoined
import GoSem.ClaimMapViews
import Derived.JoinedTies
import Derived.KernelRfl
namespace Go.Proofs.YtlhlnchhaminjaaGreat
/- THE CELL 'sum', in the pinned program and in every row, IS THE sha256 OF THE DUMP (.gsa) THAT YtlhlnchhaminjaaGreatProg.lean LOADS. Nothing in Lean hashes anything: it is a label: what it is worth is what the hold of that sum in a sandbox is worth. -/
noncomputable def Tryz.pinned : Pinned := { name := "ytlhlnchhaminjaagreat", sum := "e97c9362db7aae7f0e0aa4e5316c42f3a4bbbc45673594f9dacf70e88dbf2bc5", checked := Tryz.checked }
namespace Rows
def none {H : Type} : Left H := { results := [], args := [] }

/-- 'rolodexlaw14.CrdtKnown': WHATEVER THE INPUT: true; the input reads as it did. -/
def crdtKnownSpec : ChangeSpec := { name := "crdtKnown", fn := fun _ => fun
  | [] => { results := [.lit (.bool true)], args := [] }
  | _ => none }
def crdtKnownRow : OpenClaim := { program := "ytlhlnchhaminjaagreat", sum := "e97c9362db7aae7f0e0aa4e5316c42f3a4bbbc45673594f9dacf70e88dbf2bc5", func := "rolodex/rolodexlaw14.CrdtKnown", spec := "crdtKnown", inPlace := ["slices.overlaps[uint64]"], unfollowed := true, recurses := true, plainKeys := false, apart := false }
def CrdtKnownSaid : Prop := crdtKnownRow.holds Tryz.pinned (OpenSpec.ofChange crdtKnownSpec)

/-- ITS FALSE NEIGHBOUR: 'it returns false'. Refute it at one input. -/
def crdtKnownWrong : ChangeSpec := { name := "crdtKnown", fn := fun _ => fun
  | [] => { results := [.lit (.bool false)], args := [] }
  | _ => none }
def CrdtKnownWrongFalsely : Prop := crdtKnownRow.holds Tryz.pinned (OpenSpec.ofChange crdtKnownWrong)

/-- 'rolodexlaw14.CrdtComes': WHATEVER THE INPUT: true; the input reads as it did. -/
def crdtComesSpec : ChangeSpec := { name := "crdtComes", fn := fun _ => fun
  | [d1, d2] => { results := [.lit (.bool true)], args := [d1, d2] }
  | _ => none }
def crdtComesRow : OpenClaim := { program := "ytlhlnchhaminjaagreat", sum := "e97c9362db7aae7f0e0aa4e5316c42f3a4bbbc45673594f9dacf70e88dbf2bc5", func := "rolodex/rolodexlaw14.CrdtComes", spec := "crdtComes", inPlace := ["slices.overlaps[uint64]"], unfollowed := true, recurses := true, plainKeys := false, apart := false }
def CrdtComesSaid : Prop := crdtComesRow.holds Tryz.pinned (OpenSpec.ofChange crdtComesSpec)

/-- ITS FALSE NEIGHBOUR: 'it returns false'. Refute it at one input. -/
def crdtComesWrong : ChangeSpec := { name := "crdtComes", fn := fun _ => fun
  | [d1, d2] => { results := [.lit (.bool false)], args := [d1, d2] }
  | _ => none }
def CrdtComesWrongFalsely : Prop := crdtComesRow.holds Tryz.pinned (OpenSpec.ofChange crdtComesWrong)

/-- 'rolodexlaw14.CrdtJoins': WHATEVER THE INPUT: true; the input reads as it did. -/
def crdtJoinsSpec : ChangeSpec := { name := "crdtJoins", fn := fun _ => fun
  | [d1, d2] => { results := [.lit (.bool true)], args := [d1, d2] }
  | _ => none }
def crdtJoinsRow : OpenClaim := { program := "ytlhlnchhaminjaagreat", sum := "e97c9362db7aae7f0e0aa4e5316c42f3a4bbbc45673594f9dacf70e88dbf2bc5", func := "rolodex/rolodexlaw14.CrdtJoins", spec := "crdtJoins", inPlace := ["slices.overlaps[uint64]"], unfollowed := true, recurses := true, plainKeys := false, apart := false }
def CrdtJoinsSaid : Prop := crdtJoinsRow.holds Tryz.pinned (OpenSpec.ofChange crdtJoinsSpec)

/-- ITS FALSE NEIGHBOUR: 'it returns false'. Refute it at one input. -/
def crdtJoinsWrong : ChangeSpec := { name := "crdtJoins", fn := fun _ => fun
  | [d1, d2] => { results := [.lit (.bool false)], args := [d1, d2] }
  | _ => none }
def CrdtJoinsWrongFalsely : Prop := crdtJoinsRow.holds Tryz.pinned (OpenSpec.ofChange crdtJoinsWrong)

/-- 'rolodexlaw14.CrdtHolds': WHATEVER THE INPUT: true; the input reads as it did. -/
def crdtHoldsSpec : ChangeSpec := { name := "crdtHolds", fn := fun _ => fun
  | [d1, d2] => { results := [.lit (.bool true)], args := [d1, d2] }
  | _ => none }
def crdtHoldsRow : OpenClaim := { program := "ytlhlnchhaminjaagreat", sum := "e97c9362db7aae7f0e0aa4e5316c42f3a4bbbc45673594f9dacf70e88dbf2bc5", func := "rolodex/rolodexlaw14.CrdtHolds", spec := "crdtHolds", inPlace := ["slices.overlaps[uint64]"], unfollowed := true, recurses := true, plainKeys := false, apart := false }
def CrdtHoldsSaid : Prop := crdtHoldsRow.holds Tryz.pinned (OpenSpec.ofChange crdtHoldsSpec)

/-- ITS FALSE NEIGHBOUR: 'it returns false'. Refute it at one input. -/
def crdtHoldsWrong : ChangeSpec := { name := "crdtHolds", fn := fun _ => fun
  | [d1, d2] => { results := [.lit (.bool false)], args := [d1, d2] }
  | _ => none }
def CrdtHoldsWrongFalsely : Prop := crdtHoldsRow.holds Tryz.pinned (OpenSpec.ofChange crdtHoldsWrong)

/-- 'rolodexlaw14.CrdtBytes': WHATEVER THE INPUT: true; the input reads as it did. -/
def crdtBytesSpec : ChangeSpec := { name := "crdtBytes", fn := fun _ => fun
  | [d1, d2, d3, d4, d5] => { results := [.lit (.bool true)], args := [d1, d2, d3, d4, d5] }
  | _ => none }
def crdtBytesRow : OpenClaim := { program := "ytlhlnchhaminjaagreat", sum := "e97c9362db7aae7f0e0aa4e5316c42f3a4bbbc45673594f9dacf70e88dbf2bc5", func := "rolodex/rolodexlaw14.CrdtBytes", spec := "crdtBytes", inPlace := ["slices.overlaps[uint64]"], unfollowed := true, recurses := true, plainKeys := false, apart := false }
def CrdtBytesSaid : Prop := crdtBytesRow.holds Tryz.pinned (OpenSpec.ofChange crdtBytesSpec)

/-- ITS FALSE NEIGHBOUR: 'it returns false'. Refute it at one input. -/
def crdtBytesWrong : ChangeSpec := { name := "crdtBytes", fn := fun _ => fun
  | [d1, d2, d3, d4, d5] => { results := [.lit (.bool false)], args := [d1, d2, d3, d4, d5] }
  | _ => none }
def CrdtBytesWrongFalsely : Prop := crdtBytesRow.holds Tryz.pinned (OpenSpec.ofChange crdtBytesWrong)

/-- 'rolodexlaw14.CrdtApart': WHATEVER THE INPUT: true; the input reads as it did. -/
def crdtApartSpec : ChangeSpec := { name := "crdtApart", fn := fun _ => fun
  | [d1, d2, d3, d4, d5, d6] => { results := [.lit (.bool true)], args := [d1, d2, d3, d4, d5, d6] }
  | _ => none }
def crdtApartRow : OpenClaim := { program := "ytlhlnchhaminjaagreat", sum := "e97c9362db7aae7f0e0aa4e5316c42f3a4bbbc45673594f9dacf70e88dbf2bc5", func := "rolodex/rolodexlaw14.CrdtApart", spec := "crdtApart", inPlace := ["slices.overlaps[uint64]"], unfollowed := true, recurses := true, plainKeys := false, apart := false }
def CrdtApartSaid : Prop := crdtApartRow.holds Tryz.pinned (OpenSpec.ofChange crdtApartSpec)

/-- ITS FALSE NEIGHBOUR: 'it returns false'. Refute it at one input. -/
def crdtApartWrong : ChangeSpec := { name := "crdtApart", fn := fun _ => fun
  | [d1, d2, d3, d4, d5, d6] => { results := [.lit (.bool false)], args := [d1, d2, d3, d4, d5, d6] }
  | _ => none }
def CrdtApartWrongFalsely : Prop := crdtApartRow.holds Tryz.pinned (OpenSpec.ofChange crdtApartWrong)

/-- 'rolodexlaw14.CrdtGrows': WHATEVER THE INPUT: true; the input reads as it did. -/
def crdtGrowsSpec : ChangeSpec := { name := "crdtGrows", fn := fun _ => fun
  | [d1, d2] => { results := [.lit (.bool true)], args := [d1, d2] }
  | _ => none }
def crdtGrowsRow : OpenClaim := { program := "ytlhlnchhaminjaagreat", sum := "e97c9362db7aae7f0e0aa4e5316c42f3a4bbbc45673594f9dacf70e88dbf2bc5", func := "rolodex/rolodexlaw14.CrdtGrows", spec := "crdtGrows", inPlace := ["slices.overlaps[uint64]"], unfollowed := true, recurses := true, plainKeys := false, apart := false }
def CrdtGrowsSaid : Prop := crdtGrowsRow.holds Tryz.pinned (OpenSpec.ofChange crdtGrowsSpec)

/-- ITS FALSE NEIGHBOUR: 'it returns false'. Refute it at one input. -/
def crdtGrowsWrong : ChangeSpec := { name := "crdtGrows", fn := fun _ => fun
  | [d1, d2] => { results := [.lit (.bool false)], args := [d1, d2] }
  | _ => none }
def CrdtGrowsWrongFalsely : Prop := crdtGrowsRow.holds Tryz.pinned (OpenSpec.ofChange crdtGrowsWrong)

/- THE SECOND FORM. 'bulk': how many values and letters a reading holds, each counted each time it is reached (what is shared counts as often as it is met; a slice's spare places count too). A statement '..UptoSaid' is the law's where the arguments, and the package variables that the reading takes, are together of bulk at most 1048576: NARROWER than '..Said'. Prove '..Said' where nothing that the law and all that it calls make is longer than what came in: it says more and counts as full. Else prove '..UptoSaid'. A law counts once. -/
mutual
def uptoBulk {H : Type} : DataW H → Nat
  | .lit (.string bytes) => bytes.length + 1
  | .lit _ => 1
  | .nil => 1
  | .ptr d => uptoBulk d + 1
  | .slice elems spare => uptoBulkAll elems + uptoBulkAll spare + 1
  | .agg parts => uptoBulkAll parts + 1
  | .iface _ d => uptoBulk d + 1
  | .map entries => uptoBulkEntries entries + 1
  | .held _ => 1
def uptoBulkAll {H : Type} : List (DataW H) → Nat
  | [] => 0
  | d :: r => uptoBulk d + uptoBulkAll r
def uptoBulkEntries {H : Type} : List (Lit × DataW H) → Nat
  | [] => 0
  | x :: r => uptoBulkEntry x + uptoBulkEntries r
def uptoBulkEntry {H : Type} : Lit × DataW H → Nat
  | (.string bytes, d) => bytes.length + uptoBulk d + 1
  | (_, d) => uptoBulk d + 1
 end
def uptoSmall : (H : Type) → List (DataW H) → Bool := fun _ ds => decide (uptoBulkAll ds ≤ 1048576)
def OpenSpec.upto (s : _root_.Go.ChangeSpec) : _root_.Go.OpenSpec := { _root_.Go.OpenSpec.ofChange s with cond := some uptoSmall }

/-- 'rolodexlaw14.CrdtKnown', WHERE WHAT IT READS IS OF BULK AT MOST 1048576: true; the input reads as it did. -/
def crdtKnownUptoRow : OpenClaim := { program := "ytlhlnchhaminjaagreat", sum := "e97c9362db7aae7f0e0aa4e5316c42f3a4bbbc45673594f9dacf70e88dbf2bc5", func := "rolodex/rolodexlaw14.CrdtKnown", spec := "crdtKnown", inPlace := ["slices.overlaps[uint64]"], unfollowed := true, recurses := true, plainKeys := false, apart := false, narrowed := true }
def CrdtKnownUptoSaid : Prop := crdtKnownUptoRow.holds Tryz.pinned (OpenSpec.upto crdtKnownSpec)

/-- 'rolodexlaw14.CrdtComes', WHERE WHAT IT READS IS OF BULK AT MOST 1048576: true; the input reads as it did. -/
def crdtComesUptoRow : OpenClaim := { program := "ytlhlnchhaminjaagreat", sum := "e97c9362db7aae7f0e0aa4e5316c42f3a4bbbc45673594f9dacf70e88dbf2bc5", func := "rolodex/rolodexlaw14.CrdtComes", spec := "crdtComes", inPlace := ["slices.overlaps[uint64]"], unfollowed := true, recurses := true, plainKeys := false, apart := false, narrowed := true }
def CrdtComesUptoSaid : Prop := crdtComesUptoRow.holds Tryz.pinned (OpenSpec.upto crdtComesSpec)

/-- 'rolodexlaw14.CrdtJoins', WHERE WHAT IT READS IS OF BULK AT MOST 1048576: true; the input reads as it did. -/
def crdtJoinsUptoRow : OpenClaim := { program := "ytlhlnchhaminjaagreat", sum := "e97c9362db7aae7f0e0aa4e5316c42f3a4bbbc45673594f9dacf70e88dbf2bc5", func := "rolodex/rolodexlaw14.CrdtJoins", spec := "crdtJoins", inPlace := ["slices.overlaps[uint64]"], unfollowed := true, recurses := true, plainKeys := false, apart := false, narrowed := true }
def CrdtJoinsUptoSaid : Prop := crdtJoinsUptoRow.holds Tryz.pinned (OpenSpec.upto crdtJoinsSpec)

/-- 'rolodexlaw14.CrdtHolds', WHERE WHAT IT READS IS OF BULK AT MOST 1048576: true; the input reads as it did. -/
def crdtHoldsUptoRow : OpenClaim := { program := "ytlhlnchhaminjaagreat", sum := "e97c9362db7aae7f0e0aa4e5316c42f3a4bbbc45673594f9dacf70e88dbf2bc5", func := "rolodex/rolodexlaw14.CrdtHolds", spec := "crdtHolds", inPlace := ["slices.overlaps[uint64]"], unfollowed := true, recurses := true, plainKeys := false, apart := false, narrowed := true }
def CrdtHoldsUptoSaid : Prop := crdtHoldsUptoRow.holds Tryz.pinned (OpenSpec.upto crdtHoldsSpec)

/-- 'rolodexlaw14.CrdtBytes', WHERE WHAT IT READS IS OF BULK AT MOST 1048576: true; the input reads as it did. -/
def crdtBytesUptoRow : OpenClaim := { program := "ytlhlnchhaminjaagreat", sum := "e97c9362db7aae7f0e0aa4e5316c42f3a4bbbc45673594f9dacf70e88dbf2bc5", func := "rolodex/rolodexlaw14.CrdtBytes", spec := "crdtBytes", inPlace := ["slices.overlaps[uint64]"], unfollowed := true, recurses := true, plainKeys := false, apart := false, narrowed := true }
def CrdtBytesUptoSaid : Prop := crdtBytesUptoRow.holds Tryz.pinned (OpenSpec.upto crdtBytesSpec)

/-- 'rolodexlaw14.CrdtApart', WHERE WHAT IT READS IS OF BULK AT MOST 1048576: true; the input reads as it did. -/
def crdtApartUptoRow : OpenClaim := { program := "ytlhlnchhaminjaagreat", sum := "e97c9362db7aae7f0e0aa4e5316c42f3a4bbbc45673594f9dacf70e88dbf2bc5", func := "rolodex/rolodexlaw14.CrdtApart", spec := "crdtApart", inPlace := ["slices.overlaps[uint64]"], unfollowed := true, recurses := true, plainKeys := false, apart := false, narrowed := true }
def CrdtApartUptoSaid : Prop := crdtApartUptoRow.holds Tryz.pinned (OpenSpec.upto crdtApartSpec)

/-- 'rolodexlaw14.CrdtGrows', WHERE WHAT IT READS IS OF BULK AT MOST 1048576: true; the input reads as it did. -/
def crdtGrowsUptoRow : OpenClaim := { program := "ytlhlnchhaminjaagreat", sum := "e97c9362db7aae7f0e0aa4e5316c42f3a4bbbc45673594f9dacf70e88dbf2bc5", func := "rolodex/rolodexlaw14.CrdtGrows", spec := "crdtGrows", inPlace := ["slices.overlaps[uint64]"], unfollowed := true, recurses := true, plainKeys := false, apart := false, narrowed := true }
def CrdtGrowsUptoSaid : Prop := crdtGrowsUptoRow.holds Tryz.pinned (OpenSpec.upto crdtGrowsSpec)

end Rows
end Go.Proofs.YtlhlnchhaminjaaGreat
