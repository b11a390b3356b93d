/-
  No cell of these rows narrows 'for every input' (looked for: loops, veiled, ifaces, maps, wideKeys, modest, calm, conditions, laid).
  DERIVED. THE GIVEN ROWS OF THIS SEAT. 6 by the template 'for every input the law returns true; each argument reads behind the call as it read before'; 0 by the template 'total and deterministic' (their statements: YtngfappichkflaaGreatTotals.lean).
  GIVEN WITH THE SEED: the statements are not yours to turn. If you find one false, say at which input.
  Laid BY PROGRAM, IN A SANDBOX (cutbox-rows.mjs): the forced cells as the released guide's own fill.sh prints them over the translation 2459c73d99258109… (all of the seat's roots in one cut). By AI agents, Wed Nov 11 2026. No macro, syntax, notation, axiom, sorry.
-/
import Derived.Test.YtngfappichkflaaGreatChecked
import GoSem.Claim
import GoSem.ClaimJoined
import GoSem.ClaimMapViews
import Derived.JoinedTies
import Derived.KernelRfl
namespace Go.Proofs.YtngfappichkflaaGreat
/- THE CELL 'sum', in the pinned program and in every row, IS THE sha256 OF THE DUMP (.gsa) THAT YtngfappichkflaaGreatProg.lean LOADS. Nothing in Lean hashes anything: it is a label: what it is worth is what the hold of that sum in a sandbox is worth. -/
noncomputable def Tryz.pinned : Pinned := { name := "ytngfappichkflaagreat", sum := "2459c73d99258109fb31fc05858dfb3ad27db7ccde31b54ed5b7c85f5fa1fd58", checked := Tryz.checked }
namespace Rows
def none {H : Type} : Left H := { results := [], args := [] }

/-- 'rolodexlaw15.ViewKnown': WHATEVER THE INPUT: true; the input reads as it did. -/
def viewKnownSpec : ChangeSpec := { name := "viewKnown", fn := fun _ => fun
  | [] => { results := [.lit (.bool true)], args := [] }
  | _ => none }
def viewKnownRow : OpenClaim := { program := "ytngfappichkflaagreat", sum := "2459c73d99258109fb31fc05858dfb3ad27db7ccde31b54ed5b7c85f5fa1fd58", func := "rolodex/rolodexlaw15.ViewKnown", spec := "viewKnown", inPlace := ["slices.overlaps[uint64]", "internal/bytealg.IndexByteString", "internal/bytealg.IndexString"], unfollowed := true, recurses := true, named := ["internal/bytealg.MaxLen"], apart := false }
def ViewKnownSaid : Prop := viewKnownRow.holds Tryz.pinned (OpenSpec.ofChange viewKnownSpec)

/-- ITS FALSE NEIGHBOUR: 'it returns false'. Refute it at one input. -/
def viewKnownWrong : ChangeSpec := { name := "viewKnown", fn := fun _ => fun
  | [] => { results := [.lit (.bool false)], args := [] }
  | _ => none }
def ViewKnownWrongFalsely : Prop := viewKnownRow.holds Tryz.pinned (OpenSpec.ofChange viewKnownWrong)

/-- 'rolodexlaw15.ViewShows': WHATEVER THE INPUT: true; the input reads as it did. -/
def viewShowsSpec : ChangeSpec := { name := "viewShows", fn := fun _ => fun
  | [d1, d2, d3] => { results := [.lit (.bool true)], args := [d1, d2, d3] }
  | _ => none }
def viewShowsRow : OpenClaim := { program := "ytngfappichkflaagreat", sum := "2459c73d99258109fb31fc05858dfb3ad27db7ccde31b54ed5b7c85f5fa1fd58", func := "rolodex/rolodexlaw15.ViewShows", spec := "viewShows", inPlace := ["slices.overlaps[uint64]", "internal/bytealg.IndexByteString", "internal/bytealg.IndexString"], unfollowed := true, recurses := true, named := ["internal/bytealg.MaxLen"], apart := false }
def ViewShowsSaid : Prop := viewShowsRow.holds Tryz.pinned (OpenSpec.ofChange viewShowsSpec)

/-- ITS FALSE NEIGHBOUR: 'it returns false'. Refute it at one input. -/
def viewShowsWrong : ChangeSpec := { name := "viewShows", fn := fun _ => fun
  | [d1, d2, d3] => { results := [.lit (.bool false)], args := [d1, d2, d3] }
  | _ => none }
def ViewShowsWrongFalsely : Prop := viewShowsRow.holds Tryz.pinned (OpenSpec.ofChange viewShowsWrong)

/-- 'rolodexlaw15.ViewWinner': WHATEVER THE INPUT: true; the input reads as it did. -/
def viewWinnerSpec : ChangeSpec := { name := "viewWinner", fn := fun _ => fun
  | [d] => { results := [.lit (.bool true)], args := [d] }
  | _ => none }
def viewWinnerRow : OpenClaim := { program := "ytngfappichkflaagreat", sum := "2459c73d99258109fb31fc05858dfb3ad27db7ccde31b54ed5b7c85f5fa1fd58", func := "rolodex/rolodexlaw15.ViewWinner", spec := "viewWinner", inPlace := ["slices.overlaps[uint64]", "internal/bytealg.IndexByteString", "internal/bytealg.IndexString"], unfollowed := true, recurses := true, named := ["internal/bytealg.MaxLen"], apart := false }
def ViewWinnerSaid : Prop := viewWinnerRow.holds Tryz.pinned (OpenSpec.ofChange viewWinnerSpec)

/-- ITS FALSE NEIGHBOUR: 'it returns false'. Refute it at one input. -/
def viewWinnerWrong : ChangeSpec := { name := "viewWinner", fn := fun _ => fun
  | [d] => { results := [.lit (.bool false)], args := [d] }
  | _ => none }
def ViewWinnerWrongFalsely : Prop := viewWinnerRow.holds Tryz.pinned (OpenSpec.ofChange viewWinnerWrong)

/-- 'rolodexlaw15.ViewFinds': WHATEVER THE INPUT: true; the input reads as it did. -/
def viewFindsSpec : ChangeSpec := { name := "viewFinds", fn := fun _ => fun
  | [d1, d2, d3] => { results := [.lit (.bool true)], args := [d1, d2, d3] }
  | _ => none }
def viewFindsRow : OpenClaim := { program := "ytngfappichkflaagreat", sum := "2459c73d99258109fb31fc05858dfb3ad27db7ccde31b54ed5b7c85f5fa1fd58", func := "rolodex/rolodexlaw15.ViewFinds", spec := "viewFinds", inPlace := ["slices.overlaps[uint64]", "internal/bytealg.IndexByteString", "internal/bytealg.IndexString"], unfollowed := true, recurses := true, named := ["internal/bytealg.MaxLen"], apart := false }
def ViewFindsSaid : Prop := viewFindsRow.holds Tryz.pinned (OpenSpec.ofChange viewFindsSpec)

/-- ITS FALSE NEIGHBOUR: 'it returns false'. Refute it at one input. -/
def viewFindsWrong : ChangeSpec := { name := "viewFinds", fn := fun _ => fun
  | [d1, d2, d3] => { results := [.lit (.bool false)], args := [d1, d2, d3] }
  | _ => none }
def ViewFindsWrongFalsely : Prop := viewFindsRow.holds Tryz.pinned (OpenSpec.ofChange viewFindsWrong)

/-- 'rolodexlaw15.ViewLists': WHATEVER THE INPUT: true; the input reads as it did. -/
def viewListsSpec : ChangeSpec := { name := "viewLists", fn := fun _ => fun
  | [d] => { results := [.lit (.bool true)], args := [d] }
  | _ => none }
def viewListsRow : OpenClaim := { program := "ytngfappichkflaagreat", sum := "2459c73d99258109fb31fc05858dfb3ad27db7ccde31b54ed5b7c85f5fa1fd58", func := "rolodex/rolodexlaw15.ViewLists", spec := "viewLists", inPlace := ["slices.overlaps[uint64]", "internal/bytealg.IndexByteString", "internal/bytealg.IndexString"], unfollowed := true, recurses := true, named := ["internal/bytealg.MaxLen"], apart := false }
def ViewListsSaid : Prop := viewListsRow.holds Tryz.pinned (OpenSpec.ofChange viewListsSpec)

/-- ITS FALSE NEIGHBOUR: 'it returns false'. Refute it at one input. -/
def viewListsWrong : ChangeSpec := { name := "viewLists", fn := fun _ => fun
  | [d] => { results := [.lit (.bool false)], args := [d] }
  | _ => none }
def ViewListsWrongFalsely : Prop := viewListsRow.holds Tryz.pinned (OpenSpec.ofChange viewListsWrong)

/-- 'rolodexlaw15.ViewSame': WHATEVER THE INPUT: true; the input reads as it did. -/
def viewSameSpec : ChangeSpec := { name := "viewSame", fn := fun _ => fun
  | [d1, d2, d3, d4, d5] => { results := [.lit (.bool true)], args := [d1, d2, d3, d4, d5] }
  | _ => none }
def viewSameRow : OpenClaim := { program := "ytngfappichkflaagreat", sum := "2459c73d99258109fb31fc05858dfb3ad27db7ccde31b54ed5b7c85f5fa1fd58", func := "rolodex/rolodexlaw15.ViewSame", spec := "viewSame", inPlace := ["slices.overlaps[uint64]", "internal/bytealg.IndexByteString", "internal/bytealg.IndexString"], unfollowed := true, recurses := true, named := ["internal/bytealg.MaxLen"], apart := false }
def ViewSameSaid : Prop := viewSameRow.holds Tryz.pinned (OpenSpec.ofChange viewSameSpec)

/-- ITS FALSE NEIGHBOUR: 'it returns false'. Refute it at one input. -/
def viewSameWrong : ChangeSpec := { name := "viewSame", fn := fun _ => fun
  | [d1, d2, d3, d4, d5] => { results := [.lit (.bool false)], args := [d1, d2, d3, d4, d5] }
  | _ => none }
def ViewSameWrongFalsely : Prop := viewSameRow.holds Tryz.pinned (OpenSpec.ofChange viewSameWrong)

/- THE SECOND FORM. 'bulk': how many values and letters a reading holds, each counted each time it is reached (what is shared counts as often as it is met; a slice's spare places count too). A statement '..UptoSaid' is the law's where the arguments, and the package variables that the reading takes, are together of bulk at most 1048576: NARROWER than '..Said'. Prove '..Said' where nothing that the law and all that it calls make is longer than what came in: it says more and counts as full. Else prove '..UptoSaid'. A law counts once. -/
mutual
def uptoBulk {H : Type} : DataW H → Nat
  | .lit (.string bytes) => bytes.length + 1
  | .lit _ => 1
  | .nil => 1
  | .ptr d => uptoBulk d + 1
  | .slice elems spare => uptoBulkAll elems + uptoBulkAll spare + 1
  | .agg parts => uptoBulkAll parts + 1
  | .iface _ d => uptoBulk d + 1
  | .map entries => uptoBulkEntries entries + 1
  | .held _ => 1
def uptoBulkAll {H : Type} : List (DataW H) → Nat
  | [] => 0
  | d :: r => uptoBulk d + uptoBulkAll r
def uptoBulkEntries {H : Type} : List (Lit × DataW H) → Nat
  | [] => 0
  | x :: r => uptoBulkEntry x + uptoBulkEntries r
def uptoBulkEntry {H : Type} : Lit × DataW H → Nat
  | (.string bytes, d) => bytes.length + uptoBulk d + 1
  | (_, d) => uptoBulk d + 1
 end
def uptoSmall : (H : Type) → List (DataW H) → Bool := fun _ ds => decide (uptoBulkAll ds ≤ 1048576)
def OpenSpec.upto (s : _root_.Go.ChangeSpec) : _root_.Go.OpenSpec := { _root_.Go.OpenSpec.ofChange s with cond := some uptoSmall }

/-- 'rolodexlaw15.ViewKnown', WHERE WHAT IT READS IS OF BULK AT MOST 1048576: true; the input reads as it did. -/
def viewKnownUptoRow : OpenClaim := { program := "ytngfappichkflaagreat", sum := "2459c73d99258109fb31fc05858dfb3ad27db7ccde31b54ed5b7c85f5fa1fd58", func := "rolodex/rolodexlaw15.ViewKnown", spec := "viewKnown", inPlace := ["slices.overlaps[uint64]", "internal/bytealg.IndexByteString", "internal/bytealg.IndexString"], unfollowed := true, recurses := true, named := ["internal/bytealg.MaxLen"], apart := false, narrowed := true }
def ViewKnownUptoSaid : Prop := viewKnownUptoRow.holds Tryz.pinned (OpenSpec.upto viewKnownSpec)

/-- 'rolodexlaw15.ViewShows', WHERE WHAT IT READS IS OF BULK AT MOST 1048576: true; the input reads as it did. -/
def viewShowsUptoRow : OpenClaim := { program := "ytngfappichkflaagreat", sum := "2459c73d99258109fb31fc05858dfb3ad27db7ccde31b54ed5b7c85f5fa1fd58", func := "rolodex/rolodexlaw15.ViewShows", spec := "viewShows", inPlace := ["slices.overlaps[uint64]", "internal/bytealg.IndexByteString", "internal/bytealg.IndexString"], unfollowed := true, recurses := true, named := ["internal/bytealg.MaxLen"], apart := false, narrowed := true }
def ViewShowsUptoSaid : Prop := viewShowsUptoRow.holds Tryz.pinned (OpenSpec.upto viewShowsSpec)

/-- 'rolodexlaw15.ViewWinner', WHERE WHAT IT READS IS OF BULK AT MOST 1048576: true; the input reads as it did. -/
def viewWinnerUptoRow : OpenClaim := { program := "ytngfappichkflaagreat", sum := "2459c73d99258109fb31fc05858dfb3ad27db7ccde31b54ed5b7c85f5fa1fd58", func := "rolodex/rolodexlaw15.ViewWinner", spec := "viewWinner", inPlace := ["slices.overlaps[uint64]", "internal/bytealg.IndexByteString", "internal/bytealg.IndexString"], unfollowed := true, recurses := true, named := ["internal/bytealg.MaxLen"], apart := false, narrowed := true }
def ViewWinnerUptoSaid : Prop := viewWinnerUptoRow.holds Tryz.pinned (OpenSpec.upto viewWinnerSpec)

/-- 'rolodexlaw15.ViewFinds', WHERE WHAT IT READS IS OF BULK AT MOST 1048576: true; the input reads as it did. -/
def viewFindsUptoRow : OpenClaim := { program := "ytngfappichkflaagreat", sum := "2459c73d99258109fb31fc05858dfb3ad27db7ccde31b54ed5b7c85f5fa1fd58", func := "rolodex/rolodexlaw15.ViewFinds", spec := "viewFinds", inPlace := ["slices.overlaps[uint64]", "internal/bytealg.IndexByteString", "internal/bytealg.IndexString"], unfollowed := true, recurses := true, named := ["internal/bytealg.MaxLen"], apart := false, narrowed := true }
def ViewFindsUptoSaid : Prop := viewFindsUptoRow.holds Tryz.pinned (OpenSpec.upto viewFindsSpec)

/-- 'rolodexlaw15.ViewLists', WHERE WHAT IT READS IS OF BULK AT MOST 1048576: true; the input reads as it did. -/
def viewListsUptoRow : OpenClaim := { program := "ytngfappichkflaagreat", sum := "2459c73d99258109fb31fc05858dfb3ad27db7ccde31b54ed5b7c85f5fa1fd58", func := "rolodex/rolodexlaw15.ViewLists", spec := "viewLists", inPlace := ["slices.overlaps[uint64]", "internal/bytealg.IndexByteString", "internal/bytealg.IndexString"], unfollowed := true, recurses := true, named := ["internal/bytealg.MaxLen"], apart := false, narrowed := true }
def ViewListsUptoSaid : Prop := viewListsUptoRow.holds Tryz.pinned (OpenSpec.upto viewListsSpec)

/-- 'rolodexlaw15.ViewSame', WHERE WHAT IT READS IS OF BULK AT MOST 1048576: true; the input reads as it did. -/
def viewSameUptoRow : OpenClaim := { program := "ytngfappichkflaagreat", sum := "2459c73d99258109fb31fc05858dfb3ad27db7ccde31b54ed5b7c85f5fa1fd58", func := "rolodex/rolodexlaw15.ViewSame", spec := "viewSame", inPlace := ["slices.overlaps[uint64]", "internal/bytealg.IndexByteString", "internal/bytealg.IndexString"], unfollowed := true, recurses := true, named := ["internal/bytealg.MaxLen"], apart := false, narrowed := true }
def ViewSameUptoSaid : Prop := viewSameUptoRow.holds Tryz.pinned (OpenSpec.upto viewSameSpec)

end Rows
end Go.Proofs.YtngfappichkflaaGreat
