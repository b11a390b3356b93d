/-
  NARROWER THAN 'FOR EVERY INPUT', by the rows' own cells (each row's printed sentence says how): VlineKnown: laid · VlineReads: laid · VlinePrints: laid · VlineFolds: laid · VlineEscapes: laid · VlineEnds: laid · VlineAnywhere: laid.
  DERIVED. THE GIVEN ROWS OF THIS SEAT. 7 by the template 'for every input the law returns true; each argument reads behind the call as it read before'; 0 by the template 'total and deterministic' (their statements: YtmilkhdicmkmbaaDoorTotals.lean).
  GIVEN WITH THE SEED: the statements are not yours to turn. If you find one false, say at which input.
  Laid BY PROGRAM, IN A SANDBOX (cutbox-rows.mjs): the forced cells as the released guide's own fill.sh prints them over the translation c40a1467416d4342… (all of the seat's roots in one cut). By AI agents, Wed Nov 11 2026. No macro, syntax, notation, axiom, sorry.
-/
import Derived.Test.YtmilkhdicmkmbaaDoorChecked
import GoSem.PinnedTables
import GoSem.Claim
import GoSem.ClaimJoined
import GoSem.ClaimMapViews
import Derived.JoinedTies
import Derived.KernelRfl
namespace Go.Proofs.YtmilkhdicmkmbaaDoor
/- THE CELL 'sum', in the pinned program and in every row, IS THE sha256 OF THE DUMP (.gsa) THAT YtmilkhdicmkmbaaDoorProg.lean LOADS. Nothing in Lean hashes anything: it is a label: what it is worth is what the hold of that sum in a sandbox is worth. -/
noncomputable def Tryd.pinned : Pinned := { name := "ytmilkhdicmkmbaadoor", sum := "c40a1467416d4342ba90e262cf29d11f1261febdf3cc5e9d4d26d16e33a20bde", checked := Tryd.checked }
namespace Rows
def none {H : Type} : Left H := { results := [], args := [] }

/- WHAT THE LISTED PACKAGE-LEVEL VARIABLES READ AS WHEN THE CALL BEGINS. Each datum BY PROGRAM (the guide's laid-datum.mjs) off the statement by which the dump's own 'gosem.cut.vars' lays the variable. In a bare row this is a premise. The card (YtmilkhdicmkmbaaDoorCards.lean) ties it to the program's text. -/
def laid_unicode_utf8_acceptRanges {H : Type} : DataW H := .agg [.agg [.lit (.int .u8 128), .lit (.int .u8 191)], .agg [.lit (.int .u8 160), .lit (.int .u8 191)], .agg [.lit (.int .u8 128), .lit (.int .u8 159)], .agg [.lit (.int .u8 144), .lit (.int .u8 191)], .agg [.lit (.int .u8 128), .lit (.int .u8 143)], .agg [.lit (.int .u8 0), .lit (.int .u8 0)], .agg [.lit (.int .u8 0), .lit (.int .u8 0)], .agg [.lit (.int .u8 0), .lit (.int .u8 0)], .agg [.lit (.int .u8 0), .lit (.int .u8 0)], .agg [.lit (.int .u8 0), .lit (.int .u8 0)], .agg [.lit (.int .u8 0), .lit (.int .u8 0)], .agg [.lit (.int .u8 0), .lit (.int .u8 0)], .agg [.lit (.int .u8 0), .lit (.int .u8 0)], .agg [.lit (.int .u8 0), .lit (.int .u8 0)], .agg [.lit (.int .u8 0), .lit (.int .u8 0)], .agg [.lit (.int .u8 0), .lit (.int .u8 0)]]
/-- One of Go's own tables, pinned by name: the form's constant. -/
def laid_unicode_utf8_first : DataW Unit := Go.Pinned.utf8First

/-- 'rolodexlaw23.VlineKnown': WHATEVER THE INPUT: true; the input reads as it did. -/
def vlineKnownSpec : ChangeSpec := { name := "vlineKnown", fn := fun _ => fun
  | [] => { results := [.lit (.bool true)], args := [] }
  | _ => none }
def vlineKnownRow : OpenClaim := { program := "ytmilkhdicmkmbaadoor", sum := "c40a1467416d4342ba90e262cf29d11f1261febdf3cc5e9d4d26d16e33a20bde", func := "rolodex/rolodexlaw23.VlineKnown", spec := "vlineKnown", inPlace := ["internal/bytealg.IndexByteString", "internal/bytealg.IndexString", "internal/abi.NoEscape"], unfollowed := true, recurses := true, named := ["internal/bytealg.MaxLen", "unicode/utf8.first", "unicode/utf8.acceptRanges"], apart := false, laid := [("unicode/utf8.acceptRanges", laid_unicode_utf8_acceptRanges), ("unicode/utf8.first", laid_unicode_utf8_first)] }
def VlineKnownSaid : Prop := vlineKnownRow.holds Tryd.pinned (OpenSpec.ofChange vlineKnownSpec)

/-- ITS FALSE NEIGHBOUR: 'it returns false'. Refute it at one input. -/
def vlineKnownWrong : ChangeSpec := { name := "vlineKnown", fn := fun _ => fun
  | [] => { results := [.lit (.bool false)], args := [] }
  | _ => none }
def VlineKnownWrongFalsely : Prop := vlineKnownRow.holds Tryd.pinned (OpenSpec.ofChange vlineKnownWrong)

/-- 'rolodexlaw23.VlineReads': WHATEVER THE INPUT: true; the input reads as it did. -/
def vlineReadsSpec : ChangeSpec := { name := "vlineReads", fn := fun _ => fun
  | [d] => { results := [.lit (.bool true)], args := [d] }
  | _ => none }
def vlineReadsRow : OpenClaim := { program := "ytmilkhdicmkmbaadoor", sum := "c40a1467416d4342ba90e262cf29d11f1261febdf3cc5e9d4d26d16e33a20bde", func := "rolodex/rolodexlaw23.VlineReads", spec := "vlineReads", inPlace := ["internal/bytealg.IndexByteString", "internal/bytealg.IndexString", "internal/abi.NoEscape"], unfollowed := true, recurses := true, named := ["internal/bytealg.MaxLen", "unicode/utf8.first", "unicode/utf8.acceptRanges"], apart := false, laid := [("unicode/utf8.acceptRanges", laid_unicode_utf8_acceptRanges), ("unicode/utf8.first", laid_unicode_utf8_first)] }
def VlineReadsSaid : Prop := vlineReadsRow.holds Tryd.pinned (OpenSpec.ofChange vlineReadsSpec)

/-- ITS FALSE NEIGHBOUR: 'it returns false'. Refute it at one input. -/
def vlineReadsWrong : ChangeSpec := { name := "vlineReads", fn := fun _ => fun
  | [d] => { results := [.lit (.bool false)], args := [d] }
  | _ => none }
def VlineReadsWrongFalsely : Prop := vlineReadsRow.holds Tryd.pinned (OpenSpec.ofChange vlineReadsWrong)

/-- 'rolodexlaw23.VlinePrints': WHATEVER THE INPUT: true; the input reads as it did. -/
def vlinePrintsSpec : ChangeSpec := { name := "vlinePrints", fn := fun _ => fun
  | [d] => { results := [.lit (.bool true)], args := [d] }
  | _ => none }
def vlinePrintsRow : OpenClaim := { program := "ytmilkhdicmkmbaadoor", sum := "c40a1467416d4342ba90e262cf29d11f1261febdf3cc5e9d4d26d16e33a20bde", func := "rolodex/rolodexlaw23.VlinePrints", spec := "vlinePrints", inPlace := ["internal/bytealg.IndexByteString", "internal/bytealg.IndexString", "internal/abi.NoEscape"], unfollowed := true, recurses := true, named := ["internal/bytealg.MaxLen", "unicode/utf8.first", "unicode/utf8.acceptRanges"], apart := false, laid := [("unicode/utf8.acceptRanges", laid_unicode_utf8_acceptRanges), ("unicode/utf8.first", laid_unicode_utf8_first)] }
def VlinePrintsSaid : Prop := vlinePrintsRow.holds Tryd.pinned (OpenSpec.ofChange vlinePrintsSpec)

/-- ITS FALSE NEIGHBOUR: 'it returns false'. Refute it at one input. -/
def vlinePrintsWrong : ChangeSpec := { name := "vlinePrints", fn := fun _ => fun
  | [d] => { results := [.lit (.bool false)], args := [d] }
  | _ => none }
def VlinePrintsWrongFalsely : Prop := vlinePrintsRow.holds Tryd.pinned (OpenSpec.ofChange vlinePrintsWrong)

/-- 'rolodexlaw23.VlineFolds': WHATEVER THE INPUT: true; the input reads as it did. -/
def vlineFoldsSpec : ChangeSpec := { name := "vlineFolds", fn := fun _ => fun
  | [d] => { results := [.lit (.bool true)], args := [d] }
  | _ => none }
def vlineFoldsRow : OpenClaim := { program := "ytmilkhdicmkmbaadoor", sum := "c40a1467416d4342ba90e262cf29d11f1261febdf3cc5e9d4d26d16e33a20bde", func := "rolodex/rolodexlaw23.VlineFolds", spec := "vlineFolds", inPlace := ["internal/bytealg.IndexByteString", "internal/bytealg.IndexString", "internal/abi.NoEscape"], unfollowed := true, recurses := true, named := ["internal/bytealg.MaxLen", "unicode/utf8.first", "unicode/utf8.acceptRanges"], apart := false, laid := [("unicode/utf8.acceptRanges", laid_unicode_utf8_acceptRanges), ("unicode/utf8.first", laid_unicode_utf8_first)] }
def VlineFoldsSaid : Prop := vlineFoldsRow.holds Tryd.pinned (OpenSpec.ofChange vlineFoldsSpec)

/-- ITS FALSE NEIGHBOUR: 'it returns false'. Refute it at one input. -/
def vlineFoldsWrong : ChangeSpec := { name := "vlineFolds", fn := fun _ => fun
  | [d] => { results := [.lit (.bool false)], args := [d] }
  | _ => none }
def VlineFoldsWrongFalsely : Prop := vlineFoldsRow.holds Tryd.pinned (OpenSpec.ofChange vlineFoldsWrong)

/-- 'rolodexlaw23.VlineEscapes': WHATEVER THE INPUT: true; the input reads as it did. -/
def vlineEscapesSpec : ChangeSpec := { name := "vlineEscapes", fn := fun _ => fun
  | [d1, d2] => { results := [.lit (.bool true)], args := [d1, d2] }
  | _ => none }
def vlineEscapesRow : OpenClaim := { program := "ytmilkhdicmkmbaadoor", sum := "c40a1467416d4342ba90e262cf29d11f1261febdf3cc5e9d4d26d16e33a20bde", func := "rolodex/rolodexlaw23.VlineEscapes", spec := "vlineEscapes", inPlace := ["internal/bytealg.IndexByteString", "internal/bytealg.IndexString", "internal/abi.NoEscape"], unfollowed := true, recurses := true, named := ["internal/bytealg.MaxLen", "unicode/utf8.first", "unicode/utf8.acceptRanges"], apart := false, laid := [("unicode/utf8.acceptRanges", laid_unicode_utf8_acceptRanges), ("unicode/utf8.first", laid_unicode_utf8_first)] }
def VlineEscapesSaid : Prop := vlineEscapesRow.holds Tryd.pinned (OpenSpec.ofChange vlineEscapesSpec)

/-- ITS FALSE NEIGHBOUR: 'it returns false'. Refute it at one input. -/
def vlineEscapesWrong : ChangeSpec := { name := "vlineEscapes", fn := fun _ => fun
  | [d1, d2] => { results := [.lit (.bool false)], args := [d1, d2] }
  | _ => none }
def VlineEscapesWrongFalsely : Prop := vlineEscapesRow.holds Tryd.pinned (OpenSpec.ofChange vlineEscapesWrong)

/-- 'rolodexlaw23.VlineEnds': WHATEVER THE INPUT: true; the input reads as it did. -/
def vlineEndsSpec : ChangeSpec := { name := "vlineEnds", fn := fun _ => fun
  | [d] => { results := [.lit (.bool true)], args := [d] }
  | _ => none }
def vlineEndsRow : OpenClaim := { program := "ytmilkhdicmkmbaadoor", sum := "c40a1467416d4342ba90e262cf29d11f1261febdf3cc5e9d4d26d16e33a20bde", func := "rolodex/rolodexlaw23.VlineEnds", spec := "vlineEnds", inPlace := ["internal/bytealg.IndexByteString", "internal/bytealg.IndexString", "internal/abi.NoEscape"], unfollowed := true, recurses := true, named := ["internal/bytealg.MaxLen", "unicode/utf8.first", "unicode/utf8.acceptRanges"], apart := false, laid := [("unicode/utf8.acceptRanges", laid_unicode_utf8_acceptRanges), ("unicode/utf8.first", laid_unicode_utf8_first)] }
def VlineEndsSaid : Prop := vlineEndsRow.holds Tryd.pinned (OpenSpec.ofChange vlineEndsSpec)

/-- ITS FALSE NEIGHBOUR: 'it returns false'. Refute it at one input. -/
def vlineEndsWrong : ChangeSpec := { name := "vlineEnds", fn := fun _ => fun
  | [d] => { results := [.lit (.bool false)], args := [d] }
  | _ => none }
def VlineEndsWrongFalsely : Prop := vlineEndsRow.holds Tryd.pinned (OpenSpec.ofChange vlineEndsWrong)

/-- 'rolodexlaw23.VlineAnywhere': WHATEVER THE INPUT: true; the input reads as it did. -/
def vlineAnywhereSpec : ChangeSpec := { name := "vlineAnywhere", fn := fun _ => fun
  | [d1, d2, d3] => { results := [.lit (.bool true)], args := [d1, d2, d3] }
  | _ => none }
def vlineAnywhereRow : OpenClaim := { program := "ytmilkhdicmkmbaadoor", sum := "c40a1467416d4342ba90e262cf29d11f1261febdf3cc5e9d4d26d16e33a20bde", func := "rolodex/rolodexlaw23.VlineAnywhere", spec := "vlineAnywhere", inPlace := ["internal/bytealg.IndexByteString", "internal/bytealg.IndexString", "internal/abi.NoEscape"], unfollowed := true, recurses := true, named := ["internal/bytealg.MaxLen", "unicode/utf8.first", "unicode/utf8.acceptRanges"], apart := false, laid := [("unicode/utf8.acceptRanges", laid_unicode_utf8_acceptRanges), ("unicode/utf8.first", laid_unicode_utf8_first)] }
def VlineAnywhereSaid : Prop := vlineAnywhereRow.holds Tryd.pinned (OpenSpec.ofChange vlineAnywhereSpec)

/-- ITS FALSE NEIGHBOUR: 'it returns false'. Refute it at one input. -/
def vlineAnywhereWrong : ChangeSpec := { name := "vlineAnywhere", fn := fun _ => fun
  | [d1, d2, d3] => { results := [.lit (.bool false)], args := [d1, d2, d3] }
  | _ => none }
def VlineAnywhereWrongFalsely : Prop := vlineAnywhereRow.holds Tryd.pinned (OpenSpec.ofChange vlineAnywhereWrong)

/- THE SECOND FORM. 'bulk': how many values and letters a reading holds, each counted each time it is reached (what is shared counts as often as it is met; a slice's spare places count too). A statement '..UptoSaid' is the law's where the arguments, and the package variables that the reading takes, are together of bulk at most 1048576: NARROWER than '..Said'. Prove '..Said' where nothing that the law and all that it calls make is longer than what came in: it says more and counts as full. Else prove '..UptoSaid'. A law counts once. -/
mutual
def uptoBulk {H : Type} : DataW H → Nat
  | .lit (.string bytes) => bytes.length + 1
  | .lit _ => 1
  | .nil => 1
  | .ptr d => uptoBulk d + 1
  | .slice elems spare => uptoBulkAll elems + uptoBulkAll spare + 1
  | .agg parts => uptoBulkAll parts + 1
  | .iface _ d => uptoBulk d + 1
  | .map entries => uptoBulkEntries entries + 1
  | .held _ => 1
def uptoBulkAll {H : Type} : List (DataW H) → Nat
  | [] => 0
  | d :: r => uptoBulk d + uptoBulkAll r
def uptoBulkEntries {H : Type} : List (Lit × DataW H) → Nat
  | [] => 0
  | x :: r => uptoBulkEntry x + uptoBulkEntries r
def uptoBulkEntry {H : Type} : Lit × DataW H → Nat
  | (.string bytes, d) => bytes.length + uptoBulk d + 1
  | (_, d) => uptoBulk d + 1
 end
def uptoSmall : (H : Type) → List (DataW H) → Bool := fun _ ds => decide (uptoBulkAll ds ≤ 1048576)
def OpenSpec.upto (s : _root_.Go.ChangeSpec) : _root_.Go.OpenSpec := { _root_.Go.OpenSpec.ofChange s with cond := some uptoSmall }

/-- 'rolodexlaw23.VlineKnown', WHERE WHAT IT READS IS OF BULK AT MOST 1048576: true; the input reads as it did. -/
def vlineKnownUptoRow : OpenClaim := { program := "ytmilkhdicmkmbaadoor", sum := "c40a1467416d4342ba90e262cf29d11f1261febdf3cc5e9d4d26d16e33a20bde", func := "rolodex/rolodexlaw23.VlineKnown", spec := "vlineKnown", inPlace := ["internal/bytealg.IndexByteString", "internal/bytealg.IndexString", "internal/abi.NoEscape"], unfollowed := true, recurses := true, named := ["internal/bytealg.MaxLen", "unicode/utf8.first", "unicode/utf8.acceptRanges"], apart := false, laid := [("unicode/utf8.acceptRanges", laid_unicode_utf8_acceptRanges), ("unicode/utf8.first", laid_unicode_utf8_first)], narrowed := true }
def VlineKnownUptoSaid : Prop := vlineKnownUptoRow.holds Tryd.pinned (OpenSpec.upto vlineKnownSpec)

/-- 'rolodexlaw23.VlineReads', WHERE WHAT IT READS IS OF BULK AT MOST 1048576: true; the input reads as it did. -/
def vlineReadsUptoRow : OpenClaim := { program := "ytmilkhdicmkmbaadoor", sum := "c40a1467416d4342ba90e262cf29d11f1261febdf3cc5e9d4d26d16e33a20bde", func := "rolodex/rolodexlaw23.VlineReads", spec := "vlineReads", inPlace := ["internal/bytealg.IndexByteString", "internal/bytealg.IndexString", "internal/abi.NoEscape"], unfollowed := true, recurses := true, named := ["internal/bytealg.MaxLen", "unicode/utf8.first", "unicode/utf8.acceptRanges"], apart := false, laid := [("unicode/utf8.acceptRanges", laid_unicode_utf8_acceptRanges), ("unicode/utf8.first", laid_unicode_utf8_first)], narrowed := true }
def VlineReadsUptoSaid : Prop := vlineReadsUptoRow.holds Tryd.pinned (OpenSpec.upto vlineReadsSpec)

/-- 'rolodexlaw23.VlinePrints', WHERE WHAT IT READS IS OF BULK AT MOST 1048576: true; the input reads as it did. -/
def vlinePrintsUptoRow : OpenClaim := { program := "ytmilkhdicmkmbaadoor", sum := "c40a1467416d4342ba90e262cf29d11f1261febdf3cc5e9d4d26d16e33a20bde", func := "rolodex/rolodexlaw23.VlinePrints", spec := "vlinePrints", inPlace := ["internal/bytealg.IndexByteString", "internal/bytealg.IndexString", "internal/abi.NoEscape"], unfollowed := true, recurses := true, named := ["internal/bytealg.MaxLen", "unicode/utf8.first", "unicode/utf8.acceptRanges"], apart := false, laid := [("unicode/utf8.acceptRanges", laid_unicode_utf8_acceptRanges), ("unicode/utf8.first", laid_unicode_utf8_first)], narrowed := true }
def VlinePrintsUptoSaid : Prop := vlinePrintsUptoRow.holds Tryd.pinned (OpenSpec.upto vlinePrintsSpec)

/-- 'rolodexlaw23.VlineFolds', WHERE WHAT IT READS IS OF BULK AT MOST 1048576: true; the input reads as it did. -/
def vlineFoldsUptoRow : OpenClaim := { program := "ytmilkhdicmkmbaadoor", sum := "c40a1467416d4342ba90e262cf29d11f1261febdf3cc5e9d4d26d16e33a20bde", func := "rolodex/rolodexlaw23.VlineFolds", spec := "vlineFolds", inPlace := ["internal/bytealg.IndexByteString", "internal/bytealg.IndexString", "internal/abi.NoEscape"], unfollowed := true, recurses := true, named := ["internal/bytealg.MaxLen", "unicode/utf8.first", "unicode/utf8.acceptRanges"], apart := false, laid := [("unicode/utf8.acceptRanges", laid_unicode_utf8_acceptRanges), ("unicode/utf8.first", laid_unicode_utf8_first)], narrowed := true }
def VlineFoldsUptoSaid : Prop := vlineFoldsUptoRow.holds Tryd.pinned (OpenSpec.upto vlineFoldsSpec)

/-- 'rolodexlaw23.VlineEscapes', WHERE WHAT IT READS IS OF BULK AT MOST 1048576: true; the input reads as it did. -/
def vlineEscapesUptoRow : OpenClaim := { program := "ytmilkhdicmkmbaadoor", sum := "c40a1467416d4342ba90e262cf29d11f1261febdf3cc5e9d4d26d16e33a20bde", func := "rolodex/rolodexlaw23.VlineEscapes", spec := "vlineEscapes", inPlace := ["internal/bytealg.IndexByteString", "internal/bytealg.IndexString", "internal/abi.NoEscape"], unfollowed := true, recurses := true, named := ["internal/bytealg.MaxLen", "unicode/utf8.first", "unicode/utf8.acceptRanges"], apart := false, laid := [("unicode/utf8.acceptRanges", laid_unicode_utf8_acceptRanges), ("unicode/utf8.first", laid_unicode_utf8_first)], narrowed := true }
def VlineEscapesUptoSaid : Prop := vlineEscapesUptoRow.holds Tryd.pinned (OpenSpec.upto vlineEscapesSpec)

/-- 'rolodexlaw23.VlineEnds', WHERE WHAT IT READS IS OF BULK AT MOST 1048576: true; the input reads as it did. -/
def vlineEndsUptoRow : OpenClaim := { program := "ytmilkhdicmkmbaadoor", sum := "c40a1467416d4342ba90e262cf29d11f1261febdf3cc5e9d4d26d16e33a20bde", func := "rolodex/rolodexlaw23.VlineEnds", spec := "vlineEnds", inPlace := ["internal/bytealg.IndexByteString", "internal/bytealg.IndexString", "internal/abi.NoEscape"], unfollowed := true, recurses := true, named := ["internal/bytealg.MaxLen", "unicode/utf8.first", "unicode/utf8.acceptRanges"], apart := false, laid := [("unicode/utf8.acceptRanges", laid_unicode_utf8_acceptRanges), ("unicode/utf8.first", laid_unicode_utf8_first)], narrowed := true }
def VlineEndsUptoSaid : Prop := vlineEndsUptoRow.holds Tryd.pinned (OpenSpec.upto vlineEndsSpec)

/-- 'rolodexlaw23.VlineAnywhere', WHERE WHAT IT READS IS OF BULK AT MOST 1048576: true; the input reads as it did. -/
def vlineAnywhereUptoRow : OpenClaim := { program := "ytmilkhdicmkmbaadoor", sum := "c40a1467416d4342ba90e262cf29d11f1261febdf3cc5e9d4d26d16e33a20bde", func := "rolodex/rolodexlaw23.VlineAnywhere", spec := "vlineAnywhere", inPlace := ["internal/bytealg.IndexByteString", "internal/bytealg.IndexString", "internal/abi.NoEscape"], unfollowed := true, recurses := true, named := ["internal/bytealg.MaxLen", "unicode/utf8.first", "unicode/utf8.acceptRanges"], apart := false, laid := [("unicode/utf8.acceptRanges", laid_unicode_utf8_acceptRanges), ("unicode/utf8.first", laid_unicode_utf8_first)], narrowed := true }
def VlineAnywhereUptoSaid : Prop := vlineAnywhereUptoRow.holds Tryd.pinned (OpenSpec.upto vlineAnywhereSpec)

end Rows
end Go.Proofs.YtmilkhdicmkmbaaDoor
