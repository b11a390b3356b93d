/-
  NARROWER THAN 'FOR EVERY INPUT', by the rows' own cells (each row's printed sentence says how): SimdiskKnown: laid · SimdiskPlays: laid · SimdiskKeeps: laid · SimdiskSwitch: laid · SimdiskQuota: laid · SimdiskCalm: laid.
  DERIVED. THE GIVEN ROWS OF THIS SEAT. 6 by the template 'for every input the law returns true; each argument reads behind the call as it read before'; 0 by the template 'total and deterministic' (their statements: YtckpmlcaaagnkaaDoorTotals.lean).
  GIVEN WITH THE SEED: the statements are not yours to turn. If you find one false, say at which input.
  Laid BY PROGRAM, IN A SANDBOX (cutbox-rows.mjs): the forced cells as the released guide's own fill.sh prints them over the translation e0fbf1699936dbf4… (all of the seat's roots in one cut). By AI agents, Wed Nov 11 2026. No macro, syntax, notation, axiom, sorry.
-/
import Derived.Test.YtckpmlcaaagnkaaDoorChecked
import GoSem.PinnedTables
import GoSem.Claim
import GoSem.ClaimJoined
import GoSem.ClaimMapViews
import Derived.JoinedTies
import Derived.KernelRfl
namespace Go.Proofs.YtckpmlcaaagnkaaDoor
/- THE CELL 'sum', in the pinned program and in every row, IS THE sha256 OF THE DUMP (.gsa) THAT YtckpmlcaaagnkaaDoorProg.lean LOADS. Nothing in Lean hashes anything: it is a label: what it is worth is what the hold of that sum in a sandbox is worth. -/
noncomputable def Tryd.pinned : Pinned := { name := "ytckpmlcaaagnkaadoor", sum := "e0fbf1699936dbf41b8aed77d413a35e6aa69a326d1fb92bc88d682e245c0f99", checked := Tryd.checked }
namespace Rows
def none {H : Type} : Left H := { results := [], args := [] }

/- WHAT THE LISTED PACKAGE-LEVEL VARIABLES READ AS WHEN THE CALL BEGINS. Each datum BY PROGRAM (the guide's laid-datum.mjs) off the statement by which the dump's own 'gosem.cut.vars' lays the variable. In a bare row this is a premise. The card (YtckpmlcaaagnkaaDoorCards.lean) ties it to the program's text. -/
def laid_unicode_utf8_acceptRanges {H : Type} : DataW H := .agg [.agg [.lit (.int .u8 128), .lit (.int .u8 191)], .agg [.lit (.int .u8 160), .lit (.int .u8 191)], .agg [.lit (.int .u8 128), .lit (.int .u8 159)], .agg [.lit (.int .u8 144), .lit (.int .u8 191)], .agg [.lit (.int .u8 128), .lit (.int .u8 143)], .agg [.lit (.int .u8 0), .lit (.int .u8 0)], .agg [.lit (.int .u8 0), .lit (.int .u8 0)], .agg [.lit (.int .u8 0), .lit (.int .u8 0)], .agg [.lit (.int .u8 0), .lit (.int .u8 0)], .agg [.lit (.int .u8 0), .lit (.int .u8 0)], .agg [.lit (.int .u8 0), .lit (.int .u8 0)], .agg [.lit (.int .u8 0), .lit (.int .u8 0)], .agg [.lit (.int .u8 0), .lit (.int .u8 0)], .agg [.lit (.int .u8 0), .lit (.int .u8 0)], .agg [.lit (.int .u8 0), .lit (.int .u8 0)], .agg [.lit (.int .u8 0), .lit (.int .u8 0)]]
/-- One of Go's own tables, pinned by name: the form's constant. -/
def laid_unicode_utf8_first : DataW Unit := Go.Pinned.utf8First

/-- 'rolodexlaw5.SimdiskKnown': WHATEVER THE INPUT: true; the input reads as it did. -/
def simdiskKnownSpec : ChangeSpec := { name := "simdiskKnown", fn := fun _ => fun
  | [] => { results := [.lit (.bool true)], args := [] }
  | _ => none }
def simdiskKnownRow : OpenClaim := { program := "ytckpmlcaaagnkaadoor", sum := "e0fbf1699936dbf41b8aed77d413a35e6aa69a326d1fb92bc88d682e245c0f99", func := "rolodex/rolodexlaw5.SimdiskKnown", spec := "simdiskKnown", inPlace := ["internal/bytealg.IndexByteString", "internal/bytealg.IndexString", "sync/atomic.AddInt64", "maps.clone", "sync/atomic.LoadInt64"], unfollowed := true, recurses := true, named := ["unicode/utf8.first", "unicode/utf8.acceptRanges", "internal/bytealg.MaxLen"], apart := false, laid := [("unicode/utf8.acceptRanges", laid_unicode_utf8_acceptRanges), ("unicode/utf8.first", laid_unicode_utf8_first)] }
def SimdiskKnownSaid : Prop := simdiskKnownRow.holds Tryd.pinned (OpenSpec.ofChange simdiskKnownSpec)

/-- ITS FALSE NEIGHBOUR: 'it returns false'. Refute it at one input. -/
def simdiskKnownWrong : ChangeSpec := { name := "simdiskKnown", fn := fun _ => fun
  | [] => { results := [.lit (.bool false)], args := [] }
  | _ => none }
def SimdiskKnownWrongFalsely : Prop := simdiskKnownRow.holds Tryd.pinned (OpenSpec.ofChange simdiskKnownWrong)

/-- 'rolodexlaw5.SimdiskPlays': WHATEVER THE INPUT: true; the input reads as it did. -/
def simdiskPlaysSpec : ChangeSpec := { name := "simdiskPlays", fn := fun _ => fun
  | [d1, d2] => { results := [.lit (.bool true)], args := [d1, d2] }
  | _ => none }
def simdiskPlaysRow : OpenClaim := { program := "ytckpmlcaaagnkaadoor", sum := "e0fbf1699936dbf41b8aed77d413a35e6aa69a326d1fb92bc88d682e245c0f99", func := "rolodex/rolodexlaw5.SimdiskPlays", spec := "simdiskPlays", inPlace := ["internal/bytealg.IndexByteString", "internal/bytealg.IndexString", "sync/atomic.AddInt64", "maps.clone", "sync/atomic.LoadInt64"], unfollowed := true, recurses := true, named := ["unicode/utf8.first", "unicode/utf8.acceptRanges", "internal/bytealg.MaxLen"], apart := false, laid := [("unicode/utf8.acceptRanges", laid_unicode_utf8_acceptRanges), ("unicode/utf8.first", laid_unicode_utf8_first)] }
def SimdiskPlaysSaid : Prop := simdiskPlaysRow.holds Tryd.pinned (OpenSpec.ofChange simdiskPlaysSpec)

/-- ITS FALSE NEIGHBOUR: 'it returns false'. Refute it at one input. -/
def simdiskPlaysWrong : ChangeSpec := { name := "simdiskPlays", fn := fun _ => fun
  | [d1, d2] => { results := [.lit (.bool false)], args := [d1, d2] }
  | _ => none }
def SimdiskPlaysWrongFalsely : Prop := simdiskPlaysRow.holds Tryd.pinned (OpenSpec.ofChange simdiskPlaysWrong)

/-- 'rolodexlaw5.SimdiskKeeps': WHATEVER THE INPUT: true; the input reads as it did. -/
def simdiskKeepsSpec : ChangeSpec := { name := "simdiskKeeps", fn := fun _ => fun
  | [d1, d2, d3, d4] => { results := [.lit (.bool true)], args := [d1, d2, d3, d4] }
  | _ => none }
def simdiskKeepsRow : OpenClaim := { program := "ytckpmlcaaagnkaadoor", sum := "e0fbf1699936dbf41b8aed77d413a35e6aa69a326d1fb92bc88d682e245c0f99", func := "rolodex/rolodexlaw5.SimdiskKeeps", spec := "simdiskKeeps", inPlace := ["internal/bytealg.IndexByteString", "internal/bytealg.IndexString", "sync/atomic.AddInt64", "maps.clone", "sync/atomic.LoadInt64"], unfollowed := true, recurses := true, named := ["unicode/utf8.first", "unicode/utf8.acceptRanges", "internal/bytealg.MaxLen"], apart := false, laid := [("unicode/utf8.acceptRanges", laid_unicode_utf8_acceptRanges), ("unicode/utf8.first", laid_unicode_utf8_first)] }
def SimdiskKeepsSaid : Prop := simdiskKeepsRow.holds Tryd.pinned (OpenSpec.ofChange simdiskKeepsSpec)

/-- ITS FALSE NEIGHBOUR: 'it returns false'. Refute it at one input. -/
def simdiskKeepsWrong : ChangeSpec := { name := "simdiskKeeps", fn := fun _ => fun
  | [d1, d2, d3, d4] => { results := [.lit (.bool false)], args := [d1, d2, d3, d4] }
  | _ => none }
def SimdiskKeepsWrongFalsely : Prop := simdiskKeepsRow.holds Tryd.pinned (OpenSpec.ofChange simdiskKeepsWrong)

/-- 'rolodexlaw5.SimdiskSwitch': WHATEVER THE INPUT: true; the input reads as it did. -/
def simdiskSwitchSpec : ChangeSpec := { name := "simdiskSwitch", fn := fun _ => fun
  | [d1, d2, d3, d4] => { results := [.lit (.bool true)], args := [d1, d2, d3, d4] }
  | _ => none }
def simdiskSwitchRow : OpenClaim := { program := "ytckpmlcaaagnkaadoor", sum := "e0fbf1699936dbf41b8aed77d413a35e6aa69a326d1fb92bc88d682e245c0f99", func := "rolodex/rolodexlaw5.SimdiskSwitch", spec := "simdiskSwitch", inPlace := ["internal/bytealg.IndexByteString", "internal/bytealg.IndexString", "sync/atomic.AddInt64", "maps.clone", "sync/atomic.LoadInt64"], unfollowed := true, recurses := true, named := ["unicode/utf8.first", "unicode/utf8.acceptRanges", "internal/bytealg.MaxLen"], apart := false, laid := [("unicode/utf8.acceptRanges", laid_unicode_utf8_acceptRanges), ("unicode/utf8.first", laid_unicode_utf8_first)] }
def SimdiskSwitchSaid : Prop := simdiskSwitchRow.holds Tryd.pinned (OpenSpec.ofChange simdiskSwitchSpec)

/-- ITS FALSE NEIGHBOUR: 'it returns false'. Refute it at one input. -/
def simdiskSwitchWrong : ChangeSpec := { name := "simdiskSwitch", fn := fun _ => fun
  | [d1, d2, d3, d4] => { results := [.lit (.bool false)], args := [d1, d2, d3, d4] }
  | _ => none }
def SimdiskSwitchWrongFalsely : Prop := simdiskSwitchRow.holds Tryd.pinned (OpenSpec.ofChange simdiskSwitchWrong)

/-- 'rolodexlaw5.SimdiskQuota': WHATEVER THE INPUT: true; the input reads as it did. -/
def simdiskQuotaSpec : ChangeSpec := { name := "simdiskQuota", fn := fun _ => fun
  | [d1, d2, d3] => { results := [.lit (.bool true)], args := [d1, d2, d3] }
  | _ => none }
def simdiskQuotaRow : OpenClaim := { program := "ytckpmlcaaagnkaadoor", sum := "e0fbf1699936dbf41b8aed77d413a35e6aa69a326d1fb92bc88d682e245c0f99", func := "rolodex/rolodexlaw5.SimdiskQuota", spec := "simdiskQuota", inPlace := ["internal/bytealg.IndexByteString", "internal/bytealg.IndexString", "sync/atomic.AddInt64", "maps.clone", "sync/atomic.LoadInt64"], unfollowed := true, recurses := true, named := ["unicode/utf8.first", "unicode/utf8.acceptRanges", "internal/bytealg.MaxLen"], apart := false, laid := [("unicode/utf8.acceptRanges", laid_unicode_utf8_acceptRanges), ("unicode/utf8.first", laid_unicode_utf8_first)] }
def SimdiskQuotaSaid : Prop := simdiskQuotaRow.holds Tryd.pinned (OpenSpec.ofChange simdiskQuotaSpec)

/-- ITS FALSE NEIGHBOUR: 'it returns false'. Refute it at one input. -/
def simdiskQuotaWrong : ChangeSpec := { name := "simdiskQuota", fn := fun _ => fun
  | [d1, d2, d3] => { results := [.lit (.bool false)], args := [d1, d2, d3] }
  | _ => none }
def SimdiskQuotaWrongFalsely : Prop := simdiskQuotaRow.holds Tryd.pinned (OpenSpec.ofChange simdiskQuotaWrong)

/-- 'rolodexlaw5.SimdiskCalm': WHATEVER THE INPUT: true; the input reads as it did. -/
def simdiskCalmSpec : ChangeSpec := { name := "simdiskCalm", fn := fun _ => fun
  | [d1, d2, d3] => { results := [.lit (.bool true)], args := [d1, d2, d3] }
  | _ => none }
def simdiskCalmRow : OpenClaim := { program := "ytckpmlcaaagnkaadoor", sum := "e0fbf1699936dbf41b8aed77d413a35e6aa69a326d1fb92bc88d682e245c0f99", func := "rolodex/rolodexlaw5.SimdiskCalm", spec := "simdiskCalm", inPlace := ["internal/bytealg.IndexByteString", "internal/bytealg.IndexString", "sync/atomic.AddInt64", "maps.clone", "sync/atomic.LoadInt64"], unfollowed := true, recurses := true, named := ["unicode/utf8.first", "unicode/utf8.acceptRanges", "internal/bytealg.MaxLen"], apart := false, laid := [("unicode/utf8.acceptRanges", laid_unicode_utf8_acceptRanges), ("unicode/utf8.first", laid_unicode_utf8_first)] }
def SimdiskCalmSaid : Prop := simdiskCalmRow.holds Tryd.pinned (OpenSpec.ofChange simdiskCalmSpec)

/-- ITS FALSE NEIGHBOUR: 'it returns false'. Refute it at one input. -/
def simdiskCalmWrong : ChangeSpec := { name := "simdiskCalm", fn := fun _ => fun
  | [d1, d2, d3] => { results := [.lit (.bool false)], args := [d1, d2, d3] }
  | _ => none }
def SimdiskCalmWrongFalsely : Prop := simdiskCalmRow.holds Tryd.pinned (OpenSpec.ofChange simdiskCalmWrong)

/- THE SECOND FORM. 'bulk': how many values and letters a reading holds, each counted each time it is reached (what is shared counts as often as it is met; a slice's spare places count too). A statement '..UptoSaid' is the law's where the arguments, and the package variables that the reading takes, are together of bulk at most 1048576: NARROWER than '..Said'. Prove '..Said' where nothing that the law and all that it calls make is longer than what came in: it says more and counts as full. Else prove '..UptoSaid'. A law counts once. -/
mutual
def uptoBulk {H : Type} : DataW H → Nat
  | .lit (.string bytes) => bytes.length + 1
  | .lit _ => 1
  | .nil => 1
  | .ptr d => uptoBulk d + 1
  | .slice elems spare => uptoBulkAll elems + uptoBulkAll spare + 1
  | .agg parts => uptoBulkAll parts + 1
  | .iface _ d => uptoBulk d + 1
  | .map entries => uptoBulkEntries entries + 1
  | .held _ => 1
def uptoBulkAll {H : Type} : List (DataW H) → Nat
  | [] => 0
  | d :: r => uptoBulk d + uptoBulkAll r
def uptoBulkEntries {H : Type} : List (Lit × DataW H) → Nat
  | [] => 0
  | x :: r => uptoBulkEntry x + uptoBulkEntries r
def uptoBulkEntry {H : Type} : Lit × DataW H → Nat
  | (.string bytes, d) => bytes.length + uptoBulk d + 1
  | (_, d) => uptoBulk d + 1
 end
def uptoSmall : (H : Type) → List (DataW H) → Bool := fun _ ds => decide (uptoBulkAll ds ≤ 1048576)
def OpenSpec.upto (s : _root_.Go.ChangeSpec) : _root_.Go.OpenSpec := { _root_.Go.OpenSpec.ofChange s with cond := some uptoSmall }

/-- 'rolodexlaw5.SimdiskKnown', WHERE WHAT IT READS IS OF BULK AT MOST 1048576: true; the input reads as it did. -/
def simdiskKnownUptoRow : OpenClaim := { program := "ytckpmlcaaagnkaadoor", sum := "e0fbf1699936dbf41b8aed77d413a35e6aa69a326d1fb92bc88d682e245c0f99", func := "rolodex/rolodexlaw5.SimdiskKnown", spec := "simdiskKnown", inPlace := ["internal/bytealg.IndexByteString", "internal/bytealg.IndexString", "sync/atomic.AddInt64", "maps.clone", "sync/atomic.LoadInt64"], unfollowed := true, recurses := true, named := ["unicode/utf8.first", "unicode/utf8.acceptRanges", "internal/bytealg.MaxLen"], apart := false, laid := [("unicode/utf8.acceptRanges", laid_unicode_utf8_acceptRanges), ("unicode/utf8.first", laid_unicode_utf8_first)], narrowed := true }
def SimdiskKnownUptoSaid : Prop := simdiskKnownUptoRow.holds Tryd.pinned (OpenSpec.upto simdiskKnownSpec)

/-- 'rolodexlaw5.SimdiskPlays', WHERE WHAT IT READS IS OF BULK AT MOST 1048576: true; the input reads as it did. -/
def simdiskPlaysUptoRow : OpenClaim := { program := "ytckpmlcaaagnkaadoor", sum := "e0fbf1699936dbf41b8aed77d413a35e6aa69a326d1fb92bc88d682e245c0f99", func := "rolodex/rolodexlaw5.SimdiskPlays", spec := "simdiskPlays", inPlace := ["internal/bytealg.IndexByteString", "internal/bytealg.IndexString", "sync/atomic.AddInt64", "maps.clone", "sync/atomic.LoadInt64"], unfollowed := true, recurses := true, named := ["unicode/utf8.first", "unicode/utf8.acceptRanges", "internal/bytealg.MaxLen"], apart := false, laid := [("unicode/utf8.acceptRanges", laid_unicode_utf8_acceptRanges), ("unicode/utf8.first", laid_unicode_utf8_first)], narrowed := true }
def SimdiskPlaysUptoSaid : Prop := simdiskPlaysUptoRow.holds Tryd.pinned (OpenSpec.upto simdiskPlaysSpec)

/-- 'rolodexlaw5.SimdiskKeeps', WHERE WHAT IT READS IS OF BULK AT MOST 1048576: true; the input reads as it did. -/
def simdiskKeepsUptoRow : OpenClaim := { program := "ytckpmlcaaagnkaadoor", sum := "e0fbf1699936dbf41b8aed77d413a35e6aa69a326d1fb92bc88d682e245c0f99", func := "rolodex/rolodexlaw5.SimdiskKeeps", spec := "simdiskKeeps", inPlace := ["internal/bytealg.IndexByteString", "internal/bytealg.IndexString", "sync/atomic.AddInt64", "maps.clone", "sync/atomic.LoadInt64"], unfollowed := true, recurses := true, named := ["unicode/utf8.first", "unicode/utf8.acceptRanges", "internal/bytealg.MaxLen"], apart := false, laid := [("unicode/utf8.acceptRanges", laid_unicode_utf8_acceptRanges), ("unicode/utf8.first", laid_unicode_utf8_first)], narrowed := true }
def SimdiskKeepsUptoSaid : Prop := simdiskKeepsUptoRow.holds Tryd.pinned (OpenSpec.upto simdiskKeepsSpec)

/-- 'rolodexlaw5.SimdiskSwitch', WHERE WHAT IT READS IS OF BULK AT MOST 1048576: true; the input reads as it did. -/
def simdiskSwitchUptoRow : OpenClaim := { program := "ytckpmlcaaagnkaadoor", sum := "e0fbf1699936dbf41b8aed77d413a35e6aa69a326d1fb92bc88d682e245c0f99", func := "rolodex/rolodexlaw5.SimdiskSwitch", spec := "simdiskSwitch", inPlace := ["internal/bytealg.IndexByteString", "internal/bytealg.IndexString", "sync/atomic.AddInt64", "maps.clone", "sync/atomic.LoadInt64"], unfollowed := true, recurses := true, named := ["unicode/utf8.first", "unicode/utf8.acceptRanges", "internal/bytealg.MaxLen"], apart := false, laid := [("unicode/utf8.acceptRanges", laid_unicode_utf8_acceptRanges), ("unicode/utf8.first", laid_unicode_utf8_first)], narrowed := true }
def SimdiskSwitchUptoSaid : Prop := simdiskSwitchUptoRow.holds Tryd.pinned (OpenSpec.upto simdiskSwitchSpec)

/-- 'rolodexlaw5.SimdiskQuota', WHERE WHAT IT READS IS OF BULK AT MOST 1048576: true; the input reads as it did. -/
def simdiskQuotaUptoRow : OpenClaim := { program := "ytckpmlcaaagnkaadoor", sum := "e0fbf1699936dbf41b8aed77d413a35e6aa69a326d1fb92bc88d682e245c0f99", func := "rolodex/rolodexlaw5.SimdiskQuota", spec := "simdiskQuota", inPlace := ["internal/bytealg.IndexByteString", "internal/bytealg.IndexString", "sync/atomic.AddInt64", "maps.clone", "sync/atomic.LoadInt64"], unfollowed := true, recurses := true, named := ["unicode/utf8.first", "unicode/utf8.acceptRanges", "internal/bytealg.MaxLen"], apart := false, laid := [("unicode/utf8.acceptRanges", laid_unicode_utf8_acceptRanges), ("unicode/utf8.first", laid_unicode_utf8_first)], narrowed := true }
def SimdiskQuotaUptoSaid : Prop := simdiskQuotaUptoRow.holds Tryd.pinned (OpenSpec.upto simdiskQuotaSpec)

/-- 'rolodexlaw5.SimdiskCalm', WHERE WHAT IT READS IS OF BULK AT MOST 1048576: true; the input reads as it did. -/
def simdiskCalmUptoRow : OpenClaim := { program := "ytckpmlcaaagnkaadoor", sum := "e0fbf1699936dbf41b8aed77d413a35e6aa69a326d1fb92bc88d682e245c0f99", func := "rolodex/rolodexlaw5.SimdiskCalm", spec := "simdiskCalm", inPlace := ["internal/bytealg.IndexByteString", "internal/bytealg.IndexString", "sync/atomic.AddInt64", "maps.clone", "sync/atomic.LoadInt64"], unfollowed := true, recurses := true, named := ["unicode/utf8.first", "unicode/utf8.acceptRanges", "internal/bytealg.MaxLen"], apart := false, laid := [("unicode/utf8.acceptRanges", laid_unicode_utf8_acceptRanges), ("unicode/utf8.first", laid_unicode_utf8_first)], narrowed := true }
def SimdiskCalmUptoSaid : Prop := simdiskCalmUptoRow.holds Tryd.pinned (OpenSpec.upto simdiskCalmSpec)

end Rows
end Go.Proofs.YtckpmlcaaagnkaaDoor
