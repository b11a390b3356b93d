/-
  No cell of these rows narrows 'for every input' (looked for: loops, veiled, ifaces, maps, wideKeys, modest, calm, conditions, laid).
  DERIVED. THE GIVEN ROWS OF THIS SEAT. 3 by the template 'for every input the law returns true; each argument reads behind the call as it read before'; 0 by the template 'total and deterministic' (their statements: YtpdpipgmdhkomaaTotals.lean).
  GIVEN WITH THE SEED: the statements are not yours to turn. If you find one false, say at which input.
  Laid BY PROGRAM, IN A SANDBOX (cutbox-rows.mjs): the forced cells as the released guide's own fill.sh prints them over the translation 90097de1e4811d33… (all of the seat's roots in one cut). By AI agents, Wed Nov 11 2026. No macro, syntax, notation, axiom, sorry.
-/
import Derived.Test.YtpdpipgmdhkomaaChecked
import GoSem.Claim
import GoSem.ClaimJoined
import GoSem.ClaimMapViews
import Derived.JoinedTies
import Derived.KernelRfl
namespace Go.Proofs.Ytpdpipgmdhkomaa
/- THE CELL 'sum', in the pinned program and in every row, IS THE sha256 OF THE DUMP (.gsa) THAT YtpdpipgmdhkomaaProg.lean LOADS. Nothing in Lean hashes anything: it is a label: what it is worth is what the hold of that sum in a sandbox is worth. -/
noncomputable def Try.pinned : Pinned := { name := "ytpdpipgmdhkomaa", sum := "90097de1e4811d3339806d4305db7c5ad616e596029b10d0207fe6a2ec829a4d", checked := Try.checked }
namespace Rows
def none {H : Type} : Left H := { results := [], args := [] }

/-- 'rolodexlaw16.BlobsKnown': WHATEVER THE INPUT: true; the input reads as it did. -/
def blobsKnownSpec : ChangeSpec := { name := "blobsKnown", fn := fun _ => fun
  | [] => { results := [.lit (.bool true)], args := [] }
  | _ => none }
def blobsKnownRow : OpenClaim := { program := "ytpdpipgmdhkomaa", sum := "90097de1e4811d3339806d4305db7c5ad616e596029b10d0207fe6a2ec829a4d", func := "rolodex/rolodexlaw16.BlobsKnown", spec := "blobsKnown", unfollowed := true, recurses := true, apart := false }
def BlobsKnownSaid : Prop := blobsKnownRow.holds Try.pinned (OpenSpec.ofChange blobsKnownSpec)

/-- ITS FALSE NEIGHBOUR: 'it returns false'. Refute it at one input. -/
def blobsKnownWrong : ChangeSpec := { name := "blobsKnown", fn := fun _ => fun
  | [] => { results := [.lit (.bool false)], args := [] }
  | _ => none }
def BlobsKnownWrongFalsely : Prop := blobsKnownRow.holds Try.pinned (OpenSpec.ofChange blobsKnownWrong)

/-- 'rolodexlaw16.BlobsCut': WHATEVER THE INPUT: true; the input reads as it did. -/
def blobsCutSpec : ChangeSpec := { name := "blobsCut", fn := fun _ => fun
  | [d1, d2] => { results := [.lit (.bool true)], args := [d1, d2] }
  | _ => none }
def blobsCutRow : OpenClaim := { program := "ytpdpipgmdhkomaa", sum := "90097de1e4811d3339806d4305db7c5ad616e596029b10d0207fe6a2ec829a4d", func := "rolodex/rolodexlaw16.BlobsCut", spec := "blobsCut", unfollowed := true, recurses := true, apart := false }
def BlobsCutSaid : Prop := blobsCutRow.holds Try.pinned (OpenSpec.ofChange blobsCutSpec)

/-- ITS FALSE NEIGHBOUR: 'it returns false'. Refute it at one input. -/
def blobsCutWrong : ChangeSpec := { name := "blobsCut", fn := fun _ => fun
  | [d1, d2] => { results := [.lit (.bool false)], args := [d1, d2] }
  | _ => none }
def BlobsCutWrongFalsely : Prop := blobsCutRow.holds Try.pinned (OpenSpec.ofChange blobsCutWrong)

/-- 'rolodexlaw16.BlobsPlays': WHATEVER THE INPUT: true; the input reads as it did. -/
def blobsPlaysSpec : ChangeSpec := { name := "blobsPlays", fn := fun _ => fun
  | [d1, d2] => { results := [.lit (.bool true)], args := [d1, d2] }
  | _ => none }
def blobsPlaysRow : OpenClaim := { program := "ytpdpipgmdhkomaa", sum := "90097de1e4811d3339806d4305db7c5ad616e596029b10d0207fe6a2ec829a4d", func := "rolodex/rolodexlaw16.BlobsPlays", spec := "blobsPlays", unfollowed := true, recurses := true, apart := false }
def BlobsPlaysSaid : Prop := blobsPlaysRow.holds Try.pinned (OpenSpec.ofChange blobsPlaysSpec)

/-- ITS FALSE NEIGHBOUR: 'it returns false'. Refute it at one input. -/
def blobsPlaysWrong : ChangeSpec := { name := "blobsPlays", fn := fun _ => fun
  | [d1, d2] => { results := [.lit (.bool false)], args := [d1, d2] }
  | _ => none }
def BlobsPlaysWrongFalsely : Prop := blobsPlaysRow.holds Try.pinned (OpenSpec.ofChange blobsPlaysWrong)

/- THE SECOND FORM. 'bulk': how many values and letters a reading holds, each counted each time it is reached (what is shared counts as often as it is met; a slice's spare places count too). A statement '..UptoSaid' is the law's where the arguments, and the package variables that the reading takes, are together of bulk at most 1048576: NARROWER than '..Said'. Prove '..Said' where nothing that the law and all that it calls make is longer than what came in: it says more and counts as full. Else prove '..UptoSaid'. A law counts once. -/
mutual
def uptoBulk {H : Type} : DataW H → Nat
  | .lit (.string bytes) => bytes.length + 1
  | .lit _ => 1
  | .nil => 1
  | .ptr d => uptoBulk d + 1
  | .slice elems spare => uptoBulkAll elems + uptoBulkAll spare + 1
  | .agg parts => uptoBulkAll parts + 1
  | .iface _ d => uptoBulk d + 1
  | .map entries => uptoBulkEntries entries + 1
  | .held _ => 1
def uptoBulkAll {H : Type} : List (DataW H) → Nat
  | [] => 0
  | d :: r => uptoBulk d + uptoBulkAll r
def uptoBulkEntries {H : Type} : List (Lit × DataW H) → Nat
  | [] => 0
  | x :: r => uptoBulkEntry x + uptoBulkEntries r
def uptoBulkEntry {H : Type} : Lit × DataW H → Nat
  | (.string bytes, d) => bytes.length + uptoBulk d + 1
  | (_, d) => uptoBulk d + 1
 end
def uptoSmall : (H : Type) → List (DataW H) → Bool := fun _ ds => decide (uptoBulkAll ds ≤ 1048576)
def OpenSpec.upto (s : _root_.Go.ChangeSpec) : _root_.Go.OpenSpec := { _root_.Go.OpenSpec.ofChange s with cond := some uptoSmall }

/-- 'rolodexlaw16.BlobsKnown', WHERE WHAT IT READS IS OF BULK AT MOST 1048576: true; the input reads as it did. -/
def blobsKnownUptoRow : OpenClaim := { program := "ytpdpipgmdhkomaa", sum := "90097de1e4811d3339806d4305db7c5ad616e596029b10d0207fe6a2ec829a4d", func := "rolodex/rolodexlaw16.BlobsKnown", spec := "blobsKnown", unfollowed := true, recurses := true, apart := false, narrowed := true }
def BlobsKnownUptoSaid : Prop := blobsKnownUptoRow.holds Try.pinned (OpenSpec.upto blobsKnownSpec)

/-- 'rolodexlaw16.BlobsCut', WHERE WHAT IT READS IS OF BULK AT MOST 1048576: true; the input reads as it did. -/
def blobsCutUptoRow : OpenClaim := { program := "ytpdpipgmdhkomaa", sum := "90097de1e4811d3339806d4305db7c5ad616e596029b10d0207fe6a2ec829a4d", func := "rolodex/rolodexlaw16.BlobsCut", spec := "blobsCut", unfollowed := true, recurses := true, apart := false, narrowed := true }
def BlobsCutUptoSaid : Prop := blobsCutUptoRow.holds Try.pinned (OpenSpec.upto blobsCutSpec)

/-- 'rolodexlaw16.BlobsPlays', WHERE WHAT IT READS IS OF BULK AT MOST 1048576: true; the input reads as it did. -/
def blobsPlaysUptoRow : OpenClaim := { program := "ytpdpipgmdhkomaa", sum := "90097de1e4811d3339806d4305db7c5ad616e596029b10d0207fe6a2ec829a4d", func := "rolodex/rolodexlaw16.BlobsPlays", spec := "blobsPlays", unfollowed := true, recurses := true, apart := false, narrowed := true }
def BlobsPlaysUptoSaid : Prop := blobsPlaysUptoRow.holds Try.pinned (OpenSpec.upto blobsPlaysSpec)

end Rows
end Go.Proofs.Ytpdpipgmdhkomaa
