/-
  DERIVED. GIVEN WITH THE SEED: THE CARDS: each row of YtcoihknokhdbkaaGreatDoorRows.lean that lists a variable, with what it lists TIED to the program's text (the seventh form; the later family's looks); each row that meets fmt, with fmt's text TOLD by the authors' own Lean function (tested against real Go, not proved from fmt's source: count such statements apart). THE CARD IS WHAT COUNTS. Prove the row's statement (the work); the ties are given (YtcoihknokhdbkaaGreatDoorTie.lean); close each card by the builder's one call (the guide's Derived/Test/ToyasCard.lean, 'card_holds'). Laid BY PROGRAM, IN A SANDBOX (cutbox-door.mjs). By AI agents, Wed Nov 11 2026. No macro, syntax, notation, axiom, sorry.
-/
import Derived.Test.YtcoihknokhdbkaaGreatDoorRows
import GoSem.ClaimSeven
namespace Go.Proofs.YtcoihknokhdbkaaGreatDoor
namespace Rows

/-- THE TIED CARD OF 'rolodextop.TopEvicted'. -/
def topEvictedCard : Claim7 := { stood := { row := topEvictedRow, standIns := [], harness := (true, "e108fbf0410e49292f163e1b022bc708076fefab669d641d544fac091534dfa2"), looks := true }, kinds := [], alts := [], laidByText := true, laidKinds := [.pinned, .data, .data, .data, .data, .sentinel, .sentinel], laidTests := true, laidLooks := .later }
def TopEvictedCardSaid : Prop := Claim7.holds Tryz.pinned (.plain (OpenSpec.ofChange topEvictedSpec)) topEvictedCard

/-- THE SECOND FORM's CARD OF 'rolodextop.TopEvicted'. -/
def topEvictedUptoCard : Claim7 := { stood := { row := topEvictedUptoRow, standIns := [], harness := (true, "e108fbf0410e49292f163e1b022bc708076fefab669d641d544fac091534dfa2"), looks := true }, kinds := [], alts := [], laidByText := true, laidKinds := [.pinned, .data, .data, .data, .data, .sentinel, .sentinel], laidTests := true, laidLooks := .later }
def TopEvictedUptoCardSaid : Prop := Claim7.holds Tryz.pinned (.plain (OpenSpec.upto topEvictedSpec)) topEvictedUptoCard
end Rows
end Go.Proofs.YtcoihknokhdbkaaGreatDoor
