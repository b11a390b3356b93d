/-
  DERIVED. GIVEN WITH THE SEED: THE CARDS: each row of YtoikjkmmdpdkbaaGreatDoorRows.lean that lists a variable, with what it lists TIED to the program's text (the seventh form; the later family's looks); each row that meets fmt, with fmt's text TOLD by the authors' own Lean function (tested against real Go, not proved from fmt's source: count such statements apart). THE CARD IS WHAT COUNTS. Prove the row's statement (the work); the ties are given (YtoikjkmmdpdkbaaGreatDoorTie.lean); close each card by the builder's one call (the guide's Derived/Test/ToyasCard.lean, 'card_holds'). Laid BY PROGRAM, IN A SANDBOX (cutbox-door.mjs). By AI agents, Wed Nov 11 2026. No macro, syntax, notation, axiom, sorry.
-/
import Derived.Test.YtoikjkmmdpdkbaaGreatDoorRows
import GoSem.ClaimSeven
namespace Go.Proofs.YtoikjkmmdpdkbaaGreatDoor
namespace Rows

/-- THE TIED CARD OF 'rolodexlaw24.VcardKnown'. -/
def vcardKnownCard : Claim7 := { stood := { row := vcardKnownRow, standIns := [], harness := (true, "eb59256b20cf9d8d51688f576570b28cac727539ba32f5a417697ee14c2f5683"), looks := true }, kinds := [], alts := [], laidByText := true, laidKinds := [.data, .data, .data, .data, .sentinel, .sentinel, .data, .data, .pinned, .pinned], laidTests := true, laidLooks := .later }
def VcardKnownCardSaid : Prop := Claim7.holds Tryz.pinned (.plain (OpenSpec.ofChange vcardKnownSpec)) vcardKnownCard

/-- THE TIED CARD OF 'rolodexlaw24.VcardImports'. -/
def vcardImportsCard : Claim7 := { stood := { row := vcardImportsRow, standIns := [], harness := (true, "eb59256b20cf9d8d51688f576570b28cac727539ba32f5a417697ee14c2f5683"), looks := true }, kinds := [], alts := [], laidByText := true, laidKinds := [.data, .data, .data, .data, .sentinel, .sentinel, .data, .data, .pinned, .pinned], laidTests := true, laidLooks := .later }
def VcardImportsCardSaid : Prop := Claim7.holds Tryz.pinned (.plain (OpenSpec.ofChange vcardImportsSpec)) vcardImportsCard

/-- THE TIED CARD OF 'rolodexlaw24.VcardAgain'. -/
def vcardAgainCard : Claim7 := { stood := { row := vcardAgainRow, standIns := [], harness := (true, "eb59256b20cf9d8d51688f576570b28cac727539ba32f5a417697ee14c2f5683"), looks := true }, kinds := [], alts := [], laidByText := true, laidKinds := [.data, .data, .data, .data, .sentinel, .sentinel, .data, .data, .pinned, .pinned], laidTests := true, laidLooks := .later }
def VcardAgainCardSaid : Prop := Claim7.holds Tryz.pinned (.plain (OpenSpec.ofChange vcardAgainSpec)) vcardAgainCard

/-- THE TIED CARD OF 'rolodexlaw24.VcardRows'. -/
def vcardRowsCard : Claim7 := { stood := { row := vcardRowsRow, standIns := [], harness := (true, "eb59256b20cf9d8d51688f576570b28cac727539ba32f5a417697ee14c2f5683"), looks := true }, kinds := [], alts := [], laidByText := true, laidKinds := [.data, .data, .data, .data, .sentinel, .sentinel, .data, .data, .pinned, .pinned], laidTests := true, laidLooks := .later }
def VcardRowsCardSaid : Prop := Claim7.holds Tryz.pinned (.plain (OpenSpec.ofChange vcardRowsSpec)) vcardRowsCard

/-- THE TIED CARD OF 'rolodexlaw24.VcardSame'. -/
def vcardSameCard : Claim7 := { stood := { row := vcardSameRow, standIns := [], harness := (true, "eb59256b20cf9d8d51688f576570b28cac727539ba32f5a417697ee14c2f5683"), looks := true }, kinds := [], alts := [], laidByText := true, laidKinds := [.data, .data, .data, .data, .sentinel, .sentinel, .data, .data, .pinned, .pinned], laidTests := true, laidLooks := .later }
def VcardSameCardSaid : Prop := Claim7.holds Tryz.pinned (.plain (OpenSpec.ofChange vcardSameSpec)) vcardSameCard

/-- THE SECOND FORM's CARD OF 'rolodexlaw24.VcardKnown'. -/
def vcardKnownUptoCard : Claim7 := { stood := { row := vcardKnownUptoRow, standIns := [], harness := (true, "eb59256b20cf9d8d51688f576570b28cac727539ba32f5a417697ee14c2f5683"), looks := true }, kinds := [], alts := [], laidByText := true, laidKinds := [.data, .data, .data, .data, .sentinel, .sentinel, .data, .data, .pinned, .pinned], laidTests := true, laidLooks := .later }
def VcardKnownUptoCardSaid : Prop := Claim7.holds Tryz.pinned (.plain (OpenSpec.upto vcardKnownSpec)) vcardKnownUptoCard

/-- THE SECOND FORM's CARD OF 'rolodexlaw24.VcardImports'. -/
def vcardImportsUptoCard : Claim7 := { stood := { row := vcardImportsUptoRow, standIns := [], harness := (true, "eb59256b20cf9d8d51688f576570b28cac727539ba32f5a417697ee14c2f5683"), looks := true }, kinds := [], alts := [], laidByText := true, laidKinds := [.data, .data, .data, .data, .sentinel, .sentinel, .data, .data, .pinned, .pinned], laidTests := true, laidLooks := .later }
def VcardImportsUptoCardSaid : Prop := Claim7.holds Tryz.pinned (.plain (OpenSpec.upto vcardImportsSpec)) vcardImportsUptoCard

/-- THE SECOND FORM's CARD OF 'rolodexlaw24.VcardAgain'. -/
def vcardAgainUptoCard : Claim7 := { stood := { row := vcardAgainUptoRow, standIns := [], harness := (true, "eb59256b20cf9d8d51688f576570b28cac727539ba32f5a417697ee14c2f5683"), looks := true }, kinds := [], alts := [], laidByText := true, laidKinds := [.data, .data, .data, .data, .sentinel, .sentinel, .data, .data, .pinned, .pinned], laidTests := true, laidLooks := .later }
def VcardAgainUptoCardSaid : Prop := Claim7.holds Tryz.pinned (.plain (OpenSpec.upto vcardAgainSpec)) vcardAgainUptoCard

/-- THE SECOND FORM's CARD OF 'rolodexlaw24.VcardRows'. -/
def vcardRowsUptoCard : Claim7 := { stood := { row := vcardRowsUptoRow, standIns := [], harness := (true, "eb59256b20cf9d8d51688f576570b28cac727539ba32f5a417697ee14c2f5683"), looks := true }, kinds := [], alts := [], laidByText := true, laidKinds := [.data, .data, .data, .data, .sentinel, .sentinel, .data, .data, .pinned, .pinned], laidTests := true, laidLooks := .later }
def VcardRowsUptoCardSaid : Prop := Claim7.holds Tryz.pinned (.plain (OpenSpec.upto vcardRowsSpec)) vcardRowsUptoCard

/-- THE SECOND FORM's CARD OF 'rolodexlaw24.VcardSame'. -/
def vcardSameUptoCard : Claim7 := { stood := { row := vcardSameUptoRow, standIns := [], harness := (true, "eb59256b20cf9d8d51688f576570b28cac727539ba32f5a417697ee14c2f5683"), looks := true }, kinds := [], alts := [], laidByText := true, laidKinds := [.data, .data, .data, .data, .sentinel, .sentinel, .data, .data, .pinned, .pinned], laidTests := true, laidLooks := .later }
def VcardSameUptoCardSaid : Prop := Claim7.holds Tryz.pinned (.plain (OpenSpec.upto vcardSameSpec)) vcardSameUptoCard
end Rows
end Go.Proofs.YtoikjkmmdpdkbaaGreatDoor
