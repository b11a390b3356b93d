/-
  DERIVED. GIVEN WITH THE SEED: THE CARDS: each row of YtmjcgbaacndblaaGreatDoorRows.lean that lists a variable, with what it lists TIED to the program's text (the seventh form; the later family's looks); each row that meets fmt, with fmt's text TOLD by the authors' own Lean function (tested against real Go, not proved from fmt's source: count such statements apart). THE CARD IS WHAT COUNTS. Prove the row's statement (the work); the ties are given (YtmjcgbaacndblaaGreatDoorTie.lean); close each card by the builder's one call (the guide's Derived/Test/ToyasCard.lean, 'card_holds'). Laid BY PROGRAM, IN A SANDBOX (cutbox-door.mjs). By AI agents, Wed Nov 11 2026. No macro, syntax, notation, axiom, sorry.
-/
import Derived.Test.YtmjcgbaacndblaaGreatDoorRows
import GoSem.ClaimSeven
namespace Go.Proofs.YtmjcgbaacndblaaGreatDoor
namespace Rows

/-- THE TIED CARD OF 'rolodexlaw17.HttpwireKnown'. -/
def httpwireKnownCard : Claim7 := { stood := { row := httpwireKnownRow, standIns := [], harness := (true, "362dc9c824334cfe19c170802755e1a7d2dd71729a4e635eeb53d76f24be5b19"), looks := true }, kinds := [], alts := [], laidByText := true, laidKinds := [.data, .data, .data, .data, .sentinel, .sentinel, .pinned], laidTests := true, laidLooks := .later }
def HttpwireKnownCardSaid : Prop := Claim7.holds Tryz.pinned (.plain (OpenSpec.ofChange httpwireKnownSpec)) httpwireKnownCard

/-- THE TIED CARD OF 'rolodexlaw17.HttpwireReads'. -/
def httpwireReadsCard : Claim7 := { stood := { row := httpwireReadsRow, standIns := [], harness := (true, "362dc9c824334cfe19c170802755e1a7d2dd71729a4e635eeb53d76f24be5b19"), looks := true }, kinds := [], alts := [], laidByText := true, laidKinds := [.data, .data, .data, .data, .sentinel, .sentinel, .pinned], laidTests := true, laidLooks := .later }
def HttpwireReadsCardSaid : Prop := Claim7.holds Tryz.pinned (.plain (OpenSpec.ofChange httpwireReadsSpec)) httpwireReadsCard

/-- THE TIED CARD OF 'rolodexlaw17.HttpwirePrints'. -/
def httpwirePrintsCard : Claim7 := { stood := { row := httpwirePrintsRow, standIns := [], harness := (true, "362dc9c824334cfe19c170802755e1a7d2dd71729a4e635eeb53d76f24be5b19"), looks := true }, kinds := [], alts := [], laidByText := true, laidKinds := [.data, .data, .data, .data, .sentinel, .sentinel, .pinned], laidTests := true, laidLooks := .later }
def HttpwirePrintsCardSaid : Prop := Claim7.holds Tryz.pinned (.plain (OpenSpec.ofChange httpwirePrintsSpec)) httpwirePrintsCard

/-- THE TIED CARD OF 'rolodexlaw17.HttpwireGets'. -/
def httpwireGetsCard : Claim7 := { stood := { row := httpwireGetsRow, standIns := [], harness := (true, "362dc9c824334cfe19c170802755e1a7d2dd71729a4e635eeb53d76f24be5b19"), looks := true }, kinds := [], alts := [], laidByText := true, laidKinds := [.data, .data, .data, .data, .sentinel, .sentinel, .pinned], laidTests := true, laidLooks := .later }
def HttpwireGetsCardSaid : Prop := Claim7.holds Tryz.pinned (.plain (OpenSpec.ofChange httpwireGetsSpec)) httpwireGetsCard

/-- THE TIED CARD OF 'rolodexlaw17.HttpwireGrows'. -/
def httpwireGrowsCard : Claim7 := { stood := { row := httpwireGrowsRow, standIns := [], harness := (true, "362dc9c824334cfe19c170802755e1a7d2dd71729a4e635eeb53d76f24be5b19"), looks := true }, kinds := [], alts := [], laidByText := true, laidKinds := [.data, .data, .data, .data, .sentinel, .sentinel, .pinned], laidTests := true, laidLooks := .later }
def HttpwireGrowsCardSaid : Prop := Claim7.holds Tryz.pinned (.plain (OpenSpec.ofChange httpwireGrowsSpec)) httpwireGrowsCard

/-- THE TIED CARD OF 'rolodexlaw17.HttpwirePipes'. -/
def httpwirePipesCard : Claim7 := { stood := { row := httpwirePipesRow, standIns := [], harness := (true, "362dc9c824334cfe19c170802755e1a7d2dd71729a4e635eeb53d76f24be5b19"), looks := true }, kinds := [], alts := [], laidByText := true, laidKinds := [.data, .data, .data, .data, .sentinel, .sentinel, .pinned], laidTests := true, laidLooks := .later }
def HttpwirePipesCardSaid : Prop := Claim7.holds Tryz.pinned (.plain (OpenSpec.ofChange httpwirePipesSpec)) httpwirePipesCard

/-- THE TIED CARD OF 'rolodexlaw17.HttpwireLetters'. -/
def httpwireLettersCard : Claim7 := { stood := { row := httpwireLettersRow, standIns := [], harness := (true, "362dc9c824334cfe19c170802755e1a7d2dd71729a4e635eeb53d76f24be5b19"), looks := true }, kinds := [], alts := [], laidByText := true, laidKinds := [.data, .data, .data, .data, .sentinel, .sentinel, .pinned], laidTests := true, laidLooks := .later }
def HttpwireLettersCardSaid : Prop := Claim7.holds Tryz.pinned (.plain (OpenSpec.ofChange httpwireLettersSpec)) httpwireLettersCard

/-- THE SECOND FORM's CARD OF 'rolodexlaw17.HttpwireKnown'. -/
def httpwireKnownUptoCard : Claim7 := { stood := { row := httpwireKnownUptoRow, standIns := [], harness := (true, "362dc9c824334cfe19c170802755e1a7d2dd71729a4e635eeb53d76f24be5b19"), looks := true }, kinds := [], alts := [], laidByText := true, laidKinds := [.data, .data, .data, .data, .sentinel, .sentinel, .pinned], laidTests := true, laidLooks := .later }
def HttpwireKnownUptoCardSaid : Prop := Claim7.holds Tryz.pinned (.plain (OpenSpec.upto httpwireKnownSpec)) httpwireKnownUptoCard

/-- THE SECOND FORM's CARD OF 'rolodexlaw17.HttpwireReads'. -/
def httpwireReadsUptoCard : Claim7 := { stood := { row := httpwireReadsUptoRow, standIns := [], harness := (true, "362dc9c824334cfe19c170802755e1a7d2dd71729a4e635eeb53d76f24be5b19"), looks := true }, kinds := [], alts := [], laidByText := true, laidKinds := [.data, .data, .data, .data, .sentinel, .sentinel, .pinned], laidTests := true, laidLooks := .later }
def HttpwireReadsUptoCardSaid : Prop := Claim7.holds Tryz.pinned (.plain (OpenSpec.upto httpwireReadsSpec)) httpwireReadsUptoCard

/-- THE SECOND FORM's CARD OF 'rolodexlaw17.HttpwirePrints'. -/
def httpwirePrintsUptoCard : Claim7 := { stood := { row := httpwirePrintsUptoRow, standIns := [], harness := (true, "362dc9c824334cfe19c170802755e1a7d2dd71729a4e635eeb53d76f24be5b19"), looks := true }, kinds := [], alts := [], laidByText := true, laidKinds := [.data, .data, .data, .data, .sentinel, .sentinel, .pinned], laidTests := true, laidLooks := .later }
def HttpwirePrintsUptoCardSaid : Prop := Claim7.holds Tryz.pinned (.plain (OpenSpec.upto httpwirePrintsSpec)) httpwirePrintsUptoCard

/-- THE SECOND FORM's CARD OF 'rolodexlaw17.HttpwireGets'. -/
def httpwireGetsUptoCard : Claim7 := { stood := { row := httpwireGetsUptoRow, standIns := [], harness := (true, "362dc9c824334cfe19c170802755e1a7d2dd71729a4e635eeb53d76f24be5b19"), looks := true }, kinds := [], alts := [], laidByText := true, laidKinds := [.data, .data, .data, .data, .sentinel, .sentinel, .pinned], laidTests := true, laidLooks := .later }
def HttpwireGetsUptoCardSaid : Prop := Claim7.holds Tryz.pinned (.plain (OpenSpec.upto httpwireGetsSpec)) httpwireGetsUptoCard

/-- THE SECOND FORM's CARD OF 'rolodexlaw17.HttpwireGrows'. -/
def httpwireGrowsUptoCard : Claim7 := { stood := { row := httpwireGrowsUptoRow, standIns := [], harness := (true, "362dc9c824334cfe19c170802755e1a7d2dd71729a4e635eeb53d76f24be5b19"), looks := true }, kinds := [], alts := [], laidByText := true, laidKinds := [.data, .data, .data, .data, .sentinel, .sentinel, .pinned], laidTests := true, laidLooks := .later }
def HttpwireGrowsUptoCardSaid : Prop := Claim7.holds Tryz.pinned (.plain (OpenSpec.upto httpwireGrowsSpec)) httpwireGrowsUptoCard

/-- THE SECOND FORM's CARD OF 'rolodexlaw17.HttpwirePipes'. -/
def httpwirePipesUptoCard : Claim7 := { stood := { row := httpwirePipesUptoRow, standIns := [], harness := (true, "362dc9c824334cfe19c170802755e1a7d2dd71729a4e635eeb53d76f24be5b19"), looks := true }, kinds := [], alts := [], laidByText := true, laidKinds := [.data, .data, .data, .data, .sentinel, .sentinel, .pinned], laidTests := true, laidLooks := .later }
def HttpwirePipesUptoCardSaid : Prop := Claim7.holds Tryz.pinned (.plain (OpenSpec.upto httpwirePipesSpec)) httpwirePipesUptoCard

/-- THE SECOND FORM's CARD OF 'rolodexlaw17.HttpwireLetters'. -/
def httpwireLettersUptoCard : Claim7 := { stood := { row := httpwireLettersUptoRow, standIns := [], harness := (true, "362dc9c824334cfe19c170802755e1a7d2dd71729a4e635eeb53d76f24be5b19"), looks := true }, kinds := [], alts := [], laidByText := true, laidKinds := [.data, .data, .data, .data, .sentinel, .sentinel, .pinned], laidTests := true, laidLooks := .later }
def HttpwireLettersUptoCardSaid : Prop := Claim7.holds Tryz.pinned (.plain (OpenSpec.upto httpwireLettersSpec)) httpwireLettersUptoCard
end Rows
end Go.Proofs.YtmjcgbaacndblaaGreatDoor
