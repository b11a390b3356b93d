/-
  DERIVED. GIVEN WITH THE SEED: THE CARDS: each row of YtckpmlcaaagnkaaDoorRows.lean that lists a variable, with what it lists TIED to the program's text (the seventh form; the later family's looks); each row that meets fmt, with fmt's text TOLD by the authors' own Lean function (tested against real Go, not proved from fmt's source: count such statements apart). THE CARD IS WHAT COUNTS. Prove the row's statement (the work); the ties are given (YtckpmlcaaagnkaaDoorTie.lean); close each card by the builder's one call (the guide's Derived/Test/ToyasCard.lean, 'card_holds'). Laid BY PROGRAM, IN A SANDBOX (cutbox-door.mjs). By AI agents, Wed Nov 11 2026. No macro, syntax, notation, axiom, sorry.
-/
import Derived.Test.YtckpmlcaaagnkaaDoorRows
import GoSem.ClaimSeven
namespace Go.Proofs.YtckpmlcaaagnkaaDoor
namespace Rows

/-- THE TIED CARD OF 'rolodexlaw5.SimdiskKnown'. -/
def simdiskKnownCard : Claim7 := { stood := { row := simdiskKnownRow, standIns := [], harness := (true, "51c856ff017852cadd3b9a64a8e6009163d39e61b0c3c8e15feabaea5d552ae6"), looks := true }, kinds := [], alts := [], laidByText := true, laidKinds := [.data, .pinned], laidTests := true, laidLooks := .later }
def SimdiskKnownCardSaid : Prop := Claim7.holds Tryd.pinned (.plain (OpenSpec.ofChange simdiskKnownSpec)) simdiskKnownCard

/-- THE TIED CARD OF 'rolodexlaw5.SimdiskPlays'. -/
def simdiskPlaysCard : Claim7 := { stood := { row := simdiskPlaysRow, standIns := [], harness := (true, "51c856ff017852cadd3b9a64a8e6009163d39e61b0c3c8e15feabaea5d552ae6"), looks := true }, kinds := [], alts := [], laidByText := true, laidKinds := [.data, .pinned], laidTests := true, laidLooks := .later }
def SimdiskPlaysCardSaid : Prop := Claim7.holds Tryd.pinned (.plain (OpenSpec.ofChange simdiskPlaysSpec)) simdiskPlaysCard

/-- THE TIED CARD OF 'rolodexlaw5.SimdiskKeeps'. -/
def simdiskKeepsCard : Claim7 := { stood := { row := simdiskKeepsRow, standIns := [], harness := (true, "51c856ff017852cadd3b9a64a8e6009163d39e61b0c3c8e15feabaea5d552ae6"), looks := true }, kinds := [], alts := [], laidByText := true, laidKinds := [.data, .pinned], laidTests := true, laidLooks := .later }
def SimdiskKeepsCardSaid : Prop := Claim7.holds Tryd.pinned (.plain (OpenSpec.ofChange simdiskKeepsSpec)) simdiskKeepsCard

/-- THE TIED CARD OF 'rolodexlaw5.SimdiskSwitch'. -/
def simdiskSwitchCard : Claim7 := { stood := { row := simdiskSwitchRow, standIns := [], harness := (true, "51c856ff017852cadd3b9a64a8e6009163d39e61b0c3c8e15feabaea5d552ae6"), looks := true }, kinds := [], alts := [], laidByText := true, laidKinds := [.data, .pinned], laidTests := true, laidLooks := .later }
def SimdiskSwitchCardSaid : Prop := Claim7.holds Tryd.pinned (.plain (OpenSpec.ofChange simdiskSwitchSpec)) simdiskSwitchCard

/-- THE TIED CARD OF 'rolodexlaw5.SimdiskQuota'. -/
def simdiskQuotaCard : Claim7 := { stood := { row := simdiskQuotaRow, standIns := [], harness := (true, "51c856ff017852cadd3b9a64a8e6009163d39e61b0c3c8e15feabaea5d552ae6"), looks := true }, kinds := [], alts := [], laidByText := true, laidKinds := [.data, .pinned], laidTests := true, laidLooks := .later }
def SimdiskQuotaCardSaid : Prop := Claim7.holds Tryd.pinned (.plain (OpenSpec.ofChange simdiskQuotaSpec)) simdiskQuotaCard

/-- THE TIED CARD OF 'rolodexlaw5.SimdiskCalm'. -/
def simdiskCalmCard : Claim7 := { stood := { row := simdiskCalmRow, standIns := [], harness := (true, "51c856ff017852cadd3b9a64a8e6009163d39e61b0c3c8e15feabaea5d552ae6"), looks := true }, kinds := [], alts := [], laidByText := true, laidKinds := [.data, .pinned], laidTests := true, laidLooks := .later }
def SimdiskCalmCardSaid : Prop := Claim7.holds Tryd.pinned (.plain (OpenSpec.ofChange simdiskCalmSpec)) simdiskCalmCard

/-- THE SECOND FORM's CARD OF 'rolodexlaw5.SimdiskKnown'. -/
def simdiskKnownUptoCard : Claim7 := { stood := { row := simdiskKnownUptoRow, standIns := [], harness := (true, "51c856ff017852cadd3b9a64a8e6009163d39e61b0c3c8e15feabaea5d552ae6"), looks := true }, kinds := [], alts := [], laidByText := true, laidKinds := [.data, .pinned], laidTests := true, laidLooks := .later }
def SimdiskKnownUptoCardSaid : Prop := Claim7.holds Tryd.pinned (.plain (OpenSpec.upto simdiskKnownSpec)) simdiskKnownUptoCard

/-- THE SECOND FORM's CARD OF 'rolodexlaw5.SimdiskPlays'. -/
def simdiskPlaysUptoCard : Claim7 := { stood := { row := simdiskPlaysUptoRow, standIns := [], harness := (true, "51c856ff017852cadd3b9a64a8e6009163d39e61b0c3c8e15feabaea5d552ae6"), looks := true }, kinds := [], alts := [], laidByText := true, laidKinds := [.data, .pinned], laidTests := true, laidLooks := .later }
def SimdiskPlaysUptoCardSaid : Prop := Claim7.holds Tryd.pinned (.plain (OpenSpec.upto simdiskPlaysSpec)) simdiskPlaysUptoCard

/-- THE SECOND FORM's CARD OF 'rolodexlaw5.SimdiskKeeps'. -/
def simdiskKeepsUptoCard : Claim7 := { stood := { row := simdiskKeepsUptoRow, standIns := [], harness := (true, "51c856ff017852cadd3b9a64a8e6009163d39e61b0c3c8e15feabaea5d552ae6"), looks := true }, kinds := [], alts := [], laidByText := true, laidKinds := [.data, .pinned], laidTests := true, laidLooks := .later }
def SimdiskKeepsUptoCardSaid : Prop := Claim7.holds Tryd.pinned (.plain (OpenSpec.upto simdiskKeepsSpec)) simdiskKeepsUptoCard

/-- THE SECOND FORM's CARD OF 'rolodexlaw5.SimdiskSwitch'. -/
def simdiskSwitchUptoCard : Claim7 := { stood := { row := simdiskSwitchUptoRow, standIns := [], harness := (true, "51c856ff017852cadd3b9a64a8e6009163d39e61b0c3c8e15feabaea5d552ae6"), looks := true }, kinds := [], alts := [], laidByText := true, laidKinds := [.data, .pinned], laidTests := true, laidLooks := .later }
def SimdiskSwitchUptoCardSaid : Prop := Claim7.holds Tryd.pinned (.plain (OpenSpec.upto simdiskSwitchSpec)) simdiskSwitchUptoCard

/-- THE SECOND FORM's CARD OF 'rolodexlaw5.SimdiskQuota'. -/
def simdiskQuotaUptoCard : Claim7 := { stood := { row := simdiskQuotaUptoRow, standIns := [], harness := (true, "51c856ff017852cadd3b9a64a8e6009163d39e61b0c3c8e15feabaea5d552ae6"), looks := true }, kinds := [], alts := [], laidByText := true, laidKinds := [.data, .pinned], laidTests := true, laidLooks := .later }
def SimdiskQuotaUptoCardSaid : Prop := Claim7.holds Tryd.pinned (.plain (OpenSpec.upto simdiskQuotaSpec)) simdiskQuotaUptoCard

/-- THE SECOND FORM's CARD OF 'rolodexlaw5.SimdiskCalm'. -/
def simdiskCalmUptoCard : Claim7 := { stood := { row := simdiskCalmUptoRow, standIns := [], harness := (true, "51c856ff017852cadd3b9a64a8e6009163d39e61b0c3c8e15feabaea5d552ae6"), looks := true }, kinds := [], alts := [], laidByText := true, laidKinds := [.data, .pinned], laidTests := true, laidLooks := .later }
def SimdiskCalmUptoCardSaid : Prop := Claim7.holds Tryd.pinned (.plain (OpenSpec.upto simdiskCalmSpec)) simdiskCalmUptoCard
end Rows
end Go.Proofs.YtckpmlcaaagnkaaDoor
