/-
  DERIVED. GIVEN WITH THE SEED: THE CARDS: each row of YtmilkhdicmkmbaaDoorRows.lean that lists a variable, with what it lists TIED to the program's text (the seventh form; the later family's looks); each row that meets fmt, with fmt's text TOLD by the authors' own Lean function (tested against real Go, not proved from fmt's source: count such statements apart). THE CARD IS WHAT COUNTS. Prove the row's statement (the work); the ties are given (YtmilkhdicmkmbaaDoorTie.lean); close each card by the builder's one call (the guide's Derived/Test/ToyasCard.lean, 'card_holds'). Laid BY PROGRAM, IN A SANDBOX (cutbox-door.mjs). By AI agents, Wed Nov 11 2026. No macro, syntax, notation, axiom, sorry.
-/
import Derived.Test.YtmilkhdicmkmbaaDoorRows
import GoSem.ClaimSeven
namespace Go.Proofs.YtmilkhdicmkmbaaDoor
namespace Rows

/-- THE TIED CARD OF 'rolodexlaw23.VlineKnown'. -/
def vlineKnownCard : Claim7 := { stood := { row := vlineKnownRow, standIns := [], harness := (true, "ea735614785885c3308a9bcfc6bd04ea6b6e3cab2f449ee50eb3fe5f00b968ef"), looks := false }, kinds := [], alts := [], laidByText := true, laidKinds := [.data, .pinned], laidTests := true, laidLooks := .later }
def VlineKnownCardSaid : Prop := Claim7.holds Tryd.pinned (.plain (OpenSpec.ofChange vlineKnownSpec)) vlineKnownCard

/-- THE TIED CARD OF 'rolodexlaw23.VlineReads'. -/
def vlineReadsCard : Claim7 := { stood := { row := vlineReadsRow, standIns := [], harness := (true, "ea735614785885c3308a9bcfc6bd04ea6b6e3cab2f449ee50eb3fe5f00b968ef"), looks := false }, kinds := [], alts := [], laidByText := true, laidKinds := [.data, .pinned], laidTests := true, laidLooks := .later }
def VlineReadsCardSaid : Prop := Claim7.holds Tryd.pinned (.plain (OpenSpec.ofChange vlineReadsSpec)) vlineReadsCard

/-- THE TIED CARD OF 'rolodexlaw23.VlinePrints'. -/
def vlinePrintsCard : Claim7 := { stood := { row := vlinePrintsRow, standIns := [], harness := (true, "ea735614785885c3308a9bcfc6bd04ea6b6e3cab2f449ee50eb3fe5f00b968ef"), looks := false }, kinds := [], alts := [], laidByText := true, laidKinds := [.data, .pinned], laidTests := true, laidLooks := .later }
def VlinePrintsCardSaid : Prop := Claim7.holds Tryd.pinned (.plain (OpenSpec.ofChange vlinePrintsSpec)) vlinePrintsCard

/-- THE TIED CARD OF 'rolodexlaw23.VlineFolds'. -/
def vlineFoldsCard : Claim7 := { stood := { row := vlineFoldsRow, standIns := [], harness := (true, "ea735614785885c3308a9bcfc6bd04ea6b6e3cab2f449ee50eb3fe5f00b968ef"), looks := false }, kinds := [], alts := [], laidByText := true, laidKinds := [.data, .pinned], laidTests := true, laidLooks := .later }
def VlineFoldsCardSaid : Prop := Claim7.holds Tryd.pinned (.plain (OpenSpec.ofChange vlineFoldsSpec)) vlineFoldsCard

/-- THE TIED CARD OF 'rolodexlaw23.VlineEscapes'. -/
def vlineEscapesCard : Claim7 := { stood := { row := vlineEscapesRow, standIns := [], harness := (true, "ea735614785885c3308a9bcfc6bd04ea6b6e3cab2f449ee50eb3fe5f00b968ef"), looks := false }, kinds := [], alts := [], laidByText := true, laidKinds := [.data, .pinned], laidTests := true, laidLooks := .later }
def VlineEscapesCardSaid : Prop := Claim7.holds Tryd.pinned (.plain (OpenSpec.ofChange vlineEscapesSpec)) vlineEscapesCard

/-- THE TIED CARD OF 'rolodexlaw23.VlineEnds'. -/
def vlineEndsCard : Claim7 := { stood := { row := vlineEndsRow, standIns := [], harness := (true, "ea735614785885c3308a9bcfc6bd04ea6b6e3cab2f449ee50eb3fe5f00b968ef"), looks := false }, kinds := [], alts := [], laidByText := true, laidKinds := [.data, .pinned], laidTests := true, laidLooks := .later }
def VlineEndsCardSaid : Prop := Claim7.holds Tryd.pinned (.plain (OpenSpec.ofChange vlineEndsSpec)) vlineEndsCard

/-- THE TIED CARD OF 'rolodexlaw23.VlineAnywhere'. -/
def vlineAnywhereCard : Claim7 := { stood := { row := vlineAnywhereRow, standIns := [], harness := (true, "ea735614785885c3308a9bcfc6bd04ea6b6e3cab2f449ee50eb3fe5f00b968ef"), looks := false }, kinds := [], alts := [], laidByText := true, laidKinds := [.data, .pinned], laidTests := true, laidLooks := .later }
def VlineAnywhereCardSaid : Prop := Claim7.holds Tryd.pinned (.plain (OpenSpec.ofChange vlineAnywhereSpec)) vlineAnywhereCard

/-- THE SECOND FORM's CARD OF 'rolodexlaw23.VlineKnown'. -/
def vlineKnownUptoCard : Claim7 := { stood := { row := vlineKnownUptoRow, standIns := [], harness := (true, "ea735614785885c3308a9bcfc6bd04ea6b6e3cab2f449ee50eb3fe5f00b968ef"), looks := false }, kinds := [], alts := [], laidByText := true, laidKinds := [.data, .pinned], laidTests := true, laidLooks := .later }
def VlineKnownUptoCardSaid : Prop := Claim7.holds Tryd.pinned (.plain (OpenSpec.upto vlineKnownSpec)) vlineKnownUptoCard

/-- THE SECOND FORM's CARD OF 'rolodexlaw23.VlineReads'. -/
def vlineReadsUptoCard : Claim7 := { stood := { row := vlineReadsUptoRow, standIns := [], harness := (true, "ea735614785885c3308a9bcfc6bd04ea6b6e3cab2f449ee50eb3fe5f00b968ef"), looks := false }, kinds := [], alts := [], laidByText := true, laidKinds := [.data, .pinned], laidTests := true, laidLooks := .later }
def VlineReadsUptoCardSaid : Prop := Claim7.holds Tryd.pinned (.plain (OpenSpec.upto vlineReadsSpec)) vlineReadsUptoCard

/-- THE SECOND FORM's CARD OF 'rolodexlaw23.VlinePrints'. -/
def vlinePrintsUptoCard : Claim7 := { stood := { row := vlinePrintsUptoRow, standIns := [], harness := (true, "ea735614785885c3308a9bcfc6bd04ea6b6e3cab2f449ee50eb3fe5f00b968ef"), looks := false }, kinds := [], alts := [], laidByText := true, laidKinds := [.data, .pinned], laidTests := true, laidLooks := .later }
def VlinePrintsUptoCardSaid : Prop := Claim7.holds Tryd.pinned (.plain (OpenSpec.upto vlinePrintsSpec)) vlinePrintsUptoCard

/-- THE SECOND FORM's CARD OF 'rolodexlaw23.VlineFolds'. -/
def vlineFoldsUptoCard : Claim7 := { stood := { row := vlineFoldsUptoRow, standIns := [], harness := (true, "ea735614785885c3308a9bcfc6bd04ea6b6e3cab2f449ee50eb3fe5f00b968ef"), looks := false }, kinds := [], alts := [], laidByText := true, laidKinds := [.data, .pinned], laidTests := true, laidLooks := .later }
def VlineFoldsUptoCardSaid : Prop := Claim7.holds Tryd.pinned (.plain (OpenSpec.upto vlineFoldsSpec)) vlineFoldsUptoCard

/-- THE SECOND FORM's CARD OF 'rolodexlaw23.VlineEscapes'. -/
def vlineEscapesUptoCard : Claim7 := { stood := { row := vlineEscapesUptoRow, standIns := [], harness := (true, "ea735614785885c3308a9bcfc6bd04ea6b6e3cab2f449ee50eb3fe5f00b968ef"), looks := false }, kinds := [], alts := [], laidByText := true, laidKinds := [.data, .pinned], laidTests := true, laidLooks := .later }
def VlineEscapesUptoCardSaid : Prop := Claim7.holds Tryd.pinned (.plain (OpenSpec.upto vlineEscapesSpec)) vlineEscapesUptoCard

/-- THE SECOND FORM's CARD OF 'rolodexlaw23.VlineEnds'. -/
def vlineEndsUptoCard : Claim7 := { stood := { row := vlineEndsUptoRow, standIns := [], harness := (true, "ea735614785885c3308a9bcfc6bd04ea6b6e3cab2f449ee50eb3fe5f00b968ef"), looks := false }, kinds := [], alts := [], laidByText := true, laidKinds := [.data, .pinned], laidTests := true, laidLooks := .later }
def VlineEndsUptoCardSaid : Prop := Claim7.holds Tryd.pinned (.plain (OpenSpec.upto vlineEndsSpec)) vlineEndsUptoCard

/-- THE SECOND FORM's CARD OF 'rolodexlaw23.VlineAnywhere'. -/
def vlineAnywhereUptoCard : Claim7 := { stood := { row := vlineAnywhereUptoRow, standIns := [], harness := (true, "ea735614785885c3308a9bcfc6bd04ea6b6e3cab2f449ee50eb3fe5f00b968ef"), looks := false }, kinds := [], alts := [], laidByText := true, laidKinds := [.data, .pinned], laidTests := true, laidLooks := .later }
def VlineAnywhereUptoCardSaid : Prop := Claim7.holds Tryd.pinned (.plain (OpenSpec.upto vlineAnywhereSpec)) vlineAnywhereUptoCard
end Rows
end Go.Proofs.YtmilkhdicmkmbaaDoor
