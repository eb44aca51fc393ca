/-
  DERIVED. GIVEN WITH THE SEED: THE CARDS: each row of YthamcklkmchkiaaDoorRows.lean that lists a variable, with what it lists TIED to the program's text (the seventh form; the later family's looks); each row that meets fmt, with fmt's text TOLD by the authors' own Lean function (tested against real Go, not proved from fmt's source: count such statements apart). THE CARD IS WHAT COUNTS. Prove the row's statement (the work); the ties are given (YthamcklkmchkiaaDoorTie.lean); close each card by the builder's one call (the guide's Derived/Test/ToyasCard.lean, 'card_holds'). Laid BY PROGRAM, IN A SANDBOX (cutbox-door.mjs). By AI agents, Wed Nov 11 2026. No macro, syntax, notation, axiom, sorry.
-/
import Derived.Test.YthamcklkmchkiaaDoorRows
import GoSem.ClaimSeven
namespace Go.Proofs.YthamcklkmchkiaaDoor
namespace Rows

/-- THE TIED CARD OF 'leavenlaw21.ShowErrors'. -/
def showErrorsCard : Claim7 := { stood := { row := showErrorsRow, standIns := [], harness := (true, "5ceb0fa4f7a52a70a1710410907d7d994ed07d446337bf1509ef4590c68c9702"), looks := true }, kinds := [], alts := [], laidByText := true, laidKinds := [.data, .data, .data, .data, .listed, .data, .pinned], laidTests := true, laidLooks := .later }
def ShowErrorsCardSaid : Prop := Claim7.holds Tryd.pinned (.plain (OpenSpec.ofChange showErrorsSpec)) showErrorsCard

/-- THE TIED CARD OF 'leavenlaw21.ShowOne'. -/
def showOneCard : Claim7 := { stood := { row := showOneRow, standIns := [], harness := (true, "5ceb0fa4f7a52a70a1710410907d7d994ed07d446337bf1509ef4590c68c9702"), looks := true }, kinds := [], alts := [], laidByText := true, laidKinds := [.data, .data, .data, .data, .listed, .data, .pinned], laidTests := true, laidLooks := .later }
def ShowOneCardSaid : Prop := Claim7.holds Tryd.pinned (.plain (OpenSpec.ofChange showOneSpec)) showOneCard

/-- THE TIED CARD OF 'leavenlaw21.ShowPlaces'. -/
def showPlacesCard : Claim7 := { stood := { row := showPlacesRow, standIns := [], harness := (true, "5ceb0fa4f7a52a70a1710410907d7d994ed07d446337bf1509ef4590c68c9702"), looks := true }, kinds := [], alts := [], laidByText := true, laidKinds := [.data, .data, .data, .data, .listed, .data, .pinned], laidTests := true, laidLooks := .later }
def ShowPlacesCardSaid : Prop := Claim7.holds Tryd.pinned (.plain (OpenSpec.ofChange showPlacesSpec)) showPlacesCard

/-- THE TIED CARD OF 'leavenlaw21.ShowRows'. -/
def showRowsCard : Claim7 := { stood := { row := showRowsRow, standIns := [], harness := (true, "5ceb0fa4f7a52a70a1710410907d7d994ed07d446337bf1509ef4590c68c9702"), looks := true }, kinds := [], alts := [], laidByText := true, laidKinds := [.data, .data, .data, .data, .listed, .data, .pinned], laidTests := true, laidLooks := .later }
def ShowRowsCardSaid : Prop := Claim7.holds Tryd.pinned (.plain (OpenSpec.ofChange showRowsSpec)) showRowsCard

/-- THE TIED CARD OF 'leavenlaw21.ShowNumbers'. -/
def showNumbersCard : Claim7 := { stood := { row := showNumbersRow, standIns := [], harness := (true, "5ceb0fa4f7a52a70a1710410907d7d994ed07d446337bf1509ef4590c68c9702"), looks := true }, kinds := [], alts := [], laidByText := true, laidKinds := [.data, .data, .data, .data, .listed, .data, .pinned], laidTests := true, laidLooks := .later }
def ShowNumbersCardSaid : Prop := Claim7.holds Tryd.pinned (.plain (OpenSpec.ofChange showNumbersSpec)) showNumbersCard

/-- THE TIED CARD OF 'leavenlaw21.ShowTells'. -/
def showTellsCard : Claim7 := { stood := { row := showTellsRow, standIns := [], harness := (true, "5ceb0fa4f7a52a70a1710410907d7d994ed07d446337bf1509ef4590c68c9702"), looks := true }, kinds := [], alts := [], laidByText := true, laidKinds := [.data, .data, .data, .data, .listed, .data, .pinned], laidTests := true, laidLooks := .later }
def ShowTellsCardSaid : Prop := Claim7.holds Tryd.pinned (.plain (OpenSpec.ofChange showTellsSpec)) showTellsCard

/-- THE SECOND FORM's CARD OF 'leavenlaw21.ShowErrors'. -/
def showErrorsUptoCard : Claim7 := { stood := { row := showErrorsUptoRow, standIns := [], harness := (true, "5ceb0fa4f7a52a70a1710410907d7d994ed07d446337bf1509ef4590c68c9702"), looks := true }, kinds := [], alts := [], laidByText := true, laidKinds := [.data, .data, .data, .data, .listed, .data, .pinned], laidTests := true, laidLooks := .later }
def ShowErrorsUptoCardSaid : Prop := Claim7.holds Tryd.pinned (.plain (OpenSpec.upto showErrorsSpec)) showErrorsUptoCard

/-- THE SECOND FORM's CARD OF 'leavenlaw21.ShowOne'. -/
def showOneUptoCard : Claim7 := { stood := { row := showOneUptoRow, standIns := [], harness := (true, "5ceb0fa4f7a52a70a1710410907d7d994ed07d446337bf1509ef4590c68c9702"), looks := true }, kinds := [], alts := [], laidByText := true, laidKinds := [.data, .data, .data, .data, .listed, .data, .pinned], laidTests := true, laidLooks := .later }
def ShowOneUptoCardSaid : Prop := Claim7.holds Tryd.pinned (.plain (OpenSpec.upto showOneSpec)) showOneUptoCard

/-- THE SECOND FORM's CARD OF 'leavenlaw21.ShowPlaces'. -/
def showPlacesUptoCard : Claim7 := { stood := { row := showPlacesUptoRow, standIns := [], harness := (true, "5ceb0fa4f7a52a70a1710410907d7d994ed07d446337bf1509ef4590c68c9702"), looks := true }, kinds := [], alts := [], laidByText := true, laidKinds := [.data, .data, .data, .data, .listed, .data, .pinned], laidTests := true, laidLooks := .later }
def ShowPlacesUptoCardSaid : Prop := Claim7.holds Tryd.pinned (.plain (OpenSpec.upto showPlacesSpec)) showPlacesUptoCard

/-- THE SECOND FORM's CARD OF 'leavenlaw21.ShowRows'. -/
def showRowsUptoCard : Claim7 := { stood := { row := showRowsUptoRow, standIns := [], harness := (true, "5ceb0fa4f7a52a70a1710410907d7d994ed07d446337bf1509ef4590c68c9702"), looks := true }, kinds := [], alts := [], laidByText := true, laidKinds := [.data, .data, .data, .data, .listed, .data, .pinned], laidTests := true, laidLooks := .later }
def ShowRowsUptoCardSaid : Prop := Claim7.holds Tryd.pinned (.plain (OpenSpec.upto showRowsSpec)) showRowsUptoCard

/-- THE SECOND FORM's CARD OF 'leavenlaw21.ShowNumbers'. -/
def showNumbersUptoCard : Claim7 := { stood := { row := showNumbersUptoRow, standIns := [], harness := (true, "5ceb0fa4f7a52a70a1710410907d7d994ed07d446337bf1509ef4590c68c9702"), looks := true }, kinds := [], alts := [], laidByText := true, laidKinds := [.data, .data, .data, .data, .listed, .data, .pinned], laidTests := true, laidLooks := .later }
def ShowNumbersUptoCardSaid : Prop := Claim7.holds Tryd.pinned (.plain (OpenSpec.upto showNumbersSpec)) showNumbersUptoCard

/-- THE SECOND FORM's CARD OF 'leavenlaw21.ShowTells'. -/
def showTellsUptoCard : Claim7 := { stood := { row := showTellsUptoRow, standIns := [], harness := (true, "5ceb0fa4f7a52a70a1710410907d7d994ed07d446337bf1509ef4590c68c9702"), looks := true }, kinds := [], alts := [], laidByText := true, laidKinds := [.data, .data, .data, .data, .listed, .data, .pinned], laidTests := true, laidLooks := .later }
def ShowTellsUptoCardSaid : Prop := Claim7.holds Tryd.pinned (.plain (OpenSpec.upto showTellsSpec)) showTellsUptoCard
end Rows
end Go.Proofs.YthamcklkmchkiaaDoor
