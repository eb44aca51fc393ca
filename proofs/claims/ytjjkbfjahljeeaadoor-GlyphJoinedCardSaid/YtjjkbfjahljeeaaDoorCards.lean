/-
  DERIVED. GIVEN WITH THE SEED: THE CARDS: each row of YtjjkbfjahljeeaaDoorRows.lean that lists a variable, with what it lists TIED to the program's text (the seventh form; the later family's looks); each row that meets fmt, with fmt's text TOLD by the authors' own Lean function (tested against real Go, not proved from fmt's source: count such statements apart). THE CARD IS WHAT COUNTS. Prove the row's statement (the work); the ties are given (YtjjkbfjahljeeaaDoorTie.lean); close each card by the builder's one call (the guide's Derived/Test/ToyasCard.lean, 'card_holds'). Laid BY PROGRAM, IN A SANDBOX (cutbox-door.mjs). By AI agents, Wed Nov 11 2026. No macro, syntax, notation, axiom, sorry.
-/
import Derived.Test.YtjjkbfjahljeeaaDoorRows
import GoSem.ClaimSeven
namespace Go.Proofs.YtjjkbfjahljeeaaDoor
namespace Rows

/-- THE TIED CARD OF 'leavenlaw01.GlyphTells'. -/
def glyphTellsCard : Claim7 := { stood := { row := glyphTellsRow, standIns := [], harness := (true, "c150a8ea603fa81d90ce2b3b90cb77d183138c614e8e0257fa13bf035285e886"), looks := false }, kinds := [], alts := [], laidByText := true, laidKinds := [.data, .pinned], laidTests := true, laidLooks := .later }
def GlyphTellsCardSaid : Prop := Claim7.holds Tryd.pinned (.plain (OpenSpec.ofChange glyphTellsSpec)) glyphTellsCard

/-- THE TIED CARD OF 'leavenlaw01.GlyphReads'. -/
def glyphReadsCard : Claim7 := { stood := { row := glyphReadsRow, standIns := [], harness := (true, "c150a8ea603fa81d90ce2b3b90cb77d183138c614e8e0257fa13bf035285e886"), looks := false }, kinds := [], alts := [], laidByText := true, laidKinds := [.data, .pinned], laidTests := true, laidLooks := .later }
def GlyphReadsCardSaid : Prop := Claim7.holds Tryd.pinned (.plain (OpenSpec.ofChange glyphReadsSpec)) glyphReadsCard

/-- THE TIED CARD OF 'leavenlaw01.GlyphPlaces'. -/
def glyphPlacesCard : Claim7 := { stood := { row := glyphPlacesRow, standIns := [], harness := (true, "c150a8ea603fa81d90ce2b3b90cb77d183138c614e8e0257fa13bf035285e886"), looks := false }, kinds := [], alts := [], laidByText := true, laidKinds := [.data, .pinned], laidTests := true, laidLooks := .later }
def GlyphPlacesCardSaid : Prop := Claim7.holds Tryd.pinned (.plain (OpenSpec.ofChange glyphPlacesSpec)) glyphPlacesCard

/-- THE TIED CARD OF 'leavenlaw01.GlyphBack'. -/
def glyphBackCard : Claim7 := { stood := { row := glyphBackRow, standIns := [], harness := (true, "c150a8ea603fa81d90ce2b3b90cb77d183138c614e8e0257fa13bf035285e886"), looks := false }, kinds := [], alts := [], laidByText := true, laidKinds := [.data, .pinned], laidTests := true, laidLooks := .later }
def GlyphBackCardSaid : Prop := Claim7.holds Tryd.pinned (.plain (OpenSpec.ofChange glyphBackSpec)) glyphBackCard

/-- THE TIED CARD OF 'leavenlaw01.GlyphLines'. -/
def glyphLinesCard : Claim7 := { stood := { row := glyphLinesRow, standIns := [], harness := (true, "c150a8ea603fa81d90ce2b3b90cb77d183138c614e8e0257fa13bf035285e886"), looks := false }, kinds := [], alts := [], laidByText := true, laidKinds := [.data, .pinned], laidTests := true, laidLooks := .later }
def GlyphLinesCardSaid : Prop := Claim7.holds Tryd.pinned (.plain (OpenSpec.ofChange glyphLinesSpec)) glyphLinesCard

/-- THE TIED CARD OF 'leavenlaw01.GlyphMore'. -/
def glyphMoreCard : Claim7 := { stood := { row := glyphMoreRow, standIns := [], harness := (true, "c150a8ea603fa81d90ce2b3b90cb77d183138c614e8e0257fa13bf035285e886"), looks := false }, kinds := [], alts := [], laidByText := true, laidKinds := [.data, .pinned], laidTests := true, laidLooks := .later }
def GlyphMoreCardSaid : Prop := Claim7.holds Tryd.pinned (.plain (OpenSpec.ofChange glyphMoreSpec)) glyphMoreCard

/-- THE TIED CARD OF 'leavenlaw01.GlyphJoined'. -/
def glyphJoinedCard : Claim7 := { stood := { row := glyphJoinedRow, standIns := [], harness := (true, "c150a8ea603fa81d90ce2b3b90cb77d183138c614e8e0257fa13bf035285e886"), looks := false }, kinds := [], alts := [], laidByText := true, laidKinds := [.data, .pinned], laidTests := true, laidLooks := .later }
def GlyphJoinedCardSaid : Prop := Claim7.holds Tryd.pinned (.plain (OpenSpec.ofChange glyphJoinedSpec)) glyphJoinedCard

/-- THE TIED CARD OF 'leavenlaw01.GlyphTexts'. -/
def glyphTextsCard : Claim7 := { stood := { row := glyphTextsRow, standIns := [], harness := (true, "c150a8ea603fa81d90ce2b3b90cb77d183138c614e8e0257fa13bf035285e886"), looks := false }, kinds := [], alts := [], laidByText := true, laidKinds := [.data, .pinned], laidTests := true, laidLooks := .later }
def GlyphTextsCardSaid : Prop := Claim7.holds Tryd.pinned (.plain (OpenSpec.ofChange glyphTextsSpec)) glyphTextsCard

/-- THE SECOND FORM's CARD OF 'leavenlaw01.GlyphTells'. -/
def glyphTellsUptoCard : Claim7 := { stood := { row := glyphTellsUptoRow, standIns := [], harness := (true, "c150a8ea603fa81d90ce2b3b90cb77d183138c614e8e0257fa13bf035285e886"), looks := false }, kinds := [], alts := [], laidByText := true, laidKinds := [.data, .pinned], laidTests := true, laidLooks := .later }
def GlyphTellsUptoCardSaid : Prop := Claim7.holds Tryd.pinned (.plain (OpenSpec.upto glyphTellsSpec)) glyphTellsUptoCard

/-- THE SECOND FORM's CARD OF 'leavenlaw01.GlyphReads'. -/
def glyphReadsUptoCard : Claim7 := { stood := { row := glyphReadsUptoRow, standIns := [], harness := (true, "c150a8ea603fa81d90ce2b3b90cb77d183138c614e8e0257fa13bf035285e886"), looks := false }, kinds := [], alts := [], laidByText := true, laidKinds := [.data, .pinned], laidTests := true, laidLooks := .later }
def GlyphReadsUptoCardSaid : Prop := Claim7.holds Tryd.pinned (.plain (OpenSpec.upto glyphReadsSpec)) glyphReadsUptoCard

/-- THE SECOND FORM's CARD OF 'leavenlaw01.GlyphPlaces'. -/
def glyphPlacesUptoCard : Claim7 := { stood := { row := glyphPlacesUptoRow, standIns := [], harness := (true, "c150a8ea603fa81d90ce2b3b90cb77d183138c614e8e0257fa13bf035285e886"), looks := false }, kinds := [], alts := [], laidByText := true, laidKinds := [.data, .pinned], laidTests := true, laidLooks := .later }
def GlyphPlacesUptoCardSaid : Prop := Claim7.holds Tryd.pinned (.plain (OpenSpec.upto glyphPlacesSpec)) glyphPlacesUptoCard

/-- THE SECOND FORM's CARD OF 'leavenlaw01.GlyphBack'. -/
def glyphBackUptoCard : Claim7 := { stood := { row := glyphBackUptoRow, standIns := [], harness := (true, "c150a8ea603fa81d90ce2b3b90cb77d183138c614e8e0257fa13bf035285e886"), looks := false }, kinds := [], alts := [], laidByText := true, laidKinds := [.data, .pinned], laidTests := true, laidLooks := .later }
def GlyphBackUptoCardSaid : Prop := Claim7.holds Tryd.pinned (.plain (OpenSpec.upto glyphBackSpec)) glyphBackUptoCard

/-- THE SECOND FORM's CARD OF 'leavenlaw01.GlyphLines'. -/
def glyphLinesUptoCard : Claim7 := { stood := { row := glyphLinesUptoRow, standIns := [], harness := (true, "c150a8ea603fa81d90ce2b3b90cb77d183138c614e8e0257fa13bf035285e886"), looks := false }, kinds := [], alts := [], laidByText := true, laidKinds := [.data, .pinned], laidTests := true, laidLooks := .later }
def GlyphLinesUptoCardSaid : Prop := Claim7.holds Tryd.pinned (.plain (OpenSpec.upto glyphLinesSpec)) glyphLinesUptoCard

/-- THE SECOND FORM's CARD OF 'leavenlaw01.GlyphMore'. -/
def glyphMoreUptoCard : Claim7 := { stood := { row := glyphMoreUptoRow, standIns := [], harness := (true, "c150a8ea603fa81d90ce2b3b90cb77d183138c614e8e0257fa13bf035285e886"), looks := false }, kinds := [], alts := [], laidByText := true, laidKinds := [.data, .pinned], laidTests := true, laidLooks := .later }
def GlyphMoreUptoCardSaid : Prop := Claim7.holds Tryd.pinned (.plain (OpenSpec.upto glyphMoreSpec)) glyphMoreUptoCard

/-- THE SECOND FORM's CARD OF 'leavenlaw01.GlyphJoined'. -/
def glyphJoinedUptoCard : Claim7 := { stood := { row := glyphJoinedUptoRow, standIns := [], harness := (true, "c150a8ea603fa81d90ce2b3b90cb77d183138c614e8e0257fa13bf035285e886"), looks := false }, kinds := [], alts := [], laidByText := true, laidKinds := [.data, .pinned], laidTests := true, laidLooks := .later }
def GlyphJoinedUptoCardSaid : Prop := Claim7.holds Tryd.pinned (.plain (OpenSpec.upto glyphJoinedSpec)) glyphJoinedUptoCard

/-- THE SECOND FORM's CARD OF 'leavenlaw01.GlyphTexts'. -/
def glyphTextsUptoCard : Claim7 := { stood := { row := glyphTextsUptoRow, standIns := [], harness := (true, "c150a8ea603fa81d90ce2b3b90cb77d183138c614e8e0257fa13bf035285e886"), looks := false }, kinds := [], alts := [], laidByText := true, laidKinds := [.data, .pinned], laidTests := true, laidLooks := .later }
def GlyphTextsUptoCardSaid : Prop := Claim7.holds Tryd.pinned (.plain (OpenSpec.upto glyphTextsSpec)) glyphTextsUptoCard
end Rows
end Go.Proofs.YtjjkbfjahljeeaaDoor
