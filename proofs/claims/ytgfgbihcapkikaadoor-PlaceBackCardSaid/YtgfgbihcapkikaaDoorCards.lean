/-
  DERIVED. GIVEN WITH THE SEED: THE CARDS: each row of YtgfgbihcapkikaaDoorRows.lean that lists a variable, with what it lists TIED to the program's text (the seventh form; the later family's looks); each row that meets fmt, with fmt's text TOLD by the authors' own Lean function (tested against real Go, not proved from fmt's source: count such statements apart). THE CARD IS WHAT COUNTS. Prove the row's statement (the work); the ties are given (YtgfgbihcapkikaaDoorTie.lean); close each card by the builder's one call (the guide's Derived/Test/ToyasCard.lean, 'card_holds'). Laid BY PROGRAM, IN A SANDBOX (cutbox-door.mjs). By AI agents, Wed Nov 11 2026. No macro, syntax, notation, axiom, sorry.
-/
import Derived.Test.YtgfgbihcapkikaaDoorRows
import GoSem.ClaimSeven
namespace Go.Proofs.YtgfgbihcapkikaaDoor
namespace Rows

/-- THE TIED CARD OF 'foolscaplaw05.PlaceCells'. -/
def placeCellsCard : Claim7 := { stood := { row := placeCellsRow, standIns := [], harness := (true, "3d944ce6966ca92d50179d8923cc5c723ef9b2cda4e0e67c1cc17168c83bcde6"), looks := true }, kinds := [], alts := [], laidByText := true, laidKinds := [.data, .data, .data, .sentinel, .sentinel], laidTests := true, laidLooks := .later }
def PlaceCellsCardSaid : Prop := Claim7.holds Tryd.pinned (.plain (OpenSpec.ofChange placeCellsSpec)) placeCellsCard

/-- THE TIED CARD OF 'foolscaplaw05.PlaceBack'. -/
def placeBackCard : Claim7 := { stood := { row := placeBackRow, standIns := [], harness := (true, "3d944ce6966ca92d50179d8923cc5c723ef9b2cda4e0e67c1cc17168c83bcde6"), looks := true }, kinds := [], alts := [], laidByText := true, laidKinds := [.data, .data, .data, .sentinel, .sentinel], laidTests := true, laidLooks := .later }
def PlaceBackCardSaid : Prop := Claim7.holds Tryd.pinned (.plain (OpenSpec.ofChange placeBackSpec)) placeBackCard

/-- THE SECOND FORM's CARD OF 'foolscaplaw05.PlaceCells'. -/
def placeCellsUptoCard : Claim7 := { stood := { row := placeCellsUptoRow, standIns := [], harness := (true, "3d944ce6966ca92d50179d8923cc5c723ef9b2cda4e0e67c1cc17168c83bcde6"), looks := true }, kinds := [], alts := [], laidByText := true, laidKinds := [.data, .data, .data, .sentinel, .sentinel], laidTests := true, laidLooks := .later }
def PlaceCellsUptoCardSaid : Prop := Claim7.holds Tryd.pinned (.plain (OpenSpec.upto placeCellsSpec)) placeCellsUptoCard

/-- THE SECOND FORM's CARD OF 'foolscaplaw05.PlaceBack'. -/
def placeBackUptoCard : Claim7 := { stood := { row := placeBackUptoRow, standIns := [], harness := (true, "3d944ce6966ca92d50179d8923cc5c723ef9b2cda4e0e67c1cc17168c83bcde6"), looks := true }, kinds := [], alts := [], laidByText := true, laidKinds := [.data, .data, .data, .sentinel, .sentinel], laidTests := true, laidLooks := .later }
def PlaceBackUptoCardSaid : Prop := Claim7.holds Tryd.pinned (.plain (OpenSpec.upto placeBackSpec)) placeBackUptoCard
end Rows
end Go.Proofs.YtgfgbihcapkikaaDoor
