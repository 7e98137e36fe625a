/-
  DERIVED. GIVEN WITH THE SEED: THE CARDS: each row of YtpkdnmjcommbmaaDoorRows.lean that lists a variable, with what it lists TIED to the program's text (the seventh form; the later family's looks); each row that meets fmt, with fmt's text TOLD by the authors' own Lean function (tested against real Go, not proved from fmt's source: count such statements apart). THE CARD IS WHAT COUNTS. Prove the row's statement (the work); the ties are given (YtpkdnmjcommbmaaDoorTie.lean); close each card by the builder's one call (the guide's Derived/Test/ToyasCard.lean, 'card_holds'). Laid BY PROGRAM, IN A SANDBOX (cutbox-door.mjs). By AI agents, Wed Nov 11 2026. No macro, syntax, notation, axiom, sorry.
-/
import Derived.Test.YtpkdnmjcommbmaaDoorRows
import GoSem.ClaimSeven
namespace Go.Proofs.YtpkdnmjcommbmaaDoor
namespace Rows

/-- THE TIED CARD OF 'foolscaplaw29.CsvEnds'. -/
def csvEndsCard : Claim7 := { stood := { row := csvEndsRow, standIns := [], harness := (true, "e992dab0d041b04c05cc203303af6a77898ab45e6cd18e70e7be04fcd546c37d"), looks := false }, kinds := [], alts := [], laidByText := true, laidKinds := [.data, .pinned], laidTests := true, laidLooks := .later }
def CsvEndsCardSaid : Prop := Claim7.holds Tryd.pinned (.plain (OpenSpec.ofChange csvEndsSpec)) csvEndsCard

/-- THE TIED CARD OF 'foolscaplaw29.CsvRefuses'. -/
def csvRefusesCard : Claim7 := { stood := { row := csvRefusesRow, standIns := [], harness := (true, "e992dab0d041b04c05cc203303af6a77898ab45e6cd18e70e7be04fcd546c37d"), looks := false }, kinds := [], alts := [], laidByText := true, laidKinds := [.data, .pinned], laidTests := true, laidLooks := .later }
def CsvRefusesCardSaid : Prop := Claim7.holds Tryd.pinned (.plain (OpenSpec.ofChange csvRefusesSpec)) csvRefusesCard

/-- THE SECOND FORM's CARD OF 'foolscaplaw29.CsvEnds'. -/
def csvEndsUptoCard : Claim7 := { stood := { row := csvEndsUptoRow, standIns := [], harness := (true, "e992dab0d041b04c05cc203303af6a77898ab45e6cd18e70e7be04fcd546c37d"), looks := false }, kinds := [], alts := [], laidByText := true, laidKinds := [.data, .pinned], laidTests := true, laidLooks := .later }
def CsvEndsUptoCardSaid : Prop := Claim7.holds Tryd.pinned (.plain (OpenSpec.upto csvEndsSpec)) csvEndsUptoCard

/-- THE SECOND FORM's CARD OF 'foolscaplaw29.CsvRefuses'. -/
def csvRefusesUptoCard : Claim7 := { stood := { row := csvRefusesUptoRow, standIns := [], harness := (true, "e992dab0d041b04c05cc203303af6a77898ab45e6cd18e70e7be04fcd546c37d"), looks := false }, kinds := [], alts := [], laidByText := true, laidKinds := [.data, .pinned], laidTests := true, laidLooks := .later }
def CsvRefusesUptoCardSaid : Prop := Claim7.holds Tryd.pinned (.plain (OpenSpec.upto csvRefusesSpec)) csvRefusesUptoCard
end Rows
end Go.Proofs.YtpkdnmjcommbmaaDoor
