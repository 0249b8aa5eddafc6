/-
  DERIVED. GIVEN WITH THE SEED: THE CARDS: each row of YtmhblapchnldhaaDoorRows.lean that lists a variable, with what it lists TIED to the program's text (the seventh form; the later family's looks); each row that meets fmt, with fmt's text TOLD by the authors' own Lean function (tested against real Go, not proved from fmt's source: count such statements apart). THE CARD IS WHAT COUNTS. Prove the row's statement (the work); the ties are given (YtmhblapchnldhaaDoorTie.lean); close each card by the builder's one call (the guide's Derived/Test/ToyasCard.lean, 'card_holds'). Laid BY PROGRAM, IN A SANDBOX (cutbox-door.mjs). By AI agents, Wed Nov 11 2026. No macro, syntax, notation, axiom, sorry.
-/
import Derived.Test.YtmhblapchnldhaaDoorRows
import GoSem.ClaimSeven
namespace Go.Proofs.YtmhblapchnldhaaDoor
namespace Rows

/-- THE TIED CARD OF 'purlinlaw06.ArithValues'. -/
def arithValuesCard : Claim7 := { stood := { row := arithValuesRow, standIns := [], harness := (true, "b3b9aecf712445e9976c0ce9d25db62ccef80e896fff66dede19cdaa7ecf3d9f"), looks := false }, kinds := [], alts := [], laidByText := true, laidKinds := [.widerDeep], laidTests := true, laidLooks := .later }
def ArithValuesCardSaid : Prop := Claim7.holds Tryd.pinned (.plain (OpenSpec.ofChange arithValuesSpec)) arithValuesCard

/-- THE TIED CARD OF 'purlinlaw06.ArithReckons'. -/
def arithReckonsCard : Claim7 := { stood := { row := arithReckonsRow, standIns := [], harness := (true, "b3b9aecf712445e9976c0ce9d25db62ccef80e896fff66dede19cdaa7ecf3d9f"), looks := false }, kinds := [], alts := [], laidByText := true, laidKinds := [.widerDeep], laidTests := true, laidLooks := .later }
def ArithReckonsCardSaid : Prop := Claim7.holds Tryd.pinned (.plain (OpenSpec.ofChange arithReckonsSpec)) arithReckonsCard

/-- THE TIED CARD OF 'purlinlaw06.ArithDivides'. -/
def arithDividesCard : Claim7 := { stood := { row := arithDividesRow, standIns := [], harness := (true, "b3b9aecf712445e9976c0ce9d25db62ccef80e896fff66dede19cdaa7ecf3d9f"), looks := false }, kinds := [], alts := [], laidByText := true, laidKinds := [.widerDeep], laidTests := true, laidLooks := .later }
def ArithDividesCardSaid : Prop := Claim7.holds Tryd.pinned (.plain (OpenSpec.ofChange arithDividesSpec)) arithDividesCard

/-- THE TIED CARD OF 'purlinlaw06.ArithOpposites'. -/
def arithOppositesCard : Claim7 := { stood := { row := arithOppositesRow, standIns := [], harness := (true, "b3b9aecf712445e9976c0ce9d25db62ccef80e896fff66dede19cdaa7ecf3d9f"), looks := false }, kinds := [], alts := [], laidByText := true, laidKinds := [.widerDeep], laidTests := true, laidLooks := .later }
def ArithOppositesCardSaid : Prop := Claim7.holds Tryd.pinned (.plain (OpenSpec.ofChange arithOppositesSpec)) arithOppositesCard

/-- THE TIED CARD OF 'purlinlaw06.ArithMore'. -/
def arithMoreCard : Claim7 := { stood := { row := arithMoreRow, standIns := [], harness := (true, "b3b9aecf712445e9976c0ce9d25db62ccef80e896fff66dede19cdaa7ecf3d9f"), looks := false }, kinds := [], alts := [], laidByText := true, laidKinds := [.widerDeep], laidTests := true, laidLooks := .later }
def ArithMoreCardSaid : Prop := Claim7.holds Tryd.pinned (.plain (OpenSpec.ofChange arithMoreSpec)) arithMoreCard

/-- THE TIED CARD OF 'purlinlaw06.ArithGuards'. -/
def arithGuardsCard : Claim7 := { stood := { row := arithGuardsRow, standIns := [], harness := (true, "b3b9aecf712445e9976c0ce9d25db62ccef80e896fff66dede19cdaa7ecf3d9f"), looks := false }, kinds := [], alts := [], laidByText := true, laidKinds := [.widerDeep], laidTests := true, laidLooks := .later }
def ArithGuardsCardSaid : Prop := Claim7.holds Tryd.pinned (.plain (OpenSpec.ofChange arithGuardsSpec)) arithGuardsCard

/-- THE SECOND FORM's CARD OF 'purlinlaw06.ArithValues'. -/
def arithValuesUptoCard : Claim7 := { stood := { row := arithValuesUptoRow, standIns := [], harness := (true, "b3b9aecf712445e9976c0ce9d25db62ccef80e896fff66dede19cdaa7ecf3d9f"), looks := false }, kinds := [], alts := [], laidByText := true, laidKinds := [.widerDeep], laidTests := true, laidLooks := .later }
def ArithValuesUptoCardSaid : Prop := Claim7.holds Tryd.pinned (.plain (OpenSpec.upto arithValuesSpec)) arithValuesUptoCard

/-- THE SECOND FORM's CARD OF 'purlinlaw06.ArithReckons'. -/
def arithReckonsUptoCard : Claim7 := { stood := { row := arithReckonsUptoRow, standIns := [], harness := (true, "b3b9aecf712445e9976c0ce9d25db62ccef80e896fff66dede19cdaa7ecf3d9f"), looks := false }, kinds := [], alts := [], laidByText := true, laidKinds := [.widerDeep], laidTests := true, laidLooks := .later }
def ArithReckonsUptoCardSaid : Prop := Claim7.holds Tryd.pinned (.plain (OpenSpec.upto arithReckonsSpec)) arithReckonsUptoCard

/-- THE SECOND FORM's CARD OF 'purlinlaw06.ArithDivides'. -/
def arithDividesUptoCard : Claim7 := { stood := { row := arithDividesUptoRow, standIns := [], harness := (true, "b3b9aecf712445e9976c0ce9d25db62ccef80e896fff66dede19cdaa7ecf3d9f"), looks := false }, kinds := [], alts := [], laidByText := true, laidKinds := [.widerDeep], laidTests := true, laidLooks := .later }
def ArithDividesUptoCardSaid : Prop := Claim7.holds Tryd.pinned (.plain (OpenSpec.upto arithDividesSpec)) arithDividesUptoCard

/-- THE SECOND FORM's CARD OF 'purlinlaw06.ArithOpposites'. -/
def arithOppositesUptoCard : Claim7 := { stood := { row := arithOppositesUptoRow, standIns := [], harness := (true, "b3b9aecf712445e9976c0ce9d25db62ccef80e896fff66dede19cdaa7ecf3d9f"), looks := false }, kinds := [], alts := [], laidByText := true, laidKinds := [.widerDeep], laidTests := true, laidLooks := .later }
def ArithOppositesUptoCardSaid : Prop := Claim7.holds Tryd.pinned (.plain (OpenSpec.upto arithOppositesSpec)) arithOppositesUptoCard

/-- THE SECOND FORM's CARD OF 'purlinlaw06.ArithMore'. -/
def arithMoreUptoCard : Claim7 := { stood := { row := arithMoreUptoRow, standIns := [], harness := (true, "b3b9aecf712445e9976c0ce9d25db62ccef80e896fff66dede19cdaa7ecf3d9f"), looks := false }, kinds := [], alts := [], laidByText := true, laidKinds := [.widerDeep], laidTests := true, laidLooks := .later }
def ArithMoreUptoCardSaid : Prop := Claim7.holds Tryd.pinned (.plain (OpenSpec.upto arithMoreSpec)) arithMoreUptoCard

/-- THE SECOND FORM's CARD OF 'purlinlaw06.ArithGuards'. -/
def arithGuardsUptoCard : Claim7 := { stood := { row := arithGuardsUptoRow, standIns := [], harness := (true, "b3b9aecf712445e9976c0ce9d25db62ccef80e896fff66dede19cdaa7ecf3d9f"), looks := false }, kinds := [], alts := [], laidByText := true, laidKinds := [.widerDeep], laidTests := true, laidLooks := .later }
def ArithGuardsUptoCardSaid : Prop := Claim7.holds Tryd.pinned (.plain (OpenSpec.upto arithGuardsSpec)) arithGuardsUptoCard
end Rows
end Go.Proofs.YtmhblapchnldhaaDoor
