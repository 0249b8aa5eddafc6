/-
  DERIVED. GIVEN WITH THE SEED: THE CARDS: each row of YtfcmmgldkanliaaDoorRows.lean that lists a variable, with what it lists TIED to the program's text (the seventh form; the later family's looks); each row that meets fmt, with fmt's text TOLD by the authors' own Lean function (tested against real Go, not proved from fmt's source: count such statements apart). THE CARD IS WHAT COUNTS. Prove the row's statement (the work); the ties are given (YtfcmmgldkanliaaDoorTie.lean); close each card by the builder's one call (the guide's Derived/Test/ToyasCard.lean, 'card_holds'). Laid BY PROGRAM, IN A SANDBOX (cutbox-door.mjs). By AI agents, Wed Nov 11 2026. No macro, syntax, notation, axiom, sorry.
-/
import Derived.Test.YtfcmmgldkanliaaDoorRows
import GoSem.ClaimSeven
namespace Go.Proofs.YtfcmmgldkanliaaDoor
namespace Rows

/-- THE TIED CARD OF 'purlinlaw01.TermNames'. -/
def termNamesCard : Claim7 := { stood := { row := termNamesRow, standIns := [], harness := (true, "7c8a6142cd8f879316402e3dbaf5d5c5dbf919cf8e5c2fe8b8ae1ce58ef28c75"), looks := false }, kinds := [], alts := [], laidByText := true, laidKinds := [.widerDeep], laidTests := true, laidLooks := .later }
def TermNamesCardSaid : Prop := Claim7.holds Tryd.pinned (.plain (OpenSpec.ofChange termNamesSpec)) termNamesCard

/-- THE TIED CARD OF 'purlinlaw01.TermMakes'. -/
def termMakesCard : Claim7 := { stood := { row := termMakesRow, standIns := [], harness := (true, "7c8a6142cd8f879316402e3dbaf5d5c5dbf919cf8e5c2fe8b8ae1ce58ef28c75"), looks := false }, kinds := [], alts := [], laidByText := true, laidKinds := [.widerDeep], laidTests := true, laidLooks := .later }
def TermMakesCardSaid : Prop := Claim7.holds Tryd.pinned (.plain (OpenSpec.ofChange termMakesSpec)) termMakesCard

/-- THE TIED CARD OF 'purlinlaw01.TermBack'. -/
def termBackCard : Claim7 := { stood := { row := termBackRow, standIns := [], harness := (true, "7c8a6142cd8f879316402e3dbaf5d5c5dbf919cf8e5c2fe8b8ae1ce58ef28c75"), looks := false }, kinds := [], alts := [], laidByText := true, laidKinds := [.widerDeep], laidTests := true, laidLooks := .later }
def TermBackCardSaid : Prop := Claim7.holds Tryd.pinned (.plain (OpenSpec.ofChange termBackSpec)) termBackCard

/-- THE TIED CARD OF 'purlinlaw01.TermPuts'. -/
def termPutsCard : Claim7 := { stood := { row := termPutsRow, standIns := [], harness := (true, "7c8a6142cd8f879316402e3dbaf5d5c5dbf919cf8e5c2fe8b8ae1ce58ef28c75"), looks := false }, kinds := [], alts := [], laidByText := true, laidKinds := [.widerDeep], laidTests := true, laidLooks := .later }
def TermPutsCardSaid : Prop := Claim7.holds Tryd.pinned (.plain (OpenSpec.ofChange termPutsSpec)) termPutsCard

/-- THE TIED CARD OF 'purlinlaw01.TermVars'. -/
def termVarsCard : Claim7 := { stood := { row := termVarsRow, standIns := [], harness := (true, "7c8a6142cd8f879316402e3dbaf5d5c5dbf919cf8e5c2fe8b8ae1ce58ef28c75"), looks := false }, kinds := [], alts := [], laidByText := true, laidKinds := [.widerDeep], laidTests := true, laidLooks := .later }
def TermVarsCardSaid : Prop := Claim7.holds Tryd.pinned (.plain (OpenSpec.ofChange termVarsSpec)) termVarsCard

/-- THE TIED CARD OF 'purlinlaw01.TermOwn'. -/
def termOwnCard : Claim7 := { stood := { row := termOwnRow, standIns := [], harness := (true, "7c8a6142cd8f879316402e3dbaf5d5c5dbf919cf8e5c2fe8b8ae1ce58ef28c75"), looks := false }, kinds := [], alts := [], laidByText := true, laidKinds := [.widerDeep], laidTests := true, laidLooks := .later }
def TermOwnCardSaid : Prop := Claim7.holds Tryd.pinned (.plain (OpenSpec.ofChange termOwnSpec)) termOwnCard

/-- THE SECOND FORM's CARD OF 'purlinlaw01.TermNames'. -/
def termNamesUptoCard : Claim7 := { stood := { row := termNamesUptoRow, standIns := [], harness := (true, "7c8a6142cd8f879316402e3dbaf5d5c5dbf919cf8e5c2fe8b8ae1ce58ef28c75"), looks := false }, kinds := [], alts := [], laidByText := true, laidKinds := [.widerDeep], laidTests := true, laidLooks := .later }
def TermNamesUptoCardSaid : Prop := Claim7.holds Tryd.pinned (.plain (OpenSpec.upto termNamesSpec)) termNamesUptoCard

/-- THE SECOND FORM's CARD OF 'purlinlaw01.TermMakes'. -/
def termMakesUptoCard : Claim7 := { stood := { row := termMakesUptoRow, standIns := [], harness := (true, "7c8a6142cd8f879316402e3dbaf5d5c5dbf919cf8e5c2fe8b8ae1ce58ef28c75"), looks := false }, kinds := [], alts := [], laidByText := true, laidKinds := [.widerDeep], laidTests := true, laidLooks := .later }
def TermMakesUptoCardSaid : Prop := Claim7.holds Tryd.pinned (.plain (OpenSpec.upto termMakesSpec)) termMakesUptoCard

/-- THE SECOND FORM's CARD OF 'purlinlaw01.TermBack'. -/
def termBackUptoCard : Claim7 := { stood := { row := termBackUptoRow, standIns := [], harness := (true, "7c8a6142cd8f879316402e3dbaf5d5c5dbf919cf8e5c2fe8b8ae1ce58ef28c75"), looks := false }, kinds := [], alts := [], laidByText := true, laidKinds := [.widerDeep], laidTests := true, laidLooks := .later }
def TermBackUptoCardSaid : Prop := Claim7.holds Tryd.pinned (.plain (OpenSpec.upto termBackSpec)) termBackUptoCard

/-- THE SECOND FORM's CARD OF 'purlinlaw01.TermPuts'. -/
def termPutsUptoCard : Claim7 := { stood := { row := termPutsUptoRow, standIns := [], harness := (true, "7c8a6142cd8f879316402e3dbaf5d5c5dbf919cf8e5c2fe8b8ae1ce58ef28c75"), looks := false }, kinds := [], alts := [], laidByText := true, laidKinds := [.widerDeep], laidTests := true, laidLooks := .later }
def TermPutsUptoCardSaid : Prop := Claim7.holds Tryd.pinned (.plain (OpenSpec.upto termPutsSpec)) termPutsUptoCard

/-- THE SECOND FORM's CARD OF 'purlinlaw01.TermVars'. -/
def termVarsUptoCard : Claim7 := { stood := { row := termVarsUptoRow, standIns := [], harness := (true, "7c8a6142cd8f879316402e3dbaf5d5c5dbf919cf8e5c2fe8b8ae1ce58ef28c75"), looks := false }, kinds := [], alts := [], laidByText := true, laidKinds := [.widerDeep], laidTests := true, laidLooks := .later }
def TermVarsUptoCardSaid : Prop := Claim7.holds Tryd.pinned (.plain (OpenSpec.upto termVarsSpec)) termVarsUptoCard

/-- THE SECOND FORM's CARD OF 'purlinlaw01.TermOwn'. -/
def termOwnUptoCard : Claim7 := { stood := { row := termOwnUptoRow, standIns := [], harness := (true, "7c8a6142cd8f879316402e3dbaf5d5c5dbf919cf8e5c2fe8b8ae1ce58ef28c75"), looks := false }, kinds := [], alts := [], laidByText := true, laidKinds := [.widerDeep], laidTests := true, laidLooks := .later }
def TermOwnUptoCardSaid : Prop := Claim7.holds Tryd.pinned (.plain (OpenSpec.upto termOwnSpec)) termOwnUptoCard
end Rows
end Go.Proofs.YtfcmmgldkanliaaDoor
