/-
  DERIVED. GIVEN WITH THE SEED: THE CARDS: each row of YtpjoppajohmmnaaDoorRows.lean that lists a variable, with what it lists TIED to the program's text (the seventh form; the later family's looks); each row that meets fmt, with fmt's text TOLD by the authors' own Lean function (tested against real Go, not proved from fmt's source: count such statements apart). THE CARD IS WHAT COUNTS. Prove the row's statement (the work); the ties are given (YtpjoppajohmmnaaDoorTie.lean); close each card by the builder's one call (the guide's Derived/Test/ToyasCard.lean, 'card_holds'). Laid BY PROGRAM, IN A SANDBOX (cutbox-door.mjs). By AI agents, Wed Nov 11 2026. No macro, syntax, notation, axiom, sorry.
-/
import Derived.Test.YtpjoppajohmmnaaDoorRows
import GoSem.ClaimSeven
namespace Go.Proofs.YtpjoppajohmmnaaDoor
namespace Rows

/-- THE TIED CARD OF 'purlinlaw04.CheckPrograms'. -/
def checkProgramsCard : Claim7 := { stood := { row := checkProgramsRow, standIns := [], harness := (true, "ec086c8904e30365f3b35d5301a5e40f9df1cadcf736c2fdcb4cfc86112d2a61"), looks := false }, kinds := [], alts := [], laidByText := true, laidKinds := [.widerDeep], laidTests := true, laidLooks := .later }
def CheckProgramsCardSaid : Prop := Claim7.holds Tryd.pinned (.plain (OpenSpec.ofChange checkProgramsSpec)) checkProgramsCard

/-- THE TIED CARD OF 'purlinlaw04.CheckOrder'. -/
def checkOrderCard : Claim7 := { stood := { row := checkOrderRow, standIns := [], harness := (true, "ec086c8904e30365f3b35d5301a5e40f9df1cadcf736c2fdcb4cfc86112d2a61"), looks := false }, kinds := [], alts := [], laidByText := true, laidKinds := [.widerDeep], laidTests := true, laidLooks := .later }
def CheckOrderCardSaid : Prop := Claim7.holds Tryd.pinned (.plain (OpenSpec.ofChange checkOrderSpec)) checkOrderCard

/-- THE TIED CARD OF 'purlinlaw04.CheckTerms'. -/
def checkTermsCard : Claim7 := { stood := { row := checkTermsRow, standIns := [], harness := (true, "ec086c8904e30365f3b35d5301a5e40f9df1cadcf736c2fdcb4cfc86112d2a61"), looks := false }, kinds := [], alts := [], laidByText := true, laidKinds := [.widerDeep], laidTests := true, laidLooks := .later }
def CheckTermsCardSaid : Prop := Claim7.holds Tryd.pinned (.plain (OpenSpec.ofChange checkTermsSpec)) checkTermsCard

/-- THE TIED CARD OF 'purlinlaw04.CheckCalls'. -/
def checkCallsCard : Claim7 := { stood := { row := checkCallsRow, standIns := [], harness := (true, "ec086c8904e30365f3b35d5301a5e40f9df1cadcf736c2fdcb4cfc86112d2a61"), looks := false }, kinds := [], alts := [], laidByText := true, laidKinds := [.widerDeep], laidTests := true, laidLooks := .later }
def CheckCallsCardSaid : Prop := Claim7.holds Tryd.pinned (.plain (OpenSpec.ofChange checkCallsSpec)) checkCallsCard

/-- THE TIED CARD OF 'purlinlaw04.CheckReached'. -/
def checkReachedCard : Claim7 := { stood := { row := checkReachedRow, standIns := [], harness := (true, "ec086c8904e30365f3b35d5301a5e40f9df1cadcf736c2fdcb4cfc86112d2a61"), looks := false }, kinds := [], alts := [], laidByText := true, laidKinds := [.widerDeep], laidTests := true, laidLooks := .later }
def CheckReachedCardSaid : Prop := Claim7.holds Tryd.pinned (.plain (OpenSpec.ofChange checkReachedSpec)) checkReachedCard

/-- THE SECOND FORM's CARD OF 'purlinlaw04.CheckPrograms'. -/
def checkProgramsUptoCard : Claim7 := { stood := { row := checkProgramsUptoRow, standIns := [], harness := (true, "ec086c8904e30365f3b35d5301a5e40f9df1cadcf736c2fdcb4cfc86112d2a61"), looks := false }, kinds := [], alts := [], laidByText := true, laidKinds := [.widerDeep], laidTests := true, laidLooks := .later }
def CheckProgramsUptoCardSaid : Prop := Claim7.holds Tryd.pinned (.plain (OpenSpec.upto checkProgramsSpec)) checkProgramsUptoCard

/-- THE SECOND FORM's CARD OF 'purlinlaw04.CheckOrder'. -/
def checkOrderUptoCard : Claim7 := { stood := { row := checkOrderUptoRow, standIns := [], harness := (true, "ec086c8904e30365f3b35d5301a5e40f9df1cadcf736c2fdcb4cfc86112d2a61"), looks := false }, kinds := [], alts := [], laidByText := true, laidKinds := [.widerDeep], laidTests := true, laidLooks := .later }
def CheckOrderUptoCardSaid : Prop := Claim7.holds Tryd.pinned (.plain (OpenSpec.upto checkOrderSpec)) checkOrderUptoCard

/-- THE SECOND FORM's CARD OF 'purlinlaw04.CheckTerms'. -/
def checkTermsUptoCard : Claim7 := { stood := { row := checkTermsUptoRow, standIns := [], harness := (true, "ec086c8904e30365f3b35d5301a5e40f9df1cadcf736c2fdcb4cfc86112d2a61"), looks := false }, kinds := [], alts := [], laidByText := true, laidKinds := [.widerDeep], laidTests := true, laidLooks := .later }
def CheckTermsUptoCardSaid : Prop := Claim7.holds Tryd.pinned (.plain (OpenSpec.upto checkTermsSpec)) checkTermsUptoCard

/-- THE SECOND FORM's CARD OF 'purlinlaw04.CheckCalls'. -/
def checkCallsUptoCard : Claim7 := { stood := { row := checkCallsUptoRow, standIns := [], harness := (true, "ec086c8904e30365f3b35d5301a5e40f9df1cadcf736c2fdcb4cfc86112d2a61"), looks := false }, kinds := [], alts := [], laidByText := true, laidKinds := [.widerDeep], laidTests := true, laidLooks := .later }
def CheckCallsUptoCardSaid : Prop := Claim7.holds Tryd.pinned (.plain (OpenSpec.upto checkCallsSpec)) checkCallsUptoCard

/-- THE SECOND FORM's CARD OF 'purlinlaw04.CheckReached'. -/
def checkReachedUptoCard : Claim7 := { stood := { row := checkReachedUptoRow, standIns := [], harness := (true, "ec086c8904e30365f3b35d5301a5e40f9df1cadcf736c2fdcb4cfc86112d2a61"), looks := false }, kinds := [], alts := [], laidByText := true, laidKinds := [.widerDeep], laidTests := true, laidLooks := .later }
def CheckReachedUptoCardSaid : Prop := Claim7.holds Tryd.pinned (.plain (OpenSpec.upto checkReachedSpec)) checkReachedUptoCard
end Rows
end Go.Proofs.YtpjoppajohmmnaaDoor
