/-
  DERIVED. GIVEN WITH THE SEED: THE CARDS: each row of YtkdccglaeegdaaaDoorRows.lean that lists a variable, with what it lists TIED to the program's text (the seventh form; the later family's looks); each row that meets fmt, with fmt's text TOLD by the authors' own Lean function (tested against real Go, not proved from fmt's source: count such statements apart). THE CARD IS WHAT COUNTS. Prove the row's statement (the work); the ties are given (YtkdccglaeegdaaaDoorTie.lean); close each card by the builder's one call (the guide's Derived/Test/ToyasCard.lean, 'card_holds'). Laid BY PROGRAM, IN A SANDBOX (cutbox-door.mjs). By AI agents, Wed Nov 11 2026. No macro, syntax, notation, axiom, sorry.
-/
import Derived.Test.YtkdccglaeegdaaaDoorRows
import GoSem.ClaimSeven
namespace Go.Proofs.YtkdccglaeegdaaaDoor
namespace Rows

/-- THE TIED CARD OF 'purlintop.TopCarries'. -/
def topCarriesCard : Claim7 := { stood := { row := topCarriesRow, standIns := [], harness := (true, "20d0b5b1c04c30c6d07cea6e860ff9108f30fa484018987beedc45f859a2e8e4"), looks := false }, kinds := [], alts := [], laidByText := true, laidKinds := [.widerDeep], laidTests := true, laidLooks := .later }
def TopCarriesCardSaid : Prop := Claim7.holds Tryd.pinned (.plain (OpenSpec.ofChange topCarriesSpec)) topCarriesCard

/-- THE SECOND FORM's CARD OF 'purlintop.TopCarries'. -/
def topCarriesUptoCard : Claim7 := { stood := { row := topCarriesUptoRow, standIns := [], harness := (true, "20d0b5b1c04c30c6d07cea6e860ff9108f30fa484018987beedc45f859a2e8e4"), looks := false }, kinds := [], alts := [], laidByText := true, laidKinds := [.widerDeep], laidTests := true, laidLooks := .later }
def TopCarriesUptoCardSaid : Prop := Claim7.holds Tryd.pinned (.plain (OpenSpec.upto topCarriesSpec)) topCarriesUptoCard
end Rows
end Go.Proofs.YtkdccglaeegdaaaDoor
