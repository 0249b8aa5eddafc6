/-
  DERIVED. GIVEN WITH THE SEED: THE CARDS: each row of YtphdgjglofapbaaDoorRows.lean that lists a variable, with what it lists TIED to the program's text (the seventh form; the later family's looks); each row that meets fmt, with fmt's text TOLD by the authors' own Lean function (tested against real Go, not proved from fmt's source: count such statements apart). THE CARD IS WHAT COUNTS. Prove the row's statement (the work); the ties are given (YtphdgjglofapbaaDoorTie.lean); close each card by the builder's one call (the guide's Derived/Test/ToyasCard.lean, 'card_holds'). Laid BY PROGRAM, IN A SANDBOX (cutbox-door.mjs). By AI agents, Wed Nov 11 2026. No macro, syntax, notation, axiom, sorry.
-/
import Derived.Test.YtphdgjglofapbaaDoorRows
import GoSem.ClaimSeven
namespace Go.Proofs.YtphdgjglofapbaaDoor
namespace Rows

/-- THE TIED CARD OF 'purlintop.TopSums'. -/
def topSumsCard : Claim7 := { stood := { row := topSumsRow, standIns := [], harness := (true, "3c29b43ef89a27934080c50dbfd1552dcd989492d5f17fe6d10914a9f31a2cd4"), looks := true }, kinds := [], alts := [], laidByText := true, laidKinds := [.widerDeep], laidTests := true, laidLooks := .later }
def TopSumsCardSaid : Prop := Claim7.holds Tryd.pinned (.plain (OpenSpec.ofChange topSumsSpec)) topSumsCard

/-- THE TIED CARD OF 'purlintop.TopHeads'. -/
def topHeadsCard : Claim7 := { stood := { row := topHeadsRow, standIns := [], harness := (true, "3c29b43ef89a27934080c50dbfd1552dcd989492d5f17fe6d10914a9f31a2cd4"), looks := true }, kinds := [], alts := [], laidByText := true, laidKinds := [.widerDeep], laidTests := true, laidLooks := .later }
def TopHeadsCardSaid : Prop := Claim7.holds Tryd.pinned (.plain (OpenSpec.ofChange topHeadsSpec)) topHeadsCard

/-- THE TIED CARD OF 'purlintop.TopCarries'. -/
def topCarriesCard : Claim7 := { stood := { row := topCarriesRow, standIns := [], harness := (true, "3c29b43ef89a27934080c50dbfd1552dcd989492d5f17fe6d10914a9f31a2cd4"), looks := true }, kinds := [], alts := [], laidByText := true, laidKinds := [.widerDeep], laidTests := true, laidLooks := .later }
def TopCarriesCardSaid : Prop := Claim7.holds Tryd.pinned (.plain (OpenSpec.ofChange topCarriesSpec)) topCarriesCard

/-- THE SECOND FORM's CARD OF 'purlintop.TopSums'. -/
def topSumsUptoCard : Claim7 := { stood := { row := topSumsUptoRow, standIns := [], harness := (true, "3c29b43ef89a27934080c50dbfd1552dcd989492d5f17fe6d10914a9f31a2cd4"), looks := true }, kinds := [], alts := [], laidByText := true, laidKinds := [.widerDeep], laidTests := true, laidLooks := .later }
def TopSumsUptoCardSaid : Prop := Claim7.holds Tryd.pinned (.plain (OpenSpec.upto topSumsSpec)) topSumsUptoCard

/-- THE SECOND FORM's CARD OF 'purlintop.TopHeads'. -/
def topHeadsUptoCard : Claim7 := { stood := { row := topHeadsUptoRow, standIns := [], harness := (true, "3c29b43ef89a27934080c50dbfd1552dcd989492d5f17fe6d10914a9f31a2cd4"), looks := true }, kinds := [], alts := [], laidByText := true, laidKinds := [.widerDeep], laidTests := true, laidLooks := .later }
def TopHeadsUptoCardSaid : Prop := Claim7.holds Tryd.pinned (.plain (OpenSpec.upto topHeadsSpec)) topHeadsUptoCard

/-- THE SECOND FORM's CARD OF 'purlintop.TopCarries'. -/
def topCarriesUptoCard : Claim7 := { stood := { row := topCarriesUptoRow, standIns := [], harness := (true, "3c29b43ef89a27934080c50dbfd1552dcd989492d5f17fe6d10914a9f31a2cd4"), looks := true }, kinds := [], alts := [], laidByText := true, laidKinds := [.widerDeep], laidTests := true, laidLooks := .later }
def TopCarriesUptoCardSaid : Prop := Claim7.holds Tryd.pinned (.plain (OpenSpec.upto topCarriesSpec)) topCarriesUptoCard
end Rows
end Go.Proofs.YtphdgjglofapbaaDoor
