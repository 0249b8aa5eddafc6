/-
  DERIVED. GIVEN WITH THE SEED: THE CARDS: each row of YtoofpbdalgopgaaDoorRows.lean that lists a variable, with what it lists TIED to the program's text (the seventh form; the later family's looks); each row that meets fmt, with fmt's text TOLD by the authors' own Lean function (tested against real Go, not proved from fmt's source: count such statements apart). THE CARD IS WHAT COUNTS. Prove the row's statement (the work); the ties are given (YtoofpbdalgopgaaDoorTie.lean); close each card by the builder's one call (the guide's Derived/Test/ToyasCard.lean, 'card_holds'). Laid BY PROGRAM, IN A SANDBOX (cutbox-door.mjs). By AI agents, Wed Nov 11 2026. No macro, syntax, notation, axiom, sorry.
-/
import Derived.Test.YtoofpbdalgopgaaDoorRows
import GoSem.ClaimSeven
namespace Go.Proofs.YtoofpbdalgopgaaDoor
namespace Rows

/-- THE TIED CARD OF 'purlinlaw11.WirePrefix'. -/
def wirePrefixCard : Claim7 := { stood := { row := wirePrefixRow, standIns := [], harness := (true, "8b14f0780078fa065d8024558f8251bc1d0a54bd36d4c76a1d96ceedd948f4c8"), looks := false }, kinds := [], alts := [], laidByText := true, laidKinds := [.widerDeep], laidTests := true, laidLooks := .later }
def WirePrefixCardSaid : Prop := Claim7.holds Tryd.pinned (.plain (OpenSpec.ofChange wirePrefixSpec)) wirePrefixCard

/-- THE TIED CARD OF 'purlinlaw11.WireOwn'. -/
def wireOwnCard : Claim7 := { stood := { row := wireOwnRow, standIns := [], harness := (true, "8b14f0780078fa065d8024558f8251bc1d0a54bd36d4c76a1d96ceedd948f4c8"), looks := false }, kinds := [], alts := [], laidByText := true, laidKinds := [.widerDeep], laidTests := true, laidLooks := .later }
def WireOwnCardSaid : Prop := Claim7.holds Tryd.pinned (.plain (OpenSpec.ofChange wireOwnSpec)) wireOwnCard

/-- THE TIED CARD OF 'purlinlaw11.WireTerms'. -/
def wireTermsCard : Claim7 := { stood := { row := wireTermsRow, standIns := [], harness := (true, "8b14f0780078fa065d8024558f8251bc1d0a54bd36d4c76a1d96ceedd948f4c8"), looks := false }, kinds := [], alts := [], laidByText := true, laidKinds := [.widerDeep], laidTests := true, laidLooks := .later }
def WireTermsCardSaid : Prop := Claim7.holds Tryd.pinned (.plain (OpenSpec.ofChange wireTermsSpec)) wireTermsCard

/-- THE TIED CARD OF 'purlinlaw11.WireMessages'. -/
def wireMessagesCard : Claim7 := { stood := { row := wireMessagesRow, standIns := [], harness := (true, "8b14f0780078fa065d8024558f8251bc1d0a54bd36d4c76a1d96ceedd948f4c8"), looks := false }, kinds := [], alts := [], laidByText := true, laidKinds := [.widerDeep], laidTests := true, laidLooks := .later }
def WireMessagesCardSaid : Prop := Claim7.holds Tryd.pinned (.plain (OpenSpec.ofChange wireMessagesSpec)) wireMessagesCard

/-- THE TIED CARD OF 'purlinlaw11.WireBack'. -/
def wireBackCard : Claim7 := { stood := { row := wireBackRow, standIns := [], harness := (true, "8b14f0780078fa065d8024558f8251bc1d0a54bd36d4c76a1d96ceedd948f4c8"), looks := false }, kinds := [], alts := [], laidByText := true, laidKinds := [.widerDeep], laidTests := true, laidLooks := .later }
def WireBackCardSaid : Prop := Claim7.holds Tryd.pinned (.plain (OpenSpec.ofChange wireBackSpec)) wireBackCard

/-- THE SECOND FORM's CARD OF 'purlinlaw11.WirePrefix'. -/
def wirePrefixUptoCard : Claim7 := { stood := { row := wirePrefixUptoRow, standIns := [], harness := (true, "8b14f0780078fa065d8024558f8251bc1d0a54bd36d4c76a1d96ceedd948f4c8"), looks := false }, kinds := [], alts := [], laidByText := true, laidKinds := [.widerDeep], laidTests := true, laidLooks := .later }
def WirePrefixUptoCardSaid : Prop := Claim7.holds Tryd.pinned (.plain (OpenSpec.upto wirePrefixSpec)) wirePrefixUptoCard

/-- THE SECOND FORM's CARD OF 'purlinlaw11.WireOwn'. -/
def wireOwnUptoCard : Claim7 := { stood := { row := wireOwnUptoRow, standIns := [], harness := (true, "8b14f0780078fa065d8024558f8251bc1d0a54bd36d4c76a1d96ceedd948f4c8"), looks := false }, kinds := [], alts := [], laidByText := true, laidKinds := [.widerDeep], laidTests := true, laidLooks := .later }
def WireOwnUptoCardSaid : Prop := Claim7.holds Tryd.pinned (.plain (OpenSpec.upto wireOwnSpec)) wireOwnUptoCard

/-- THE SECOND FORM's CARD OF 'purlinlaw11.WireTerms'. -/
def wireTermsUptoCard : Claim7 := { stood := { row := wireTermsUptoRow, standIns := [], harness := (true, "8b14f0780078fa065d8024558f8251bc1d0a54bd36d4c76a1d96ceedd948f4c8"), looks := false }, kinds := [], alts := [], laidByText := true, laidKinds := [.widerDeep], laidTests := true, laidLooks := .later }
def WireTermsUptoCardSaid : Prop := Claim7.holds Tryd.pinned (.plain (OpenSpec.upto wireTermsSpec)) wireTermsUptoCard

/-- THE SECOND FORM's CARD OF 'purlinlaw11.WireMessages'. -/
def wireMessagesUptoCard : Claim7 := { stood := { row := wireMessagesUptoRow, standIns := [], harness := (true, "8b14f0780078fa065d8024558f8251bc1d0a54bd36d4c76a1d96ceedd948f4c8"), looks := false }, kinds := [], alts := [], laidByText := true, laidKinds := [.widerDeep], laidTests := true, laidLooks := .later }
def WireMessagesUptoCardSaid : Prop := Claim7.holds Tryd.pinned (.plain (OpenSpec.upto wireMessagesSpec)) wireMessagesUptoCard

/-- THE SECOND FORM's CARD OF 'purlinlaw11.WireBack'. -/
def wireBackUptoCard : Claim7 := { stood := { row := wireBackUptoRow, standIns := [], harness := (true, "8b14f0780078fa065d8024558f8251bc1d0a54bd36d4c76a1d96ceedd948f4c8"), looks := false }, kinds := [], alts := [], laidByText := true, laidKinds := [.widerDeep], laidTests := true, laidLooks := .later }
def WireBackUptoCardSaid : Prop := Claim7.holds Tryd.pinned (.plain (OpenSpec.upto wireBackSpec)) wireBackUptoCard
end Rows
end Go.Proofs.YtoofpbdalgopgaaDoor
