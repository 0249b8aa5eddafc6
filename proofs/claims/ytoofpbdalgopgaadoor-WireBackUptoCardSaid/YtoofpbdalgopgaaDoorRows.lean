/-
  NARROWER THAN 'FOR EVERY INPUT', by the rows' own cells (each row's printed sentence says how): WirePrefix: laid · WireOwn: laid · WireTerms: laid · WireMessages: laid · WireBack: laid.
  DERIVED. THE GIVEN ROWS OF THIS SEAT. 5 by the template 'for every input the law returns true; each argument reads behind the call as it read before'; 0 by the template 'total and deterministic' (their statements: YtoofpbdalgopgaaDoorTotals.lean).
  GIVEN WITH THE SEED: the statements are not yours to turn. If you find one false, say at which input.
  Laid BY PROGRAM, IN A SANDBOX (cutbox-rows.mjs): the forced cells as the released guide's own fill.sh prints them over the translation cfeeca16f7345205… (all of the seat's roots in one cut). By AI agents, Wed Nov 11 2026. No macro, syntax, notation, axiom, sorry.
-/
import Derived.Test.YtoofpbdalgopgaaDoorChecked
import GoSem.Claim
import GoSem.ClaimJoined
import GoSem.ClaimMapViews
import Derived.JoinedTies
import Derived.KernelRfl
namespace Go.Proofs.YtoofpbdalgopgaaDoor
/- THE CELL 'sum', in the pinned program and in every row, IS THE sha256 OF THE DUMP (.gsa) THAT YtoofpbdalgopgaaDoorProg.lean LOADS. Nothing in Lean hashes anything: it is a label: what it is worth is what the hold of that sum in a sandbox is worth. -/
noncomputable def Tryd.pinned : Pinned := { name := "ytoofpbdalgopgaadoor", sum := "cfeeca16f734520556bf3fdd017d04290d9b677c292be4f0a6aef41e56932133", checked := Tryd.checked }
namespace Rows
def none {H : Type} : Left H := { results := [], args := [] }

/- WHAT THE LISTED PACKAGE-LEVEL VARIABLES READ AS WHEN THE CALL BEGINS. Each datum BY PROGRAM (the guide's laid-datum.mjs) off the statement by which the dump's own 'gosem.cut.vars' lays the variable. In a bare row this is a premise. The card (YtoofpbdalgopgaaDoorCards.lean) ties it to the program's text. -/
def laid_purlin_term_signs {H : Type} : DataW H := .agg [.lit (.string [61]), .lit (.string [58, 61]), .lit (.string [64]), .lit (.string [43]), .lit (.string [45]), .lit (.string [42]), .lit (.string [60]), .lit (.string [61, 60]), .lit (.string [62]), .lit (.string [62, 61]), .lit (.string [61, 58, 61]), .lit (.string [61, 92, 61])]

/-- 'purlinlaw11.WirePrefix': WHATEVER THE INPUT: true; the input reads as it did. -/
def wirePrefixSpec : ChangeSpec := { name := "wirePrefix", fn := fun _ => fun
  | [d1, d2] => { results := [.lit (.bool true)], args := [d1, d2] }
  | _ => none }
def wirePrefixRow : OpenClaim := { program := "ytoofpbdalgopgaadoor", sum := "cfeeca16f734520556bf3fdd017d04290d9b677c292be4f0a6aef41e56932133", func := "purlin/purlinlaw11.WirePrefix", spec := "wirePrefix", unfollowed := true, recurses := true, named := ["purlin/term.signs"], apart := false, laid := [("purlin/term.signs", laid_purlin_term_signs)] }
def WirePrefixSaid : Prop := wirePrefixRow.holds Tryd.pinned (OpenSpec.ofChange wirePrefixSpec)

/-- ITS FALSE NEIGHBOUR: 'it returns false'. Refute it at one input. -/
def wirePrefixWrong : ChangeSpec := { name := "wirePrefix", fn := fun _ => fun
  | [d1, d2] => { results := [.lit (.bool false)], args := [d1, d2] }
  | _ => none }
def WirePrefixWrongFalsely : Prop := wirePrefixRow.holds Tryd.pinned (OpenSpec.ofChange wirePrefixWrong)

/-- 'purlinlaw11.WireOwn': WHATEVER THE INPUT: true; the input reads as it did. -/
def wireOwnSpec : ChangeSpec := { name := "wireOwn", fn := fun _ => fun
  | [d] => { results := [.lit (.bool true)], args := [d] }
  | _ => none }
def wireOwnRow : OpenClaim := { program := "ytoofpbdalgopgaadoor", sum := "cfeeca16f734520556bf3fdd017d04290d9b677c292be4f0a6aef41e56932133", func := "purlin/purlinlaw11.WireOwn", spec := "wireOwn", unfollowed := true, recurses := true, named := ["purlin/term.signs"], apart := false, laid := [("purlin/term.signs", laid_purlin_term_signs)] }
def WireOwnSaid : Prop := wireOwnRow.holds Tryd.pinned (OpenSpec.ofChange wireOwnSpec)

/-- ITS FALSE NEIGHBOUR: 'it returns false'. Refute it at one input. -/
def wireOwnWrong : ChangeSpec := { name := "wireOwn", fn := fun _ => fun
  | [d] => { results := [.lit (.bool false)], args := [d] }
  | _ => none }
def WireOwnWrongFalsely : Prop := wireOwnRow.holds Tryd.pinned (OpenSpec.ofChange wireOwnWrong)

/-- 'purlinlaw11.WireTerms': WHATEVER THE INPUT: true; the input reads as it did. -/
def wireTermsSpec : ChangeSpec := { name := "wireTerms", fn := fun _ => fun
  | [d] => { results := [.lit (.bool true)], args := [d] }
  | _ => none }
def wireTermsRow : OpenClaim := { program := "ytoofpbdalgopgaadoor", sum := "cfeeca16f734520556bf3fdd017d04290d9b677c292be4f0a6aef41e56932133", func := "purlin/purlinlaw11.WireTerms", spec := "wireTerms", unfollowed := true, recurses := true, named := ["purlin/term.signs"], apart := false, laid := [("purlin/term.signs", laid_purlin_term_signs)] }
def WireTermsSaid : Prop := wireTermsRow.holds Tryd.pinned (OpenSpec.ofChange wireTermsSpec)

/-- ITS FALSE NEIGHBOUR: 'it returns false'. Refute it at one input. -/
def wireTermsWrong : ChangeSpec := { name := "wireTerms", fn := fun _ => fun
  | [d] => { results := [.lit (.bool false)], args := [d] }
  | _ => none }
def WireTermsWrongFalsely : Prop := wireTermsRow.holds Tryd.pinned (OpenSpec.ofChange wireTermsWrong)

/-- 'purlinlaw11.WireMessages': WHATEVER THE INPUT: true; the input reads as it did. -/
def wireMessagesSpec : ChangeSpec := { name := "wireMessages", fn := fun _ => fun
  | [d] => { results := [.lit (.bool true)], args := [d] }
  | _ => none }
def wireMessagesRow : OpenClaim := { program := "ytoofpbdalgopgaadoor", sum := "cfeeca16f734520556bf3fdd017d04290d9b677c292be4f0a6aef41e56932133", func := "purlin/purlinlaw11.WireMessages", spec := "wireMessages", unfollowed := true, recurses := true, named := ["purlin/term.signs"], apart := false, laid := [("purlin/term.signs", laid_purlin_term_signs)] }
def WireMessagesSaid : Prop := wireMessagesRow.holds Tryd.pinned (OpenSpec.ofChange wireMessagesSpec)

/-- ITS FALSE NEIGHBOUR: 'it returns false'. Refute it at one input. -/
def wireMessagesWrong : ChangeSpec := { name := "wireMessages", fn := fun _ => fun
  | [d] => { results := [.lit (.bool false)], args := [d] }
  | _ => none }
def WireMessagesWrongFalsely : Prop := wireMessagesRow.holds Tryd.pinned (OpenSpec.ofChange wireMessagesWrong)

/-- 'purlinlaw11.WireBack': WHATEVER THE INPUT: true; the input reads as it did. -/
def wireBackSpec : ChangeSpec := { name := "wireBack", fn := fun _ => fun
  | [d1, d2, d3] => { results := [.lit (.bool true)], args := [d1, d2, d3] }
  | _ => none }
def wireBackRow : OpenClaim := { program := "ytoofpbdalgopgaadoor", sum := "cfeeca16f734520556bf3fdd017d04290d9b677c292be4f0a6aef41e56932133", func := "purlin/purlinlaw11.WireBack", spec := "wireBack", unfollowed := true, recurses := true, named := ["purlin/term.signs"], apart := false, laid := [("purlin/term.signs", laid_purlin_term_signs)] }
def WireBackSaid : Prop := wireBackRow.holds Tryd.pinned (OpenSpec.ofChange wireBackSpec)

/-- ITS FALSE NEIGHBOUR: 'it returns false'. Refute it at one input. -/
def wireBackWrong : ChangeSpec := { name := "wireBack", fn := fun _ => fun
  | [d1, d2, d3] => { results := [.lit (.bool false)], args := [d1, d2, d3] }
  | _ => none }
def WireBackWrongFalsely : Prop := wireBackRow.holds Tryd.pinned (OpenSpec.ofChange wireBackWrong)

/- THE SECOND FORM. 'bulk': how many values and letters a reading holds, each counted each time it is reached (what is shared counts as often as it is met; a slice's spare places count too). A statement '..UptoSaid' is the law's where the arguments, and the package variables that the reading takes, are together of bulk at most 1048576: NARROWER than '..Said'. Prove '..Said' where nothing that the law and all that it calls make is longer than what came in: it says more and counts as full. Else prove '..UptoSaid'. A law counts once. -/
mutual
def uptoBulk {H : Type} : DataW H → Nat
  | .lit (.string bytes) => bytes.length + 1
  | .lit _ => 1
  | .nil => 1
  | .ptr d => uptoBulk d + 1
  | .slice elems spare => uptoBulkAll elems + uptoBulkAll spare + 1
  | .agg parts => uptoBulkAll parts + 1
  | .iface _ d => uptoBulk d + 1
  | .map entries => uptoBulkEntries entries + 1
  | .held _ => 1
def uptoBulkAll {H : Type} : List (DataW H) → Nat
  | [] => 0
  | d :: r => uptoBulk d + uptoBulkAll r
def uptoBulkEntries {H : Type} : List (Lit × DataW H) → Nat
  | [] => 0
  | x :: r => uptoBulkEntry x + uptoBulkEntries r
def uptoBulkEntry {H : Type} : Lit × DataW H → Nat
  | (.string bytes, d) => bytes.length + uptoBulk d + 1
  | (_, d) => uptoBulk d + 1
 end
def uptoSmall : (H : Type) → List (DataW H) → Bool := fun _ ds => decide (uptoBulkAll ds ≤ 1048576)
def OpenSpec.upto (s : _root_.Go.ChangeSpec) : _root_.Go.OpenSpec := { _root_.Go.OpenSpec.ofChange s with cond := some uptoSmall }

/-- 'purlinlaw11.WirePrefix', WHERE WHAT IT READS IS OF BULK AT MOST 1048576: true; the input reads as it did. -/
def wirePrefixUptoRow : OpenClaim := { program := "ytoofpbdalgopgaadoor", sum := "cfeeca16f734520556bf3fdd017d04290d9b677c292be4f0a6aef41e56932133", func := "purlin/purlinlaw11.WirePrefix", spec := "wirePrefix", unfollowed := true, recurses := true, named := ["purlin/term.signs"], apart := false, laid := [("purlin/term.signs", laid_purlin_term_signs)], narrowed := true }
def WirePrefixUptoSaid : Prop := wirePrefixUptoRow.holds Tryd.pinned (OpenSpec.upto wirePrefixSpec)

/-- 'purlinlaw11.WireOwn', WHERE WHAT IT READS IS OF BULK AT MOST 1048576: true; the input reads as it did. -/
def wireOwnUptoRow : OpenClaim := { program := "ytoofpbdalgopgaadoor", sum := "cfeeca16f734520556bf3fdd017d04290d9b677c292be4f0a6aef41e56932133", func := "purlin/purlinlaw11.WireOwn", spec := "wireOwn", unfollowed := true, recurses := true, named := ["purlin/term.signs"], apart := false, laid := [("purlin/term.signs", laid_purlin_term_signs)], narrowed := true }
def WireOwnUptoSaid : Prop := wireOwnUptoRow.holds Tryd.pinned (OpenSpec.upto wireOwnSpec)

/-- 'purlinlaw11.WireTerms', WHERE WHAT IT READS IS OF BULK AT MOST 1048576: true; the input reads as it did. -/
def wireTermsUptoRow : OpenClaim := { program := "ytoofpbdalgopgaadoor", sum := "cfeeca16f734520556bf3fdd017d04290d9b677c292be4f0a6aef41e56932133", func := "purlin/purlinlaw11.WireTerms", spec := "wireTerms", unfollowed := true, recurses := true, named := ["purlin/term.signs"], apart := false, laid := [("purlin/term.signs", laid_purlin_term_signs)], narrowed := true }
def WireTermsUptoSaid : Prop := wireTermsUptoRow.holds Tryd.pinned (OpenSpec.upto wireTermsSpec)

/-- 'purlinlaw11.WireMessages', WHERE WHAT IT READS IS OF BULK AT MOST 1048576: true; the input reads as it did. -/
def wireMessagesUptoRow : OpenClaim := { program := "ytoofpbdalgopgaadoor", sum := "cfeeca16f734520556bf3fdd017d04290d9b677c292be4f0a6aef41e56932133", func := "purlin/purlinlaw11.WireMessages", spec := "wireMessages", unfollowed := true, recurses := true, named := ["purlin/term.signs"], apart := false, laid := [("purlin/term.signs", laid_purlin_term_signs)], narrowed := true }
def WireMessagesUptoSaid : Prop := wireMessagesUptoRow.holds Tryd.pinned (OpenSpec.upto wireMessagesSpec)

/-- 'purlinlaw11.WireBack', WHERE WHAT IT READS IS OF BULK AT MOST 1048576: true; the input reads as it did. -/
def wireBackUptoRow : OpenClaim := { program := "ytoofpbdalgopgaadoor", sum := "cfeeca16f734520556bf3fdd017d04290d9b677c292be4f0a6aef41e56932133", func := "purlin/purlinlaw11.WireBack", spec := "wireBack", unfollowed := true, recurses := true, named := ["purlin/term.signs"], apart := false, laid := [("purlin/term.signs", laid_purlin_term_signs)], narrowed := true }
def WireBackUptoSaid : Prop := wireBackUptoRow.holds Tryd.pinned (OpenSpec.upto wireBackSpec)

end Rows
end Go.Proofs.YtoofpbdalgopgaaDoor
