/-
  NARROWER THAN 'FOR EVERY INPUT', by the rows' own cells (each row's printed sentence says how): TermNames: laid · TermMakes: laid · TermBack: laid · TermPuts: laid · TermVars: laid · TermOwn: laid.
  DERIVED. THE GIVEN ROWS OF THIS SEAT. 6 by the template 'for every input the law returns true; each argument reads behind the call as it read before'; 0 by the template 'total and deterministic' (their statements: YtfcmmgldkanliaaDoorTotals.lean).
  GIVEN WITH THE SEED: the statements are not yours to turn. If you find one false, say at which input.
  Laid BY PROGRAM, IN A SANDBOX (cutbox-rows.mjs): the forced cells as the released guide's own fill.sh prints them over the translation cf2498db3d0bb77c… (all of the seat's roots in one cut). By AI agents, Wed Nov 11 2026. No macro, syntax, notation, axiom, sorry.
-/
import Derived.Test.YtfcmmgldkanliaaDoorChecked
import GoSem.Claim
import GoSem.ClaimJoined
import GoSem.ClaimMapViews
import Derived.JoinedTies
import Derived.KernelRfl
namespace Go.Proofs.YtfcmmgldkanliaaDoor
/- THE CELL 'sum', in the pinned program and in every row, IS THE sha256 OF THE DUMP (.gsa) THAT YtfcmmgldkanliaaDoorProg.lean LOADS. Nothing in Lean hashes anything: it is a label: what it is worth is what the hold of that sum in a sandbox is worth. -/
noncomputable def Tryd.pinned : Pinned := { name := "ytfcmmgldkanliaadoor", sum := "cf2498db3d0bb77c000a2f8c968c887d4873b446d6d680a1aaf6ec62a20823b7", checked := Tryd.checked }
namespace Rows
def none {H : Type} : Left H := { results := [], args := [] }

/- WHAT THE LISTED PACKAGE-LEVEL VARIABLES READ AS WHEN THE CALL BEGINS. Each datum BY PROGRAM (the guide's laid-datum.mjs) off the statement by which the dump's own 'gosem.cut.vars' lays the variable. In a bare row this is a premise. The card (YtfcmmgldkanliaaDoorCards.lean) ties it to the program's text. -/
def laid_purlin_term_signs {H : Type} : DataW H := .agg [.lit (.string [61]), .lit (.string [58, 61]), .lit (.string [64]), .lit (.string [43]), .lit (.string [45]), .lit (.string [42]), .lit (.string [60]), .lit (.string [61, 60]), .lit (.string [62]), .lit (.string [62, 61]), .lit (.string [61, 58, 61]), .lit (.string [61, 92, 61])]

/-- 'purlinlaw01.TermNames': WHATEVER THE INPUT: true; the input reads as it did. -/
def termNamesSpec : ChangeSpec := { name := "termNames", fn := fun _ => fun
  | [d1, d2, d3] => { results := [.lit (.bool true)], args := [d1, d2, d3] }
  | _ => none }
def termNamesRow : OpenClaim := { program := "ytfcmmgldkanliaadoor", sum := "cf2498db3d0bb77c000a2f8c968c887d4873b446d6d680a1aaf6ec62a20823b7", func := "purlin/purlinlaw01.TermNames", spec := "termNames", unfollowed := true, recurses := true, named := ["purlin/term.signs"], apart := false, laid := [("purlin/term.signs", laid_purlin_term_signs)] }
def TermNamesSaid : Prop := termNamesRow.holds Tryd.pinned (OpenSpec.ofChange termNamesSpec)

/-- ITS FALSE NEIGHBOUR: 'it returns false'. Refute it at one input. -/
def termNamesWrong : ChangeSpec := { name := "termNames", fn := fun _ => fun
  | [d1, d2, d3] => { results := [.lit (.bool false)], args := [d1, d2, d3] }
  | _ => none }
def TermNamesWrongFalsely : Prop := termNamesRow.holds Tryd.pinned (OpenSpec.ofChange termNamesWrong)

/-- 'purlinlaw01.TermMakes': WHATEVER THE INPUT: true; the input reads as it did. -/
def termMakesSpec : ChangeSpec := { name := "termMakes", fn := fun _ => fun
  | [d1, d2, d3] => { results := [.lit (.bool true)], args := [d1, d2, d3] }
  | _ => none }
def termMakesRow : OpenClaim := { program := "ytfcmmgldkanliaadoor", sum := "cf2498db3d0bb77c000a2f8c968c887d4873b446d6d680a1aaf6ec62a20823b7", func := "purlin/purlinlaw01.TermMakes", spec := "termMakes", unfollowed := true, recurses := true, named := ["purlin/term.signs"], apart := false, laid := [("purlin/term.signs", laid_purlin_term_signs)] }
def TermMakesSaid : Prop := termMakesRow.holds Tryd.pinned (OpenSpec.ofChange termMakesSpec)

/-- ITS FALSE NEIGHBOUR: 'it returns false'. Refute it at one input. -/
def termMakesWrong : ChangeSpec := { name := "termMakes", fn := fun _ => fun
  | [d1, d2, d3] => { results := [.lit (.bool false)], args := [d1, d2, d3] }
  | _ => none }
def TermMakesWrongFalsely : Prop := termMakesRow.holds Tryd.pinned (OpenSpec.ofChange termMakesWrong)

/-- 'purlinlaw01.TermBack': WHATEVER THE INPUT: true; the input reads as it did. -/
def termBackSpec : ChangeSpec := { name := "termBack", fn := fun _ => fun
  | [d] => { results := [.lit (.bool true)], args := [d] }
  | _ => none }
def termBackRow : OpenClaim := { program := "ytfcmmgldkanliaadoor", sum := "cf2498db3d0bb77c000a2f8c968c887d4873b446d6d680a1aaf6ec62a20823b7", func := "purlin/purlinlaw01.TermBack", spec := "termBack", unfollowed := true, recurses := true, named := ["purlin/term.signs"], apart := false, laid := [("purlin/term.signs", laid_purlin_term_signs)] }
def TermBackSaid : Prop := termBackRow.holds Tryd.pinned (OpenSpec.ofChange termBackSpec)

/-- ITS FALSE NEIGHBOUR: 'it returns false'. Refute it at one input. -/
def termBackWrong : ChangeSpec := { name := "termBack", fn := fun _ => fun
  | [d] => { results := [.lit (.bool false)], args := [d] }
  | _ => none }
def TermBackWrongFalsely : Prop := termBackRow.holds Tryd.pinned (OpenSpec.ofChange termBackWrong)

/-- 'purlinlaw01.TermPuts': WHATEVER THE INPUT: true; the input reads as it did. -/
def termPutsSpec : ChangeSpec := { name := "termPuts", fn := fun _ => fun
  | [d1, d2] => { results := [.lit (.bool true)], args := [d1, d2] }
  | _ => none }
def termPutsRow : OpenClaim := { program := "ytfcmmgldkanliaadoor", sum := "cf2498db3d0bb77c000a2f8c968c887d4873b446d6d680a1aaf6ec62a20823b7", func := "purlin/purlinlaw01.TermPuts", spec := "termPuts", unfollowed := true, recurses := true, named := ["purlin/term.signs"], apart := false, laid := [("purlin/term.signs", laid_purlin_term_signs)] }
def TermPutsSaid : Prop := termPutsRow.holds Tryd.pinned (OpenSpec.ofChange termPutsSpec)

/-- ITS FALSE NEIGHBOUR: 'it returns false'. Refute it at one input. -/
def termPutsWrong : ChangeSpec := { name := "termPuts", fn := fun _ => fun
  | [d1, d2] => { results := [.lit (.bool false)], args := [d1, d2] }
  | _ => none }
def TermPutsWrongFalsely : Prop := termPutsRow.holds Tryd.pinned (OpenSpec.ofChange termPutsWrong)

/-- 'purlinlaw01.TermVars': WHATEVER THE INPUT: true; the input reads as it did. -/
def termVarsSpec : ChangeSpec := { name := "termVars", fn := fun _ => fun
  | [d1, d2] => { results := [.lit (.bool true)], args := [d1, d2] }
  | _ => none }
def termVarsRow : OpenClaim := { program := "ytfcmmgldkanliaadoor", sum := "cf2498db3d0bb77c000a2f8c968c887d4873b446d6d680a1aaf6ec62a20823b7", func := "purlin/purlinlaw01.TermVars", spec := "termVars", unfollowed := true, recurses := true, named := ["purlin/term.signs"], apart := false, laid := [("purlin/term.signs", laid_purlin_term_signs)] }
def TermVarsSaid : Prop := termVarsRow.holds Tryd.pinned (OpenSpec.ofChange termVarsSpec)

/-- ITS FALSE NEIGHBOUR: 'it returns false'. Refute it at one input. -/
def termVarsWrong : ChangeSpec := { name := "termVars", fn := fun _ => fun
  | [d1, d2] => { results := [.lit (.bool false)], args := [d1, d2] }
  | _ => none }
def TermVarsWrongFalsely : Prop := termVarsRow.holds Tryd.pinned (OpenSpec.ofChange termVarsWrong)

/-- 'purlinlaw01.TermOwn': WHATEVER THE INPUT: true; the input reads as it did. -/
def termOwnSpec : ChangeSpec := { name := "termOwn", fn := fun _ => fun
  | [d] => { results := [.lit (.bool true)], args := [d] }
  | _ => none }
def termOwnRow : OpenClaim := { program := "ytfcmmgldkanliaadoor", sum := "cf2498db3d0bb77c000a2f8c968c887d4873b446d6d680a1aaf6ec62a20823b7", func := "purlin/purlinlaw01.TermOwn", spec := "termOwn", unfollowed := true, recurses := true, named := ["purlin/term.signs"], apart := false, laid := [("purlin/term.signs", laid_purlin_term_signs)] }
def TermOwnSaid : Prop := termOwnRow.holds Tryd.pinned (OpenSpec.ofChange termOwnSpec)

/-- ITS FALSE NEIGHBOUR: 'it returns false'. Refute it at one input. -/
def termOwnWrong : ChangeSpec := { name := "termOwn", fn := fun _ => fun
  | [d] => { results := [.lit (.bool false)], args := [d] }
  | _ => none }
def TermOwnWrongFalsely : Prop := termOwnRow.holds Tryd.pinned (OpenSpec.ofChange termOwnWrong)

/- THE SECOND FORM. 'bulk': how many values and letters a reading holds, each counted each time it is reached (what is shared counts as often as it is met; a slice's spare places count too). A statement '..UptoSaid' is the law's where the arguments, and the package variables that the reading takes, are together of bulk at most 1048576: NARROWER than '..Said'. Prove '..Said' where nothing that the law and all that it calls make is longer than what came in: it says more and counts as full. Else prove '..UptoSaid'. A law counts once. -/
mutual
def uptoBulk {H : Type} : DataW H → Nat
  | .lit (.string bytes) => bytes.length + 1
  | .lit _ => 1
  | .nil => 1
  | .ptr d => uptoBulk d + 1
  | .slice elems spare => uptoBulkAll elems + uptoBulkAll spare + 1
  | .agg parts => uptoBulkAll parts + 1
  | .iface _ d => uptoBulk d + 1
  | .map entries => uptoBulkEntries entries + 1
  | .held _ => 1
def uptoBulkAll {H : Type} : List (DataW H) → Nat
  | [] => 0
  | d :: r => uptoBulk d + uptoBulkAll r
def uptoBulkEntries {H : Type} : List (Lit × DataW H) → Nat
  | [] => 0
  | x :: r => uptoBulkEntry x + uptoBulkEntries r
def uptoBulkEntry {H : Type} : Lit × DataW H → Nat
  | (.string bytes, d) => bytes.length + uptoBulk d + 1
  | (_, d) => uptoBulk d + 1
 end
def uptoSmall : (H : Type) → List (DataW H) → Bool := fun _ ds => decide (uptoBulkAll ds ≤ 1048576)
def OpenSpec.upto (s : _root_.Go.ChangeSpec) : _root_.Go.OpenSpec := { _root_.Go.OpenSpec.ofChange s with cond := some uptoSmall }

/-- 'purlinlaw01.TermNames', WHERE WHAT IT READS IS OF BULK AT MOST 1048576: true; the input reads as it did. -/
def termNamesUptoRow : OpenClaim := { program := "ytfcmmgldkanliaadoor", sum := "cf2498db3d0bb77c000a2f8c968c887d4873b446d6d680a1aaf6ec62a20823b7", func := "purlin/purlinlaw01.TermNames", spec := "termNames", unfollowed := true, recurses := true, named := ["purlin/term.signs"], apart := false, laid := [("purlin/term.signs", laid_purlin_term_signs)], narrowed := true }
def TermNamesUptoSaid : Prop := termNamesUptoRow.holds Tryd.pinned (OpenSpec.upto termNamesSpec)

/-- 'purlinlaw01.TermMakes', WHERE WHAT IT READS IS OF BULK AT MOST 1048576: true; the input reads as it did. -/
def termMakesUptoRow : OpenClaim := { program := "ytfcmmgldkanliaadoor", sum := "cf2498db3d0bb77c000a2f8c968c887d4873b446d6d680a1aaf6ec62a20823b7", func := "purlin/purlinlaw01.TermMakes", spec := "termMakes", unfollowed := true, recurses := true, named := ["purlin/term.signs"], apart := false, laid := [("purlin/term.signs", laid_purlin_term_signs)], narrowed := true }
def TermMakesUptoSaid : Prop := termMakesUptoRow.holds Tryd.pinned (OpenSpec.upto termMakesSpec)

/-- 'purlinlaw01.TermBack', WHERE WHAT IT READS IS OF BULK AT MOST 1048576: true; the input reads as it did. -/
def termBackUptoRow : OpenClaim := { program := "ytfcmmgldkanliaadoor", sum := "cf2498db3d0bb77c000a2f8c968c887d4873b446d6d680a1aaf6ec62a20823b7", func := "purlin/purlinlaw01.TermBack", spec := "termBack", unfollowed := true, recurses := true, named := ["purlin/term.signs"], apart := false, laid := [("purlin/term.signs", laid_purlin_term_signs)], narrowed := true }
def TermBackUptoSaid : Prop := termBackUptoRow.holds Tryd.pinned (OpenSpec.upto termBackSpec)

/-- 'purlinlaw01.TermPuts', WHERE WHAT IT READS IS OF BULK AT MOST 1048576: true; the input reads as it did. -/
def termPutsUptoRow : OpenClaim := { program := "ytfcmmgldkanliaadoor", sum := "cf2498db3d0bb77c000a2f8c968c887d4873b446d6d680a1aaf6ec62a20823b7", func := "purlin/purlinlaw01.TermPuts", spec := "termPuts", unfollowed := true, recurses := true, named := ["purlin/term.signs"], apart := false, laid := [("purlin/term.signs", laid_purlin_term_signs)], narrowed := true }
def TermPutsUptoSaid : Prop := termPutsUptoRow.holds Tryd.pinned (OpenSpec.upto termPutsSpec)

/-- 'purlinlaw01.TermVars', WHERE WHAT IT READS IS OF BULK AT MOST 1048576: true; the input reads as it did. -/
def termVarsUptoRow : OpenClaim := { program := "ytfcmmgldkanliaadoor", sum := "cf2498db3d0bb77c000a2f8c968c887d4873b446d6d680a1aaf6ec62a20823b7", func := "purlin/purlinlaw01.TermVars", spec := "termVars", unfollowed := true, recurses := true, named := ["purlin/term.signs"], apart := false, laid := [("purlin/term.signs", laid_purlin_term_signs)], narrowed := true }
def TermVarsUptoSaid : Prop := termVarsUptoRow.holds Tryd.pinned (OpenSpec.upto termVarsSpec)

/-- 'purlinlaw01.TermOwn', WHERE WHAT IT READS IS OF BULK AT MOST 1048576: true; the input reads as it did. -/
def termOwnUptoRow : OpenClaim := { program := "ytfcmmgldkanliaadoor", sum := "cf2498db3d0bb77c000a2f8c968c887d4873b446d6d680a1aaf6ec62a20823b7", func := "purlin/purlinlaw01.TermOwn", spec := "termOwn", unfollowed := true, recurses := true, named := ["purlin/term.signs"], apart := false, laid := [("purlin/term.signs", laid_purlin_term_signs)], narrowed := true }
def TermOwnUptoSaid : Prop := termOwnUptoRow.holds Tryd.pinned (OpenSpec.upto termOwnSpec)

end Rows
end Go.Proofs.YtfcmmgldkanliaaDoor
