/-
  NARROWER THAN 'FOR EVERY INPUT', by the rows' own cells (each row's printed sentence says how): ArithValues: laid · ArithReckons: laid · ArithDivides: laid · ArithOpposites: laid · ArithMore: laid · ArithGuards: laid.
  DERIVED. THE GIVEN ROWS OF THIS SEAT. 6 by the template 'for every input the law returns true; each argument reads behind the call as it read before'; 0 by the template 'total and deterministic' (their statements: YtmhblapchnldhaaDoorTotals.lean).
  GIVEN WITH THE SEED: the statements are not yours to turn. If you find one false, say at which input.
  Laid BY PROGRAM, IN A SANDBOX (cutbox-rows.mjs): the forced cells as the released guide's own fill.sh prints them over the translation 6d9e765a06464a77… (all of the seat's roots in one cut). By AI agents, Wed Nov 11 2026. No macro, syntax, notation, axiom, sorry.
-/
import Derived.Test.YtmhblapchnldhaaDoorChecked
import GoSem.Claim
import GoSem.ClaimJoined
import GoSem.ClaimMapViews
import Derived.JoinedTies
import Derived.KernelRfl
namespace Go.Proofs.YtmhblapchnldhaaDoor
/- THE CELL 'sum', in the pinned program and in every row, IS THE sha256 OF THE DUMP (.gsa) THAT YtmhblapchnldhaaDoorProg.lean LOADS. Nothing in Lean hashes anything: it is a label: what it is worth is what the hold of that sum in a sandbox is worth. -/
noncomputable def Tryd.pinned : Pinned := { name := "ytmhblapchnldhaadoor", sum := "6d9e765a06464a77edc45f104998cf533ca9ef449845e7bf6d792f4f132b2326", checked := Tryd.checked }
namespace Rows
def none {H : Type} : Left H := { results := [], args := [] }

/- WHAT THE LISTED PACKAGE-LEVEL VARIABLES READ AS WHEN THE CALL BEGINS. Each datum BY PROGRAM (the guide's laid-datum.mjs) off the statement by which the dump's own 'gosem.cut.vars' lays the variable. In a bare row this is a premise. The card (YtmhblapchnldhaaDoorCards.lean) ties it to the program's text. -/
def laid_purlin_term_signs {H : Type} : DataW H := .agg [.lit (.string [61]), .lit (.string [58, 61]), .lit (.string [64]), .lit (.string [43]), .lit (.string [45]), .lit (.string [42]), .lit (.string [60]), .lit (.string [61, 60]), .lit (.string [62]), .lit (.string [62, 61]), .lit (.string [61, 58, 61]), .lit (.string [61, 92, 61])]

/-- 'purlinlaw06.ArithValues': WHATEVER THE INPUT: true; the input reads as it did. -/
def arithValuesSpec : ChangeSpec := { name := "arithValues", fn := fun _ => fun
  | [d1, d2] => { results := [.lit (.bool true)], args := [d1, d2] }
  | _ => none }
def arithValuesRow : OpenClaim := { program := "ytmhblapchnldhaadoor", sum := "6d9e765a06464a77edc45f104998cf533ca9ef449845e7bf6d792f4f132b2326", func := "purlin/purlinlaw06.ArithValues", spec := "arithValues", unfollowed := true, recurses := true, named := ["purlin/term.signs"], plainKeys := false, apart := false, laid := [("purlin/term.signs", laid_purlin_term_signs)] }
def ArithValuesSaid : Prop := arithValuesRow.holds Tryd.pinned (OpenSpec.ofChange arithValuesSpec)

/-- ITS FALSE NEIGHBOUR: 'it returns false'. Refute it at one input. -/
def arithValuesWrong : ChangeSpec := { name := "arithValues", fn := fun _ => fun
  | [d1, d2] => { results := [.lit (.bool false)], args := [d1, d2] }
  | _ => none }
def ArithValuesWrongFalsely : Prop := arithValuesRow.holds Tryd.pinned (OpenSpec.ofChange arithValuesWrong)

/-- 'purlinlaw06.ArithReckons': WHATEVER THE INPUT: true; the input reads as it did. -/
def arithReckonsSpec : ChangeSpec := { name := "arithReckons", fn := fun _ => fun
  | [d1, d2] => { results := [.lit (.bool true)], args := [d1, d2] }
  | _ => none }
def arithReckonsRow : OpenClaim := { program := "ytmhblapchnldhaadoor", sum := "6d9e765a06464a77edc45f104998cf533ca9ef449845e7bf6d792f4f132b2326", func := "purlin/purlinlaw06.ArithReckons", spec := "arithReckons", unfollowed := true, recurses := true, named := ["purlin/term.signs"], plainKeys := false, apart := false, laid := [("purlin/term.signs", laid_purlin_term_signs)] }
def ArithReckonsSaid : Prop := arithReckonsRow.holds Tryd.pinned (OpenSpec.ofChange arithReckonsSpec)

/-- ITS FALSE NEIGHBOUR: 'it returns false'. Refute it at one input. -/
def arithReckonsWrong : ChangeSpec := { name := "arithReckons", fn := fun _ => fun
  | [d1, d2] => { results := [.lit (.bool false)], args := [d1, d2] }
  | _ => none }
def ArithReckonsWrongFalsely : Prop := arithReckonsRow.holds Tryd.pinned (OpenSpec.ofChange arithReckonsWrong)

/-- 'purlinlaw06.ArithDivides': WHATEVER THE INPUT: true; the input reads as it did. -/
def arithDividesSpec : ChangeSpec := { name := "arithDivides", fn := fun _ => fun
  | [d1, d2] => { results := [.lit (.bool true)], args := [d1, d2] }
  | _ => none }
def arithDividesRow : OpenClaim := { program := "ytmhblapchnldhaadoor", sum := "6d9e765a06464a77edc45f104998cf533ca9ef449845e7bf6d792f4f132b2326", func := "purlin/purlinlaw06.ArithDivides", spec := "arithDivides", unfollowed := true, recurses := true, named := ["purlin/term.signs"], plainKeys := false, apart := false, laid := [("purlin/term.signs", laid_purlin_term_signs)] }
def ArithDividesSaid : Prop := arithDividesRow.holds Tryd.pinned (OpenSpec.ofChange arithDividesSpec)

/-- ITS FALSE NEIGHBOUR: 'it returns false'. Refute it at one input. -/
def arithDividesWrong : ChangeSpec := { name := "arithDivides", fn := fun _ => fun
  | [d1, d2] => { results := [.lit (.bool false)], args := [d1, d2] }
  | _ => none }
def ArithDividesWrongFalsely : Prop := arithDividesRow.holds Tryd.pinned (OpenSpec.ofChange arithDividesWrong)

/-- 'purlinlaw06.ArithOpposites': WHATEVER THE INPUT: true; the input reads as it did. -/
def arithOppositesSpec : ChangeSpec := { name := "arithOpposites", fn := fun _ => fun
  | [d1, d2, d3] => { results := [.lit (.bool true)], args := [d1, d2, d3] }
  | _ => none }
def arithOppositesRow : OpenClaim := { program := "ytmhblapchnldhaadoor", sum := "6d9e765a06464a77edc45f104998cf533ca9ef449845e7bf6d792f4f132b2326", func := "purlin/purlinlaw06.ArithOpposites", spec := "arithOpposites", unfollowed := true, recurses := true, named := ["purlin/term.signs"], plainKeys := false, apart := false, laid := [("purlin/term.signs", laid_purlin_term_signs)] }
def ArithOppositesSaid : Prop := arithOppositesRow.holds Tryd.pinned (OpenSpec.ofChange arithOppositesSpec)

/-- ITS FALSE NEIGHBOUR: 'it returns false'. Refute it at one input. -/
def arithOppositesWrong : ChangeSpec := { name := "arithOpposites", fn := fun _ => fun
  | [d1, d2, d3] => { results := [.lit (.bool false)], args := [d1, d2, d3] }
  | _ => none }
def ArithOppositesWrongFalsely : Prop := arithOppositesRow.holds Tryd.pinned (OpenSpec.ofChange arithOppositesWrong)

/-- 'purlinlaw06.ArithMore': WHATEVER THE INPUT: true; the input reads as it did. -/
def arithMoreSpec : ChangeSpec := { name := "arithMore", fn := fun _ => fun
  | [d1, d2, d3] => { results := [.lit (.bool true)], args := [d1, d2, d3] }
  | _ => none }
def arithMoreRow : OpenClaim := { program := "ytmhblapchnldhaadoor", sum := "6d9e765a06464a77edc45f104998cf533ca9ef449845e7bf6d792f4f132b2326", func := "purlin/purlinlaw06.ArithMore", spec := "arithMore", unfollowed := true, recurses := true, named := ["purlin/term.signs"], plainKeys := false, apart := false, laid := [("purlin/term.signs", laid_purlin_term_signs)] }
def ArithMoreSaid : Prop := arithMoreRow.holds Tryd.pinned (OpenSpec.ofChange arithMoreSpec)

/-- ITS FALSE NEIGHBOUR: 'it returns false'. Refute it at one input. -/
def arithMoreWrong : ChangeSpec := { name := "arithMore", fn := fun _ => fun
  | [d1, d2, d3] => { results := [.lit (.bool false)], args := [d1, d2, d3] }
  | _ => none }
def ArithMoreWrongFalsely : Prop := arithMoreRow.holds Tryd.pinned (OpenSpec.ofChange arithMoreWrong)

/-- 'purlinlaw06.ArithGuards': WHATEVER THE INPUT: true; the input reads as it did. -/
def arithGuardsSpec : ChangeSpec := { name := "arithGuards", fn := fun _ => fun
  | [d1, d2] => { results := [.lit (.bool true)], args := [d1, d2] }
  | _ => none }
def arithGuardsRow : OpenClaim := { program := "ytmhblapchnldhaadoor", sum := "6d9e765a06464a77edc45f104998cf533ca9ef449845e7bf6d792f4f132b2326", func := "purlin/purlinlaw06.ArithGuards", spec := "arithGuards", unfollowed := true, recurses := true, named := ["purlin/term.signs"], plainKeys := false, apart := false, laid := [("purlin/term.signs", laid_purlin_term_signs)] }
def ArithGuardsSaid : Prop := arithGuardsRow.holds Tryd.pinned (OpenSpec.ofChange arithGuardsSpec)

/-- ITS FALSE NEIGHBOUR: 'it returns false'. Refute it at one input. -/
def arithGuardsWrong : ChangeSpec := { name := "arithGuards", fn := fun _ => fun
  | [d1, d2] => { results := [.lit (.bool false)], args := [d1, d2] }
  | _ => none }
def ArithGuardsWrongFalsely : Prop := arithGuardsRow.holds Tryd.pinned (OpenSpec.ofChange arithGuardsWrong)

/- THE SECOND FORM. 'bulk': how many values and letters a reading holds, each counted each time it is reached (what is shared counts as often as it is met; a slice's spare places count too). A statement '..UptoSaid' is the law's where the arguments, and the package variables that the reading takes, are together of bulk at most 1048576: NARROWER than '..Said'. Prove '..Said' where nothing that the law and all that it calls make is longer than what came in: it says more and counts as full. Else prove '..UptoSaid'. A law counts once. -/
mutual
def uptoBulk {H : Type} : DataW H → Nat
  | .lit (.string bytes) => bytes.length + 1
  | .lit _ => 1
  | .nil => 1
  | .ptr d => uptoBulk d + 1
  | .slice elems spare => uptoBulkAll elems + uptoBulkAll spare + 1
  | .agg parts => uptoBulkAll parts + 1
  | .iface _ d => uptoBulk d + 1
  | .map entries => uptoBulkEntries entries + 1
  | .held _ => 1
def uptoBulkAll {H : Type} : List (DataW H) → Nat
  | [] => 0
  | d :: r => uptoBulk d + uptoBulkAll r
def uptoBulkEntries {H : Type} : List (Lit × DataW H) → Nat
  | [] => 0
  | x :: r => uptoBulkEntry x + uptoBulkEntries r
def uptoBulkEntry {H : Type} : Lit × DataW H → Nat
  | (.string bytes, d) => bytes.length + uptoBulk d + 1
  | (_, d) => uptoBulk d + 1
 end
def uptoSmall : (H : Type) → List (DataW H) → Bool := fun _ ds => decide (uptoBulkAll ds ≤ 1048576)
def OpenSpec.upto (s : _root_.Go.ChangeSpec) : _root_.Go.OpenSpec := { _root_.Go.OpenSpec.ofChange s with cond := some uptoSmall }

/-- 'purlinlaw06.ArithValues', WHERE WHAT IT READS IS OF BULK AT MOST 1048576: true; the input reads as it did. -/
def arithValuesUptoRow : OpenClaim := { program := "ytmhblapchnldhaadoor", sum := "6d9e765a06464a77edc45f104998cf533ca9ef449845e7bf6d792f4f132b2326", func := "purlin/purlinlaw06.ArithValues", spec := "arithValues", unfollowed := true, recurses := true, named := ["purlin/term.signs"], plainKeys := false, apart := false, laid := [("purlin/term.signs", laid_purlin_term_signs)], narrowed := true }
def ArithValuesUptoSaid : Prop := arithValuesUptoRow.holds Tryd.pinned (OpenSpec.upto arithValuesSpec)

/-- 'purlinlaw06.ArithReckons', WHERE WHAT IT READS IS OF BULK AT MOST 1048576: true; the input reads as it did. -/
def arithReckonsUptoRow : OpenClaim := { program := "ytmhblapchnldhaadoor", sum := "6d9e765a06464a77edc45f104998cf533ca9ef449845e7bf6d792f4f132b2326", func := "purlin/purlinlaw06.ArithReckons", spec := "arithReckons", unfollowed := true, recurses := true, named := ["purlin/term.signs"], plainKeys := false, apart := false, laid := [("purlin/term.signs", laid_purlin_term_signs)], narrowed := true }
def ArithReckonsUptoSaid : Prop := arithReckonsUptoRow.holds Tryd.pinned (OpenSpec.upto arithReckonsSpec)

/-- 'purlinlaw06.ArithDivides', WHERE WHAT IT READS IS OF BULK AT MOST 1048576: true; the input reads as it did. -/
def arithDividesUptoRow : OpenClaim := { program := "ytmhblapchnldhaadoor", sum := "6d9e765a06464a77edc45f104998cf533ca9ef449845e7bf6d792f4f132b2326", func := "purlin/purlinlaw06.ArithDivides", spec := "arithDivides", unfollowed := true, recurses := true, named := ["purlin/term.signs"], plainKeys := false, apart := false, laid := [("purlin/term.signs", laid_purlin_term_signs)], narrowed := true }
def ArithDividesUptoSaid : Prop := arithDividesUptoRow.holds Tryd.pinned (OpenSpec.upto arithDividesSpec)

/-- 'purlinlaw06.ArithOpposites', WHERE WHAT IT READS IS OF BULK AT MOST 1048576: true; the input reads as it did. -/
def arithOppositesUptoRow : OpenClaim := { program := "ytmhblapchnldhaadoor", sum := "6d9e765a06464a77edc45f104998cf533ca9ef449845e7bf6d792f4f132b2326", func := "purlin/purlinlaw06.ArithOpposites", spec := "arithOpposites", unfollowed := true, recurses := true, named := ["purlin/term.signs"], plainKeys := false, apart := false, laid := [("purlin/term.signs", laid_purlin_term_signs)], narrowed := true }
def ArithOppositesUptoSaid : Prop := arithOppositesUptoRow.holds Tryd.pinned (OpenSpec.upto arithOppositesSpec)

/-- 'purlinlaw06.ArithMore', WHERE WHAT IT READS IS OF BULK AT MOST 1048576: true; the input reads as it did. -/
def arithMoreUptoRow : OpenClaim := { program := "ytmhblapchnldhaadoor", sum := "6d9e765a06464a77edc45f104998cf533ca9ef449845e7bf6d792f4f132b2326", func := "purlin/purlinlaw06.ArithMore", spec := "arithMore", unfollowed := true, recurses := true, named := ["purlin/term.signs"], plainKeys := false, apart := false, laid := [("purlin/term.signs", laid_purlin_term_signs)], narrowed := true }
def ArithMoreUptoSaid : Prop := arithMoreUptoRow.holds Tryd.pinned (OpenSpec.upto arithMoreSpec)

/-- 'purlinlaw06.ArithGuards', WHERE WHAT IT READS IS OF BULK AT MOST 1048576: true; the input reads as it did. -/
def arithGuardsUptoRow : OpenClaim := { program := "ytmhblapchnldhaadoor", sum := "6d9e765a06464a77edc45f104998cf533ca9ef449845e7bf6d792f4f132b2326", func := "purlin/purlinlaw06.ArithGuards", spec := "arithGuards", unfollowed := true, recurses := true, named := ["purlin/term.signs"], plainKeys := false, apart := false, laid := [("purlin/term.signs", laid_purlin_term_signs)], narrowed := true }
def ArithGuardsUptoSaid : Prop := arithGuardsUptoRow.holds Tryd.pinned (OpenSpec.upto arithGuardsSpec)

end Rows
end Go.Proofs.YtmhblapchnldhaaDoor
