/-
  NARROWER THAN 'FOR EVERY INPUT', by the rows' own cells (each row's printed sentence says how): CheckPrograms: laid · CheckOrder: laid · CheckTerms: laid · CheckCalls: laid · CheckReached: laid.
  DERIVED. THE GIVEN ROWS OF THIS SEAT. 5 by the template 'for every input the law returns true; each argument reads behind the call as it read before'; 0 by the template 'total and deterministic' (their statements: YtpjoppajohmmnaaDoorTotals.lean).
  GIVEN WITH THE SEED: the statements are not yours to turn. If you find one false, say at which input.
  Laid BY PROGRAM, IN A SANDBOX (cutbox-rows.mjs): the forced cells as the released guide's own fill.sh prints them over the translation 4cdeb85446735cdb… (all of the seat's roots in one cut). By AI agents, Wed Nov 11 2026. No macro, syntax, notation, axiom, sorry.
-/
import Derived.Test.YtpjoppajohmmnaaDoorChecked
import GoSem.Claim
import GoSem.ClaimJoined
import GoSem.ClaimMapViews
import Derived.JoinedTies
import Derived.KernelRfl
namespace Go.Proofs.YtpjoppajohmmnaaDoor
/- THE CELL 'sum', in the pinned program and in every row, IS THE sha256 OF THE DUMP (.gsa) THAT YtpjoppajohmmnaaDoorProg.lean LOADS. Nothing in Lean hashes anything: it is a label: what it is worth is what the hold of that sum in a sandbox is worth. -/
noncomputable def Tryd.pinned : Pinned := { name := "ytpjoppajohmmnaadoor", sum := "4cdeb85446735cdbbf86f4429cef3d56ff6d443875d2aba2d40c6889eb9e2049", checked := Tryd.checked }
namespace Rows
def none {H : Type} : Left H := { results := [], args := [] }

/- WHAT THE LISTED PACKAGE-LEVEL VARIABLES READ AS WHEN THE CALL BEGINS. Each datum BY PROGRAM (the guide's laid-datum.mjs) off the statement by which the dump's own 'gosem.cut.vars' lays the variable. In a bare row this is a premise. The card (YtpjoppajohmmnaaDoorCards.lean) ties it to the program's text. -/
def laid_purlin_term_signs {H : Type} : DataW H := .agg [.lit (.string [61]), .lit (.string [58, 61]), .lit (.string [64]), .lit (.string [43]), .lit (.string [45]), .lit (.string [42]), .lit (.string [60]), .lit (.string [61, 60]), .lit (.string [62]), .lit (.string [62, 61]), .lit (.string [61, 58, 61]), .lit (.string [61, 92, 61])]

/-- 'purlinlaw04.CheckPrograms': WHATEVER THE INPUT: true; the input reads as it did. -/
def checkProgramsSpec : ChangeSpec := { name := "checkPrograms", fn := fun _ => fun
  | [d] => { results := [.lit (.bool true)], args := [d] }
  | _ => none }
def checkProgramsRow : OpenClaim := { program := "ytpjoppajohmmnaadoor", sum := "4cdeb85446735cdbbf86f4429cef3d56ff6d443875d2aba2d40c6889eb9e2049", func := "purlin/purlinlaw04.CheckPrograms", spec := "checkPrograms", unfollowed := true, recurses := true, named := ["purlin/term.signs"], apart := false, laid := [("purlin/term.signs", laid_purlin_term_signs)] }
def CheckProgramsSaid : Prop := checkProgramsRow.holds Tryd.pinned (OpenSpec.ofChange checkProgramsSpec)

/-- ITS FALSE NEIGHBOUR: 'it returns false'. Refute it at one input. -/
def checkProgramsWrong : ChangeSpec := { name := "checkPrograms", fn := fun _ => fun
  | [d] => { results := [.lit (.bool false)], args := [d] }
  | _ => none }
def CheckProgramsWrongFalsely : Prop := checkProgramsRow.holds Tryd.pinned (OpenSpec.ofChange checkProgramsWrong)

/-- 'purlinlaw04.CheckOrder': WHATEVER THE INPUT: true; the input reads as it did. -/
def checkOrderSpec : ChangeSpec := { name := "checkOrder", fn := fun _ => fun
  | [d1, d2] => { results := [.lit (.bool true)], args := [d1, d2] }
  | _ => none }
def checkOrderRow : OpenClaim := { program := "ytpjoppajohmmnaadoor", sum := "4cdeb85446735cdbbf86f4429cef3d56ff6d443875d2aba2d40c6889eb9e2049", func := "purlin/purlinlaw04.CheckOrder", spec := "checkOrder", unfollowed := true, recurses := true, named := ["purlin/term.signs"], apart := false, laid := [("purlin/term.signs", laid_purlin_term_signs)] }
def CheckOrderSaid : Prop := checkOrderRow.holds Tryd.pinned (OpenSpec.ofChange checkOrderSpec)

/-- ITS FALSE NEIGHBOUR: 'it returns false'. Refute it at one input. -/
def checkOrderWrong : ChangeSpec := { name := "checkOrder", fn := fun _ => fun
  | [d1, d2] => { results := [.lit (.bool false)], args := [d1, d2] }
  | _ => none }
def CheckOrderWrongFalsely : Prop := checkOrderRow.holds Tryd.pinned (OpenSpec.ofChange checkOrderWrong)

/-- 'purlinlaw04.CheckTerms': WHATEVER THE INPUT: true; the input reads as it did. -/
def checkTermsSpec : ChangeSpec := { name := "checkTerms", fn := fun _ => fun
  | [d] => { results := [.lit (.bool true)], args := [d] }
  | _ => none }
def checkTermsRow : OpenClaim := { program := "ytpjoppajohmmnaadoor", sum := "4cdeb85446735cdbbf86f4429cef3d56ff6d443875d2aba2d40c6889eb9e2049", func := "purlin/purlinlaw04.CheckTerms", spec := "checkTerms", unfollowed := true, recurses := true, named := ["purlin/term.signs"], apart := false, laid := [("purlin/term.signs", laid_purlin_term_signs)] }
def CheckTermsSaid : Prop := checkTermsRow.holds Tryd.pinned (OpenSpec.ofChange checkTermsSpec)

/-- ITS FALSE NEIGHBOUR: 'it returns false'. Refute it at one input. -/
def checkTermsWrong : ChangeSpec := { name := "checkTerms", fn := fun _ => fun
  | [d] => { results := [.lit (.bool false)], args := [d] }
  | _ => none }
def CheckTermsWrongFalsely : Prop := checkTermsRow.holds Tryd.pinned (OpenSpec.ofChange checkTermsWrong)

/-- 'purlinlaw04.CheckCalls': WHATEVER THE INPUT: true; the input reads as it did. -/
def checkCallsSpec : ChangeSpec := { name := "checkCalls", fn := fun _ => fun
  | [d] => { results := [.lit (.bool true)], args := [d] }
  | _ => none }
def checkCallsRow : OpenClaim := { program := "ytpjoppajohmmnaadoor", sum := "4cdeb85446735cdbbf86f4429cef3d56ff6d443875d2aba2d40c6889eb9e2049", func := "purlin/purlinlaw04.CheckCalls", spec := "checkCalls", unfollowed := true, recurses := true, named := ["purlin/term.signs"], apart := false, laid := [("purlin/term.signs", laid_purlin_term_signs)] }
def CheckCallsSaid : Prop := checkCallsRow.holds Tryd.pinned (OpenSpec.ofChange checkCallsSpec)

/-- ITS FALSE NEIGHBOUR: 'it returns false'. Refute it at one input. -/
def checkCallsWrong : ChangeSpec := { name := "checkCalls", fn := fun _ => fun
  | [d] => { results := [.lit (.bool false)], args := [d] }
  | _ => none }
def CheckCallsWrongFalsely : Prop := checkCallsRow.holds Tryd.pinned (OpenSpec.ofChange checkCallsWrong)

/-- 'purlinlaw04.CheckReached': WHATEVER THE INPUT: true; the input reads as it did. -/
def checkReachedSpec : ChangeSpec := { name := "checkReached", fn := fun _ => fun
  | [d1, d2, d3] => { results := [.lit (.bool true)], args := [d1, d2, d3] }
  | _ => none }
def checkReachedRow : OpenClaim := { program := "ytpjoppajohmmnaadoor", sum := "4cdeb85446735cdbbf86f4429cef3d56ff6d443875d2aba2d40c6889eb9e2049", func := "purlin/purlinlaw04.CheckReached", spec := "checkReached", unfollowed := true, recurses := true, named := ["purlin/term.signs"], apart := false, laid := [("purlin/term.signs", laid_purlin_term_signs)] }
def CheckReachedSaid : Prop := checkReachedRow.holds Tryd.pinned (OpenSpec.ofChange checkReachedSpec)

/-- ITS FALSE NEIGHBOUR: 'it returns false'. Refute it at one input. -/
def checkReachedWrong : ChangeSpec := { name := "checkReached", fn := fun _ => fun
  | [d1, d2, d3] => { results := [.lit (.bool false)], args := [d1, d2, d3] }
  | _ => none }
def CheckReachedWrongFalsely : Prop := checkReachedRow.holds Tryd.pinned (OpenSpec.ofChange checkReachedWrong)

/- THE SECOND FORM. 'bulk': how many values and letters a reading holds, each counted each time it is reached (what is shared counts as often as it is met; a slice's spare places count too). A statement '..UptoSaid' is the law's where the arguments, and the package variables that the reading takes, are together of bulk at most 1048576: NARROWER than '..Said'. Prove '..Said' where nothing that the law and all that it calls make is longer than what came in: it says more and counts as full. Else prove '..UptoSaid'. A law counts once. -/
mutual
def uptoBulk {H : Type} : DataW H → Nat
  | .lit (.string bytes) => bytes.length + 1
  | .lit _ => 1
  | .nil => 1
  | .ptr d => uptoBulk d + 1
  | .slice elems spare => uptoBulkAll elems + uptoBulkAll spare + 1
  | .agg parts => uptoBulkAll parts + 1
  | .iface _ d => uptoBulk d + 1
  | .map entries => uptoBulkEntries entries + 1
  | .held _ => 1
def uptoBulkAll {H : Type} : List (DataW H) → Nat
  | [] => 0
  | d :: r => uptoBulk d + uptoBulkAll r
def uptoBulkEntries {H : Type} : List (Lit × DataW H) → Nat
  | [] => 0
  | x :: r => uptoBulkEntry x + uptoBulkEntries r
def uptoBulkEntry {H : Type} : Lit × DataW H → Nat
  | (.string bytes, d) => bytes.length + uptoBulk d + 1
  | (_, d) => uptoBulk d + 1
 end
def uptoSmall : (H : Type) → List (DataW H) → Bool := fun _ ds => decide (uptoBulkAll ds ≤ 1048576)
def OpenSpec.upto (s : _root_.Go.ChangeSpec) : _root_.Go.OpenSpec := { _root_.Go.OpenSpec.ofChange s with cond := some uptoSmall }

/-- 'purlinlaw04.CheckPrograms', WHERE WHAT IT READS IS OF BULK AT MOST 1048576: true; the input reads as it did. -/
def checkProgramsUptoRow : OpenClaim := { program := "ytpjoppajohmmnaadoor", sum := "4cdeb85446735cdbbf86f4429cef3d56ff6d443875d2aba2d40c6889eb9e2049", func := "purlin/purlinlaw04.CheckPrograms", spec := "checkPrograms", unfollowed := true, recurses := true, named := ["purlin/term.signs"], apart := false, laid := [("purlin/term.signs", laid_purlin_term_signs)], narrowed := true }
def CheckProgramsUptoSaid : Prop := checkProgramsUptoRow.holds Tryd.pinned (OpenSpec.upto checkProgramsSpec)

/-- 'purlinlaw04.CheckOrder', WHERE WHAT IT READS IS OF BULK AT MOST 1048576: true; the input reads as it did. -/
def checkOrderUptoRow : OpenClaim := { program := "ytpjoppajohmmnaadoor", sum := "4cdeb85446735cdbbf86f4429cef3d56ff6d443875d2aba2d40c6889eb9e2049", func := "purlin/purlinlaw04.CheckOrder", spec := "checkOrder", unfollowed := true, recurses := true, named := ["purlin/term.signs"], apart := false, laid := [("purlin/term.signs", laid_purlin_term_signs)], narrowed := true }
def CheckOrderUptoSaid : Prop := checkOrderUptoRow.holds Tryd.pinned (OpenSpec.upto checkOrderSpec)

/-- 'purlinlaw04.CheckTerms', WHERE WHAT IT READS IS OF BULK AT MOST 1048576: true; the input reads as it did. -/
def checkTermsUptoRow : OpenClaim := { program := "ytpjoppajohmmnaadoor", sum := "4cdeb85446735cdbbf86f4429cef3d56ff6d443875d2aba2d40c6889eb9e2049", func := "purlin/purlinlaw04.CheckTerms", spec := "checkTerms", unfollowed := true, recurses := true, named := ["purlin/term.signs"], apart := false, laid := [("purlin/term.signs", laid_purlin_term_signs)], narrowed := true }
def CheckTermsUptoSaid : Prop := checkTermsUptoRow.holds Tryd.pinned (OpenSpec.upto checkTermsSpec)

/-- 'purlinlaw04.CheckCalls', WHERE WHAT IT READS IS OF BULK AT MOST 1048576: true; the input reads as it did. -/
def checkCallsUptoRow : OpenClaim := { program := "ytpjoppajohmmnaadoor", sum := "4cdeb85446735cdbbf86f4429cef3d56ff6d443875d2aba2d40c6889eb9e2049", func := "purlin/purlinlaw04.CheckCalls", spec := "checkCalls", unfollowed := true, recurses := true, named := ["purlin/term.signs"], apart := false, laid := [("purlin/term.signs", laid_purlin_term_signs)], narrowed := true }
def CheckCallsUptoSaid : Prop := checkCallsUptoRow.holds Tryd.pinned (OpenSpec.upto checkCallsSpec)

/-- 'purlinlaw04.CheckReached', WHERE WHAT IT READS IS OF BULK AT MOST 1048576: true; the input reads as it did. -/
def checkReachedUptoRow : OpenClaim := { program := "ytpjoppajohmmnaadoor", sum := "4cdeb85446735cdbbf86f4429cef3d56ff6d443875d2aba2d40c6889eb9e2049", func := "purlin/purlinlaw04.CheckReached", spec := "checkReached", unfollowed := true, recurses := true, named := ["purlin/term.signs"], apart := false, laid := [("purlin/term.signs", laid_purlin_term_signs)], narrowed := true }
def CheckReachedUptoSaid : Prop := checkReachedUptoRow.holds Tryd.pinned (OpenSpec.upto checkReachedSpec)

end Rows
end Go.Proofs.YtpjoppajohmmnaaDoor
