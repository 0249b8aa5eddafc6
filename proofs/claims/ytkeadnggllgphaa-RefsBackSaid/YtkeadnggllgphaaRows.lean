/-
  No cell of these rows narrows 'for every input' (looked for: loops, veiled, ifaces, maps, wideKeys, modest, calm, conditions, laid).
  DERIVED. THE GIVEN ROWS OF THIS SEAT. 6 by the template 'for every input the law returns true; each argument reads behind the call as it read before'; 0 by the template 'total and deterministic' (their statements: YtkeadnggllgphaaTotals.lean).
  GIVEN WITH THE SEED: the statements are not yours to turn. If you find one false, say at which input.
  Laid BY PROGRAM, IN A SANDBOX (cutbox-rows.mjs): the forced cells as the released guide's own fill.sh prints them over the translation 1c5888765d3b4b79… (all of the seat's roots in one cut). By AI agents, Wed Nov 11 2026. No macro, syntax, notation, axiom, sorry.
-/
import Derived.Test.YtkeadnggllgphaaChecked
import GoSem.Claim
import GoSem.ClaimJoined
import GoSem.ClaimMapViews
import Derived.JoinedTies
import Derived.KernelRfl
namespace Go.Proofs.Ytkeadnggllgphaa
/- THE CELL 'sum', in the pinned program and in every row, IS THE sha256 OF THE DUMP (.gsa) THAT YtkeadnggllgphaaProg.lean LOADS. Nothing in Lean hashes anything: it is a label: what it is worth is what the hold of that sum in a sandbox is worth. -/
noncomputable def Try.pinned : Pinned := { name := "ytkeadnggllgphaa", sum := "1c5888765d3b4b798db92ec7ed0db83f84c6c6779c08e12b13ca1c70bffd2d50", checked := Try.checked }
namespace Rows
def none {H : Type} : Left H := { results := [], args := [] }

/-- 'purlinlaw16.RefsOrder': WHATEVER THE INPUT: true; the input reads as it did. -/
def refsOrderSpec : ChangeSpec := { name := "refsOrder", fn := fun _ => fun
  | [d] => { results := [.lit (.bool true)], args := [d] }
  | _ => none }
def refsOrderRow : OpenClaim := { program := "ytkeadnggllgphaa", sum := "1c5888765d3b4b798db92ec7ed0db83f84c6c6779c08e12b13ca1c70bffd2d50", func := "purlin/purlinlaw16.RefsOrder", spec := "refsOrder", unfollowed := true, recurses := true, plainKeys := false, apart := false }
def RefsOrderSaid : Prop := refsOrderRow.holds Try.pinned (OpenSpec.ofChange refsOrderSpec)

/-- ITS FALSE NEIGHBOUR: 'it returns false'. Refute it at one input. -/
def refsOrderWrong : ChangeSpec := { name := "refsOrder", fn := fun _ => fun
  | [d] => { results := [.lit (.bool false)], args := [d] }
  | _ => none }
def RefsOrderWrongFalsely : Prop := refsOrderRow.holds Try.pinned (OpenSpec.ofChange refsOrderWrong)

/-- 'purlinlaw16.RefsSafe': WHATEVER THE INPUT: true; the input reads as it did. -/
def refsSafeSpec : ChangeSpec := { name := "refsSafe", fn := fun _ => fun
  | [d1, d2] => { results := [.lit (.bool true)], args := [d1, d2] }
  | _ => none }
def refsSafeRow : OpenClaim := { program := "ytkeadnggllgphaa", sum := "1c5888765d3b4b798db92ec7ed0db83f84c6c6779c08e12b13ca1c70bffd2d50", func := "purlin/purlinlaw16.RefsSafe", spec := "refsSafe", unfollowed := true, recurses := true, plainKeys := false, apart := false }
def RefsSafeSaid : Prop := refsSafeRow.holds Try.pinned (OpenSpec.ofChange refsSafeSpec)

/-- ITS FALSE NEIGHBOUR: 'it returns false'. Refute it at one input. -/
def refsSafeWrong : ChangeSpec := { name := "refsSafe", fn := fun _ => fun
  | [d1, d2] => { results := [.lit (.bool false)], args := [d1, d2] }
  | _ => none }
def RefsSafeWrongFalsely : Prop := refsSafeRow.holds Try.pinned (OpenSpec.ofChange refsSafeWrong)

/-- 'purlinlaw16.RefsBack': WHATEVER THE INPUT: true; the input reads as it did. -/
def refsBackSpec : ChangeSpec := { name := "refsBack", fn := fun _ => fun
  | [d1, d2] => { results := [.lit (.bool true)], args := [d1, d2] }
  | _ => none }
def refsBackRow : OpenClaim := { program := "ytkeadnggllgphaa", sum := "1c5888765d3b4b798db92ec7ed0db83f84c6c6779c08e12b13ca1c70bffd2d50", func := "purlin/purlinlaw16.RefsBack", spec := "refsBack", unfollowed := true, recurses := true, plainKeys := false, apart := false }
def RefsBackSaid : Prop := refsBackRow.holds Try.pinned (OpenSpec.ofChange refsBackSpec)

/-- ITS FALSE NEIGHBOUR: 'it returns false'. Refute it at one input. -/
def refsBackWrong : ChangeSpec := { name := "refsBack", fn := fun _ => fun
  | [d1, d2] => { results := [.lit (.bool false)], args := [d1, d2] }
  | _ => none }
def RefsBackWrongFalsely : Prop := refsBackRow.holds Try.pinned (OpenSpec.ofChange refsBackWrong)

/-- 'purlinlaw16.RefsOwn': WHATEVER THE INPUT: true; the input reads as it did. -/
def refsOwnSpec : ChangeSpec := { name := "refsOwn", fn := fun _ => fun
  | [d] => { results := [.lit (.bool true)], args := [d] }
  | _ => none }
def refsOwnRow : OpenClaim := { program := "ytkeadnggllgphaa", sum := "1c5888765d3b4b798db92ec7ed0db83f84c6c6779c08e12b13ca1c70bffd2d50", func := "purlin/purlinlaw16.RefsOwn", spec := "refsOwn", unfollowed := true, recurses := true, plainKeys := false, apart := false }
def RefsOwnSaid : Prop := refsOwnRow.holds Try.pinned (OpenSpec.ofChange refsOwnSpec)

/-- ITS FALSE NEIGHBOUR: 'it returns false'. Refute it at one input. -/
def refsOwnWrong : ChangeSpec := { name := "refsOwn", fn := fun _ => fun
  | [d] => { results := [.lit (.bool false)], args := [d] }
  | _ => none }
def RefsOwnWrongFalsely : Prop := refsOwnRow.holds Try.pinned (OpenSpec.ofChange refsOwnWrong)

/-- 'purlinlaw16.RefsNone': WHATEVER THE INPUT: true; the input reads as it did. -/
def refsNoneSpec : ChangeSpec := { name := "refsNone", fn := fun _ => fun
  | [d1, d2] => { results := [.lit (.bool true)], args := [d1, d2] }
  | _ => none }
def refsNoneRow : OpenClaim := { program := "ytkeadnggllgphaa", sum := "1c5888765d3b4b798db92ec7ed0db83f84c6c6779c08e12b13ca1c70bffd2d50", func := "purlin/purlinlaw16.RefsNone", spec := "refsNone", inPlace := ["maps.clone"], unfollowed := true, recurses := true, plainKeys := false, apart := false }
def RefsNoneSaid : Prop := refsNoneRow.holds Try.pinned (OpenSpec.ofChange refsNoneSpec)

/-- ITS FALSE NEIGHBOUR: 'it returns false'. Refute it at one input. -/
def refsNoneWrong : ChangeSpec := { name := "refsNone", fn := fun _ => fun
  | [d1, d2] => { results := [.lit (.bool false)], args := [d1, d2] }
  | _ => none }
def RefsNoneWrongFalsely : Prop := refsNoneRow.holds Try.pinned (OpenSpec.ofChange refsNoneWrong)

/-- 'purlinlaw16.RefsRuns': WHATEVER THE INPUT: true; the input reads as it did. -/
def refsRunsSpec : ChangeSpec := { name := "refsRuns", fn := fun _ => fun
  | [d1, d2, d3] => { results := [.lit (.bool true)], args := [d1, d2, d3] }
  | _ => none }
def refsRunsRow : OpenClaim := { program := "ytkeadnggllgphaa", sum := "1c5888765d3b4b798db92ec7ed0db83f84c6c6779c08e12b13ca1c70bffd2d50", func := "purlin/purlinlaw16.RefsRuns", spec := "refsRuns", inPlace := ["maps.clone"], unfollowed := true, recurses := true, plainKeys := false, apart := false }
def RefsRunsSaid : Prop := refsRunsRow.holds Try.pinned (OpenSpec.ofChange refsRunsSpec)

/-- ITS FALSE NEIGHBOUR: 'it returns false'. Refute it at one input. -/
def refsRunsWrong : ChangeSpec := { name := "refsRuns", fn := fun _ => fun
  | [d1, d2, d3] => { results := [.lit (.bool false)], args := [d1, d2, d3] }
  | _ => none }
def RefsRunsWrongFalsely : Prop := refsRunsRow.holds Try.pinned (OpenSpec.ofChange refsRunsWrong)

/- THE SECOND FORM. 'bulk': how many values and letters a reading holds, each counted each time it is reached (what is shared counts as often as it is met; a slice's spare places count too). A statement '..UptoSaid' is the law's where the arguments, and the package variables that the reading takes, are together of bulk at most 1048576: NARROWER than '..Said'. Prove '..Said' where nothing that the law and all that it calls make is longer than what came in: it says more and counts as full. Else prove '..UptoSaid'. A law counts once. -/
mutual
def uptoBulk {H : Type} : DataW H → Nat
  | .lit (.string bytes) => bytes.length + 1
  | .lit _ => 1
  | .nil => 1
  | .ptr d => uptoBulk d + 1
  | .slice elems spare => uptoBulkAll elems + uptoBulkAll spare + 1
  | .agg parts => uptoBulkAll parts + 1
  | .iface _ d => uptoBulk d + 1
  | .map entries => uptoBulkEntries entries + 1
  | .held _ => 1
def uptoBulkAll {H : Type} : List (DataW H) → Nat
  | [] => 0
  | d :: r => uptoBulk d + uptoBulkAll r
def uptoBulkEntries {H : Type} : List (Lit × DataW H) → Nat
  | [] => 0
  | x :: r => uptoBulkEntry x + uptoBulkEntries r
def uptoBulkEntry {H : Type} : Lit × DataW H → Nat
  | (.string bytes, d) => bytes.length + uptoBulk d + 1
  | (_, d) => uptoBulk d + 1
 end
def uptoSmall : (H : Type) → List (DataW H) → Bool := fun _ ds => decide (uptoBulkAll ds ≤ 1048576)
def OpenSpec.upto (s : _root_.Go.ChangeSpec) : _root_.Go.OpenSpec := { _root_.Go.OpenSpec.ofChange s with cond := some uptoSmall }

/-- 'purlinlaw16.RefsOrder', WHERE WHAT IT READS IS OF BULK AT MOST 1048576: true; the input reads as it did. -/
def refsOrderUptoRow : OpenClaim := { program := "ytkeadnggllgphaa", sum := "1c5888765d3b4b798db92ec7ed0db83f84c6c6779c08e12b13ca1c70bffd2d50", func := "purlin/purlinlaw16.RefsOrder", spec := "refsOrder", unfollowed := true, recurses := true, plainKeys := false, apart := false, narrowed := true }
def RefsOrderUptoSaid : Prop := refsOrderUptoRow.holds Try.pinned (OpenSpec.upto refsOrderSpec)

/-- 'purlinlaw16.RefsSafe', WHERE WHAT IT READS IS OF BULK AT MOST 1048576: true; the input reads as it did. -/
def refsSafeUptoRow : OpenClaim := { program := "ytkeadnggllgphaa", sum := "1c5888765d3b4b798db92ec7ed0db83f84c6c6779c08e12b13ca1c70bffd2d50", func := "purlin/purlinlaw16.RefsSafe", spec := "refsSafe", unfollowed := true, recurses := true, plainKeys := false, apart := false, narrowed := true }
def RefsSafeUptoSaid : Prop := refsSafeUptoRow.holds Try.pinned (OpenSpec.upto refsSafeSpec)

/-- 'purlinlaw16.RefsBack', WHERE WHAT IT READS IS OF BULK AT MOST 1048576: true; the input reads as it did. -/
def refsBackUptoRow : OpenClaim := { program := "ytkeadnggllgphaa", sum := "1c5888765d3b4b798db92ec7ed0db83f84c6c6779c08e12b13ca1c70bffd2d50", func := "purlin/purlinlaw16.RefsBack", spec := "refsBack", unfollowed := true, recurses := true, plainKeys := false, apart := false, narrowed := true }
def RefsBackUptoSaid : Prop := refsBackUptoRow.holds Try.pinned (OpenSpec.upto refsBackSpec)

/-- 'purlinlaw16.RefsOwn', WHERE WHAT IT READS IS OF BULK AT MOST 1048576: true; the input reads as it did. -/
def refsOwnUptoRow : OpenClaim := { program := "ytkeadnggllgphaa", sum := "1c5888765d3b4b798db92ec7ed0db83f84c6c6779c08e12b13ca1c70bffd2d50", func := "purlin/purlinlaw16.RefsOwn", spec := "refsOwn", unfollowed := true, recurses := true, plainKeys := false, apart := false, narrowed := true }
def RefsOwnUptoSaid : Prop := refsOwnUptoRow.holds Try.pinned (OpenSpec.upto refsOwnSpec)

/-- 'purlinlaw16.RefsNone', WHERE WHAT IT READS IS OF BULK AT MOST 1048576: true; the input reads as it did. -/
def refsNoneUptoRow : OpenClaim := { program := "ytkeadnggllgphaa", sum := "1c5888765d3b4b798db92ec7ed0db83f84c6c6779c08e12b13ca1c70bffd2d50", func := "purlin/purlinlaw16.RefsNone", spec := "refsNone", inPlace := ["maps.clone"], unfollowed := true, recurses := true, plainKeys := false, apart := false, narrowed := true }
def RefsNoneUptoSaid : Prop := refsNoneUptoRow.holds Try.pinned (OpenSpec.upto refsNoneSpec)

/-- 'purlinlaw16.RefsRuns', WHERE WHAT IT READS IS OF BULK AT MOST 1048576: true; the input reads as it did. -/
def refsRunsUptoRow : OpenClaim := { program := "ytkeadnggllgphaa", sum := "1c5888765d3b4b798db92ec7ed0db83f84c6c6779c08e12b13ca1c70bffd2d50", func := "purlin/purlinlaw16.RefsRuns", spec := "refsRuns", inPlace := ["maps.clone"], unfollowed := true, recurses := true, plainKeys := false, apart := false, narrowed := true }
def RefsRunsUptoSaid : Prop := refsRunsUptoRow.holds Try.pinned (OpenSpec.upto refsRunsSpec)

end Rows
end Go.Proofs.Ytkeadnggllgphaa
