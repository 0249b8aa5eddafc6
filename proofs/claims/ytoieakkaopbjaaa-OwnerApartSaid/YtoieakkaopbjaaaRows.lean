/-
  No cell of these rows narrows 'for every input' (looked for: loops, veiled, ifaces, maps, wideKeys, modest, calm, conditions, laid).
  DERIVED. THE GIVEN ROWS OF THIS SEAT. 4 by the template 'for every input the law returns true; each argument reads behind the call as it read before'; 0 by the template 'total and deterministic' (their statements: YtoieakkaopbjaaaTotals.lean).
  GIVEN WITH THE SEED: the statements are not yours to turn. If you find one false, say at which input.
  Laid BY PROGRAM, IN A SANDBOX (cutbox-rows.mjs): the forced cells as the released guide's own fill.sh prints them over the translation 53b3dcc922c0e027… (all of the seat's roots in one cut). By AI agents, Wed Nov 11 2026. No macro, syntax, notation, axiom, sorry.
-/
import Derived.Test.YtoieakkaopbjaaaChecked
import GoSem.Claim
import GoSem.ClaimJoined
import GoSem.ClaimMapViews
import Derived.JoinedTies
import Derived.KernelRfl
namespace Go.Proofs.Ytoieakkaopbjaaa
/- THE CELL 'sum', in the pinned program and in every row, IS THE sha256 OF THE DUMP (.gsa) THAT YtoieakkaopbjaaaProg.lean LOADS. Nothing in Lean hashes anything: it is a label: what it is worth is what the hold of that sum in a sandbox is worth. -/
noncomputable def Try.pinned : Pinned := { name := "ytoieakkaopbjaaa", sum := "53b3dcc922c0e0275ca1a23e1af17d761938bd0255711e302680633caa389b10", checked := Try.checked }
namespace Rows
def none {H : Type} : Left H := { results := [], args := [] }

/-- 'purlinlaw15.OwnerApart': WHATEVER THE INPUT: true; the input reads as it did. -/
def ownerApartSpec : ChangeSpec := { name := "ownerApart", fn := fun _ => fun
  | [d1, d2] => { results := [.lit (.bool true)], args := [d1, d2] }
  | _ => none }
def ownerApartRow : OpenClaim := { program := "ytoieakkaopbjaaa", sum := "53b3dcc922c0e0275ca1a23e1af17d761938bd0255711e302680633caa389b10", func := "purlin/purlinlaw15.OwnerApart", spec := "ownerApart", plainKeys := false, apart := false }
def OwnerApartSaid : Prop := ownerApartRow.holds Try.pinned (OpenSpec.ofChange ownerApartSpec)

/-- ITS FALSE NEIGHBOUR: 'it returns false'. Refute it at one input. -/
def ownerApartWrong : ChangeSpec := { name := "ownerApart", fn := fun _ => fun
  | [d1, d2] => { results := [.lit (.bool false)], args := [d1, d2] }
  | _ => none }
def OwnerApartWrongFalsely : Prop := ownerApartRow.holds Try.pinned (OpenSpec.ofChange ownerApartWrong)

/-- 'purlinlaw15.OwnerOwn': WHATEVER THE INPUT: true; the input reads as it did. -/
def ownerOwnSpec : ChangeSpec := { name := "ownerOwn", fn := fun _ => fun
  | [d1, d2] => { results := [.lit (.bool true)], args := [d1, d2] }
  | _ => none }
def ownerOwnRow : OpenClaim := { program := "ytoieakkaopbjaaa", sum := "53b3dcc922c0e0275ca1a23e1af17d761938bd0255711e302680633caa389b10", func := "purlin/purlinlaw15.OwnerOwn", spec := "ownerOwn", unfollowed := true, recurses := true, plainKeys := false, apart := false }
def OwnerOwnSaid : Prop := ownerOwnRow.holds Try.pinned (OpenSpec.ofChange ownerOwnSpec)

/-- ITS FALSE NEIGHBOUR: 'it returns false'. Refute it at one input. -/
def ownerOwnWrong : ChangeSpec := { name := "ownerOwn", fn := fun _ => fun
  | [d1, d2] => { results := [.lit (.bool false)], args := [d1, d2] }
  | _ => none }
def OwnerOwnWrongFalsely : Prop := ownerOwnRow.holds Try.pinned (OpenSpec.ofChange ownerOwnWrong)

/-- 'purlinlaw15.OwnerPlays': WHATEVER THE INPUT: true; the input reads as it did. -/
def ownerPlaysSpec : ChangeSpec := { name := "ownerPlays", fn := fun _ => fun
  | [d] => { results := [.lit (.bool true)], args := [d] }
  | _ => none }
def ownerPlaysRow : OpenClaim := { program := "ytoieakkaopbjaaa", sum := "53b3dcc922c0e0275ca1a23e1af17d761938bd0255711e302680633caa389b10", func := "purlin/purlinlaw15.OwnerPlays", spec := "ownerPlays", unfollowed := true, recurses := true, plainKeys := false, apart := false }
def OwnerPlaysSaid : Prop := ownerPlaysRow.holds Try.pinned (OpenSpec.ofChange ownerPlaysSpec)

/-- ITS FALSE NEIGHBOUR: 'it returns false'. Refute it at one input. -/
def ownerPlaysWrong : ChangeSpec := { name := "ownerPlays", fn := fun _ => fun
  | [d] => { results := [.lit (.bool false)], args := [d] }
  | _ => none }
def OwnerPlaysWrongFalsely : Prop := ownerPlaysRow.holds Try.pinned (OpenSpec.ofChange ownerPlaysWrong)

/-- 'purlinlaw15.OwnerNone': WHATEVER THE INPUT: true; the input reads as it did. -/
def ownerNoneSpec : ChangeSpec := { name := "ownerNone", fn := fun _ => fun
  | [d1, d2] => { results := [.lit (.bool true)], args := [d1, d2] }
  | _ => none }
def ownerNoneRow : OpenClaim := { program := "ytoieakkaopbjaaa", sum := "53b3dcc922c0e0275ca1a23e1af17d761938bd0255711e302680633caa389b10", func := "purlin/purlinlaw15.OwnerNone", spec := "ownerNone", unfollowed := true, recurses := true, plainKeys := false, apart := false }
def OwnerNoneSaid : Prop := ownerNoneRow.holds Try.pinned (OpenSpec.ofChange ownerNoneSpec)

/-- ITS FALSE NEIGHBOUR: 'it returns false'. Refute it at one input. -/
def ownerNoneWrong : ChangeSpec := { name := "ownerNone", fn := fun _ => fun
  | [d1, d2] => { results := [.lit (.bool false)], args := [d1, d2] }
  | _ => none }
def OwnerNoneWrongFalsely : Prop := ownerNoneRow.holds Try.pinned (OpenSpec.ofChange ownerNoneWrong)

/- THE SECOND FORM. 'bulk': how many values and letters a reading holds, each counted each time it is reached (what is shared counts as often as it is met; a slice's spare places count too). A statement '..UptoSaid' is the law's where the arguments, and the package variables that the reading takes, are together of bulk at most 1048576: NARROWER than '..Said'. Prove '..Said' where nothing that the law and all that it calls make is longer than what came in: it says more and counts as full. Else prove '..UptoSaid'. A law counts once. -/
mutual
def uptoBulk {H : Type} : DataW H → Nat
  | .lit (.string bytes) => bytes.length + 1
  | .lit _ => 1
  | .nil => 1
  | .ptr d => uptoBulk d + 1
  | .slice elems spare => uptoBulkAll elems + uptoBulkAll spare + 1
  | .agg parts => uptoBulkAll parts + 1
  | .iface _ d => uptoBulk d + 1
  | .map entries => uptoBulkEntries entries + 1
  | .held _ => 1
def uptoBulkAll {H : Type} : List (DataW H) → Nat
  | [] => 0
  | d :: r => uptoBulk d + uptoBulkAll r
def uptoBulkEntries {H : Type} : List (Lit × DataW H) → Nat
  | [] => 0
  | x :: r => uptoBulkEntry x + uptoBulkEntries r
def uptoBulkEntry {H : Type} : Lit × DataW H → Nat
  | (.string bytes, d) => bytes.length + uptoBulk d + 1
  | (_, d) => uptoBulk d + 1
 end
def uptoSmall : (H : Type) → List (DataW H) → Bool := fun _ ds => decide (uptoBulkAll ds ≤ 1048576)
def OpenSpec.upto (s : _root_.Go.ChangeSpec) : _root_.Go.OpenSpec := { _root_.Go.OpenSpec.ofChange s with cond := some uptoSmall }

/-- 'purlinlaw15.OwnerApart', WHERE WHAT IT READS IS OF BULK AT MOST 1048576: true; the input reads as it did. -/
def ownerApartUptoRow : OpenClaim := { program := "ytoieakkaopbjaaa", sum := "53b3dcc922c0e0275ca1a23e1af17d761938bd0255711e302680633caa389b10", func := "purlin/purlinlaw15.OwnerApart", spec := "ownerApart", plainKeys := false, apart := false, narrowed := true }
def OwnerApartUptoSaid : Prop := ownerApartUptoRow.holds Try.pinned (OpenSpec.upto ownerApartSpec)

/-- 'purlinlaw15.OwnerOwn', WHERE WHAT IT READS IS OF BULK AT MOST 1048576: true; the input reads as it did. -/
def ownerOwnUptoRow : OpenClaim := { program := "ytoieakkaopbjaaa", sum := "53b3dcc922c0e0275ca1a23e1af17d761938bd0255711e302680633caa389b10", func := "purlin/purlinlaw15.OwnerOwn", spec := "ownerOwn", unfollowed := true, recurses := true, plainKeys := false, apart := false, narrowed := true }
def OwnerOwnUptoSaid : Prop := ownerOwnUptoRow.holds Try.pinned (OpenSpec.upto ownerOwnSpec)

/-- 'purlinlaw15.OwnerPlays', WHERE WHAT IT READS IS OF BULK AT MOST 1048576: true; the input reads as it did. -/
def ownerPlaysUptoRow : OpenClaim := { program := "ytoieakkaopbjaaa", sum := "53b3dcc922c0e0275ca1a23e1af17d761938bd0255711e302680633caa389b10", func := "purlin/purlinlaw15.OwnerPlays", spec := "ownerPlays", unfollowed := true, recurses := true, plainKeys := false, apart := false, narrowed := true }
def OwnerPlaysUptoSaid : Prop := ownerPlaysUptoRow.holds Try.pinned (OpenSpec.upto ownerPlaysSpec)

/-- 'purlinlaw15.OwnerNone', WHERE WHAT IT READS IS OF BULK AT MOST 1048576: true; the input reads as it did. -/
def ownerNoneUptoRow : OpenClaim := { program := "ytoieakkaopbjaaa", sum := "53b3dcc922c0e0275ca1a23e1af17d761938bd0255711e302680633caa389b10", func := "purlin/purlinlaw15.OwnerNone", spec := "ownerNone", unfollowed := true, recurses := true, plainKeys := false, apart := false, narrowed := true }
def OwnerNoneUptoSaid : Prop := ownerNoneUptoRow.holds Try.pinned (OpenSpec.upto ownerNoneSpec)

end Rows
end Go.Proofs.Ytoieakkaopbjaaa
