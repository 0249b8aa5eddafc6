/- Layer 1: from E's answer to the law's call: the listed variable, the arguments, what stands behind the call. -/
import Derived.Test.YtfcmmgldkanliaaDoorTG
import Derived.Test.YtfcmmgldkanliaaDoorTF
import Derived.Test.YtfcmmgldkanliaaDoorL1Ext
import Derived.Test.YtfcmmgldkanliaaDoorCards
import Derived.Test.YtfcmmgldkanliaaDoorTie
import Derived.ProofKit
import Derived.Deep.DeepHandedRow
set_option autoImplicit false
set_option linter.unusedVariables false
namespace Tree
open Go Go.Proofs Go.Proofs.YtfcmmgldkanliaaDoor
theorem gSigns : Tryd.prog.globalNamed "purlin/term.signs" = some 0 := by kernel_rfl
theorem own1 : ownKnob Tryd.prog.godebug = none := by kernel_rfl
theorem laidOut1 : laidOutB Tryd.prog = true := by kernel_rfl
theorem eq_bytes {s : ByteArray} {z : List UInt8} (h : s.data.toList = z) : s = ⟨z.toArray⟩ := by
  obtain ⟨⟨l⟩⟩ := s; simp at h; subst h; rfl
def signBytes : List (List UInt8) := [[61],[58,61],[64],[43],[45],[42],[60],[61,60],[62],[62,61],[61,58,61],[61,92,61]]
theorem signs_eq : signs = signBytes.map fun z => LV.str ⟨z.toArray⟩ := by rfl
theorem globs1 {W : World} (h : laidMet Tryd.prog [("purlin/term.signs", Rows.laid_purlin_term_signs)] W) : Globs tab1 env1.gl (Mem.start W) := by
  have key : ∀ (i : Nat) z, signBytes[i]? = some z → ∃ s : ByteArray, W.cell? ⟨0, i, none⟩ = some (.string s) ∧ s.data.toList = z :=
    strs_of_head (P := Tryd.prog) (name := "purlin/term.signs") (zs := signBytes) (rest := []) (t := 71) (e := 9) (n := 12) gSigns (by kernel_rfl) (by kernel_rfl) (by kernel_rfl) (by kernel_rfl) (by kernel_rfl) h
  intro g
  by_cases hg : g = 0
  · subst hg
    have e0 : env1.gl 0 = signBytes.map fun z => LV.str ⟨z.toArray⟩ := signs_eq
    rw [e0]
    have hcell : ∀ (j : Nat) lv, (signBytes.map fun z => LV.str ⟨z.toArray⟩)[j]? = some lv → ∃ s : ByteArray, W.cell? ⟨0, j, none⟩ = some (.string s) ∧ lv = .str s := by
      intro j lv hj
      rw [List.getElem?_map] at hj
      obtain ⟨z, hz, rfl⟩ := Option.map_eq_some_iff.1 hj
      obtain ⟨s, h1, h2⟩ := key j z hz
      exact ⟨s, h1, by rw [eq_bytes h2]⟩
    refine Rep.iptr 0 _ 0 0 0 (fun j => (W.cell? ⟨0, j, none⟩).getD undef) (fun j lv hj => ?_) (fun j lv hj => ?_)
    · obtain ⟨s, h1, rfl⟩ := hcell j lv hj
      refine ⟨rfl, ?_, by rw [h1]; rfl⟩
      rw [Nat.zero_add, h1]; exact h1
    · obtain ⟨s, h1, rfl⟩ := hcell j lv hj
      rw [h1]; exact .str s
  · have e0 : env1.gl g = [] := by show (if g = 0 then signs else []) = []; rw [if_neg hg]
    rw [e0]
    exact Rep.iptr 0 [] 0 g 0 (fun _ => undef) (fun j lv hj => by simp at hj) (fun j lv hj => by simp at hj)
theorem bulky1 {H : Type} : Bulky (Rows.uptoBulk (H := H)) (Rows.uptoBulkAll (H := H)) where
  str := fun b => by simp [Rows.uptoBulk]
  lit := fun l => by cases l <;> simp [Rows.uptoBulk]
  nil := by simp [Rows.uptoBulk]
  slice := fun a b => by simp [Rows.uptoBulk]
  agg := fun a => by simp [Rows.uptoBulk]
  nilA := by simp [Rows.uptoBulkAll]
  consA := fun d r => by simp [Rows.uptoBulkAll]
/-- A world for the witness: the settled one, the table (block 0) holding what its initialiser lays. -/
noncomputable def laidWorld (os : Os) : World :=
  { World.holding Tryd.prog os ⟨#[], #[], []⟩ with heap := (World.holding Tryd.prog os ⟨#[], #[], []⟩).heap.modify 0 fun
      | .cells _ t frozen => .cells (signBytes.map fun z => Value.string ⟨z.toArray⟩).toArray t frozen
      | o => o }
end Tree
