/- TopLast: from E's answer to the law's call. -/
import Derived.Test.YtogeefachdlkiaaTG
import Derived.Test.YtogeefachdlkiaaTF
import Derived.Test.YtogeefachdlkiaaLJExt
import Derived.Test.YtogeefachdlkiaaRows
import Derived.ProofKit
import Derived.Deep.DeepHandedRow
set_option autoImplicit false
set_option linter.unusedVariables false
namespace Tree
open Go Go.Proofs Go.Proofs.Ytogeefachdlkiaa
theorem ownJ : ownKnob Try.prog.godebug = none := by kernel_rfl
theorem laidOutJ : laidOutB Try.prog = true := by kernel_rfl
theorem globsJ {W : World} (h : laidMet Try.prog [] W) : Globs tabJ envJ.gl (Mem.start W) := ⟨fun g h hg => by simp [tabJ] at hg, fun g hg => by simp [tabJ] at hg⟩
theorem bulkyJ {H : Type} : Bulky (Rows.uptoBulk (H := H)) (Rows.uptoBulkAll (H := H)) where
  str := fun b => by simp [Rows.uptoBulk]
  lit := fun l => by cases l <;> simp [Rows.uptoBulk]
  nil := by simp [Rows.uptoBulk]
  slice := fun a b => by simp [Rows.uptoBulk]
  agg := fun a => by simp [Rows.uptoBulk]
  nilA := by simp [Rows.uptoBulkAll]
  consA := fun d r => by simp [Rows.uptoBulkAll]
/-- A world for the witness. -/
noncomputable def laidWorld (os : Os) : World := World.holding Try.prog os ⟨#[], #[], []⟩
end Tree
