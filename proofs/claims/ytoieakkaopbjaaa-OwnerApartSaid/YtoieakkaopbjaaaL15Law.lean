/- Layer 15: from E's answer to the law's call. -/
import Derived.Test.YtoieakkaopbjaaaTG
import Derived.Test.YtoieakkaopbjaaaTF
import Derived.Test.YtoieakkaopbjaaaL15Ext
import Derived.Test.YtoieakkaopbjaaaRows
import Derived.ProofKit
import Derived.Deep.DeepHandedRow
set_option autoImplicit false
set_option linter.unusedVariables false
namespace Tree
open Go Go.Proofs Go.Proofs.Ytoieakkaopbjaaa
theorem own15 : ownKnob Try.prog.godebug = none := by kernel_rfl
theorem laidOut15 : laidOutB Try.prog = true := by kernel_rfl
theorem globs15 {W : World} (h : laidMet Try.prog [] W) : Globs tab15 env15.gl (Mem.start W) := fun g h hg => by simp [tab15] at hg
theorem bulky15 {H : Type} : Bulky (Rows.uptoBulk (H := H)) (Rows.uptoBulkAll (H := H)) where
  str := fun b => by simp [Rows.uptoBulk]
  lit := fun l => by cases l <;> simp [Rows.uptoBulk]
  nil := by simp [Rows.uptoBulk]
  slice := fun a b => by simp [Rows.uptoBulk]
  agg := fun a => by simp [Rows.uptoBulk]
  nilA := by simp [Rows.uptoBulkAll]
  consA := fun d r => by simp [Rows.uptoBulkAll]
/-- A world for the witness. -/
noncomputable def laidWorld (os : Os) : World := World.holding Try.prog os ⟨#[], #[], []⟩
end Tree
