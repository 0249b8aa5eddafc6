/- Layer 10: from E's answer to the law's call. -/
import Derived.Test.YtjbdicceeocgeaaTG
import Derived.Test.YtjbdicceeocgeaaTF
import Derived.Test.YtjbdicceeocgeaaL10Ext
import Derived.Test.YtjbdicceeocgeaaRows
import Derived.ProofKit
import Derived.Deep.DeepHandedRow
set_option autoImplicit false
set_option linter.unusedVariables false
namespace Tree
open Go Go.Proofs Go.Proofs.Ytjbdicceeocgeaa
theorem own10 : ownKnob Try.prog.godebug = none := by kernel_rfl
theorem laidOut10 : laidOutB Try.prog = true := by kernel_rfl
theorem globs10 {W : World} (h : laidMet Try.prog [] W) : Globs tab10 env10.gl (Mem.start W) := fun g h hg => by simp [tab10] at hg
theorem bulky10 {H : Type} : Bulky (Rows.uptoBulk (H := H)) (Rows.uptoBulkAll (H := H)) where
  str := fun b => by simp [Rows.uptoBulk]
  lit := fun l => by cases l <;> simp [Rows.uptoBulk]
  nil := by simp [Rows.uptoBulk]
  slice := fun a b => by simp [Rows.uptoBulk]
  agg := fun a => by simp [Rows.uptoBulk]
  nilA := by simp [Rows.uptoBulkAll]
  consA := fun d r => by simp [Rows.uptoBulkAll]
/-- A world for the witness. -/
noncomputable def laidWorld (os : Os) : World := World.holding Try.prog os ⟨#[], #[], []⟩
end Tree
