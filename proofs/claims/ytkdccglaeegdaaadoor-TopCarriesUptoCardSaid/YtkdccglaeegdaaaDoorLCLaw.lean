/- Layer C: from E's answer to the law's call: the listed variable, what stands behind the call. -/
import Derived.Test.YtkdccglaeegdaaaDoorTG
import Derived.Test.YtkdccglaeegdaaaDoorTF
import Derived.Test.YtkdccglaeegdaaaDoorTY
import Derived.Test.YtkdccglaeegdaaaDoorLCExt
import Derived.Test.YtkdccglaeegdaaaDoorCards
import Derived.Test.YtkdccglaeegdaaaDoorTie
import Derived.ProofKit
import Derived.Deep.DeepHandedRow
set_option autoImplicit false
set_option linter.unusedVariables false
namespace Tree
open Go Go.Proofs Go.Proofs.YtkdccglaeegdaaaDoor
theorem gSigns : Tryd.prog.globalNamed "purlin/term.signs" = some 0 := by kernel_rfl
theorem ownC : ownKnob Tryd.prog.godebug = none := by kernel_rfl
theorem laidOutC : laidOutB Tryd.prog = true := by kernel_rfl
theorem globsC {W : World} (h : laidMet Tryd.prog [("purlin/term.signs", Rows.laid_purlin_term_signs)] W) : Globs tabC envC.gl (Mem.start W) :=
  globs_signs (T := tabC) (g := 0) (t := 106) (e := 9) rfl rfl rfl rfl gSigns (by kernel_rfl) (by kernel_rfl) (by kernel_rfl) (by kernel_rfl) (by kernel_rfl) h
theorem bulkyC {H : Type} : Bulky (Rows.uptoBulk (H := H)) (Rows.uptoBulkAll (H := H)) where
  str := fun b => by simp [Rows.uptoBulk]
  lit := fun l => by cases l <;> simp [Rows.uptoBulk]
  nil := by simp [Rows.uptoBulk]
  slice := fun a b => by simp [Rows.uptoBulk]
  agg := fun a => by simp [Rows.uptoBulk]
  nilA := by simp [Rows.uptoBulkAll]
  consA := fun d r => by simp [Rows.uptoBulkAll]
/-- A world for the witness: the settled one, the table holding what its initialiser lays. -/
noncomputable def laidWorld (os : Os) : World :=
  { World.holding Tryd.prog os ⟨#[], #[], []⟩ with heap := (World.holding Tryd.prog os ⟨#[], #[], []⟩).heap.modify 0 fun
      | .cells _ t frozen => .cells (signBytes.map fun z => Value.string ⟨z.toArray⟩).toArray t frozen
      | o => o }
end Tree
