/- TopHolders: from E's answer to the law's call. -/
import Derived.Test.YtfdamolkgfcoiaaTG
import Derived.Test.YtfdamolkgfcoiaaTF
import Derived.Test.YtfdamolkgfcoiaaTHE
import Derived.Test.YtfdamolkgfcoiaaTHL
import Derived.Test.YtfdamolkgfcoiaaRows
import Derived.ProofKit
import Derived.Deep.DeepHandedRow
set_option autoImplicit false
set_option linter.unusedVariables false
namespace Tree
open Go Go.Proofs Go.Proofs.Ytfdamolkgfcoiaa
noncomputable abbrev tabH : Tab := TH.tabH
noncomputable abbrev envH : Env := TH.envH
theorem envH_ok : EnvOk tabH envH := TH.envH_ok
theorem ownH : ownKnob Try.prog.godebug = none := by kernel_rfl
theorem laidOutH : laidOutB Try.prog = true := by kernel_rfl
theorem globsH {W : World} (h : laidMet Try.prog [] W) : Globs tabH envH.gl (Mem.start W) := ⟨fun g h hg => by simp [TH.tabH] at hg, fun g hg => by simp [TH.tabH] at hg⟩
theorem bulkyH {H : Type} : Bulky (Rows.uptoBulk (H := H)) (Rows.uptoBulkAll (H := H)) where
  str := fun b => by simp [Rows.uptoBulk]
  lit := fun l => by cases l <;> simp [Rows.uptoBulk]
  nil := by simp [Rows.uptoBulk]
  slice := fun a b => by simp [Rows.uptoBulk]
  agg := fun a => by simp [Rows.uptoBulk]
  nilA := by simp [Rows.uptoBulkAll]
  consA := fun d r => by simp [Rows.uptoBulkAll]
/-- A world for the witness. -/
noncomputable def laidWorld (os : Os) : World := World.holding Try.prog os ⟨#[], #[], []⟩
end Tree
