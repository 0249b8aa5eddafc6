/- Layer 16: from E's answer to the law's call. -/
import Derived.Test.YtkeadnggllgphaaTG
import Derived.Test.YtkeadnggllgphaaTF
import Derived.Test.YtkeadnggllgphaaR16E
import Derived.Test.YtkeadnggllgphaaR16Live
import Derived.Test.YtkeadnggllgphaaRows
import Derived.ProofKit
import Derived.Deep.DeepHandedRow
set_option autoImplicit false
set_option linter.unusedVariables false
namespace Tree
open Go Go.Proofs Go.Proofs.Ytkeadnggllgphaa
noncomputable abbrev tab16 : Tab := R16.tab16
noncomputable abbrev env16 : Env := R16.env16z
theorem env16_ok : EnvOk tab16 env16 := frzEnv_ok env16r_ok (by intro g; rfl)
theorem own16 : ownKnob Try.prog.godebug = none := by kernel_rfl
theorem laidOut16 : laidOutB Try.prog = true := by kernel_rfl
theorem globs16 {W : World} (h : laidMet Try.prog [] W) : Globs tab16 env16.gl (Mem.start W) := ⟨fun g h hg => by simp [R16.tab16] at hg, fun g hg => by simp [R16.tab16] at hg⟩
theorem bulky16 {H : Type} : Bulky (Rows.uptoBulk (H := H)) (Rows.uptoBulkAll (H := H)) where
  str := fun b => by simp [Rows.uptoBulk]
  lit := fun l => by cases l <;> simp [Rows.uptoBulk]
  nil := by simp [Rows.uptoBulk]
  slice := fun a b => by simp [Rows.uptoBulk]
  agg := fun a => by simp [Rows.uptoBulk]
  nilA := by simp [Rows.uptoBulkAll]
  consA := fun d r => by simp [Rows.uptoBulkAll]
/-- A world for the witness. -/
noncomputable def laidWorld (os : Os) : World := World.holding Try.prog os ⟨#[], #[], []⟩
end Tree
