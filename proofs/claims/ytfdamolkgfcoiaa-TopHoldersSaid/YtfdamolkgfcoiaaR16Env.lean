/- Layer 16: the environment of its functions; counts.rows, Table.Exported by their contracts. -/
import Derived.Test.YtfdamolkgfcoiaaR16Code
import Derived.Test.YtfdamolkgfcoiaaRS
import Derived.Test.YtfdamolkgfcoiaaTW
import Derived.Test.YtfdamolkgfcoiaaTZ
set_option autoImplicit false
namespace Tree.R16
open Go Tree
noncomputable def env16 : Env := { gl := fun _ => [], fns := fun g => match Nat.beq g 418 with
    | true => some (.ext rowsF)
    | false => match Nat.beq g 401 with
      | true => some (.ext exportedF)
      | false => lookE fnTable16 g }
theorem env16_ext (g : Nat) (F : List LV → Obs → Option LV) (hg : env16.fns g = some (.ext F)) : (g = 418 ∧ F = rowsF) ∨ (g = 401 ∧ F = exportedF) := by
  simp only [env16] at hg
  split at hg
  · rename_i h; injection hg with hg; injection hg with hg; exact .inl ⟨Nat.eq_of_beq_eq_true h, hg.symm⟩
  · split at hg
    · rename_i h; injection hg with hg; injection hg with hg; exact .inr ⟨Nat.eq_of_beq_eq_true h, hg.symm⟩
    · exact (lookE_ext hg).elim
end Tree.R16
