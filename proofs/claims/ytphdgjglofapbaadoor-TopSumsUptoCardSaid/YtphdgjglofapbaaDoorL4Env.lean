/- Layer 4: the environment of its functions, over that of layer 1. -/
import Derived.Test.YtphdgjglofapbaaDoorL4Code
import Derived.Test.YtphdgjglofapbaaDoorL1Env
import Derived.Test.YtphdgjglofapbaaDoorTW
set_option autoImplicit false
namespace Tree
open Go
noncomputable def env4 : Env := { fns := fun g => match env1.fns g with
    | some e => some e
    | none => match Nat.beq g 574 with
      | true => some (.ext (growF 1 24))
      | false => lookE fnTable4 g, gl := env1.gl }
theorem le14 : EnvLe env1 env4 := ⟨rfl, fun g e h => by simp only [env4]; rw [h]⟩
theorem env1_ext (g : Nat) (F : List LV → Obs → Option LV) (hg : env1.fns g = some (.ext F)) : (g = 39 ∧ F = cloneF 5 48) ∨ (g = 564 ∧ F = growF 5 48) := by
  simp only [env1] at hg
  split at hg
  · rename_i h; injection hg with hg; injection hg with hg; exact .inr ⟨Nat.eq_of_beq_eq_true h, hg.symm⟩
  · split at hg
    · rename_i h; injection hg with hg; injection hg with hg; exact .inl ⟨Nat.eq_of_beq_eq_true h, hg.symm⟩
    · exact (lookE_ext hg).elim
theorem env4_ext (g : Nat) (F : List LV → Obs → Option LV) (hg : env4.fns g = some (.ext F)) : (g = 39 ∧ F = cloneF 5 48) ∨ (g = 574 ∧ F = growF 1 24) ∨ (g = 564 ∧ F = growF 5 48) := by
  simp only [env4] at hg
  split at hg
  · rename_i e h
    injection hg with hg; subst hg
    rcases env1_ext g F h with h | h
    · exact .inl h
    · exact .inr (.inr h)
  · split at hg
    · rename_i h; injection hg with hg; injection hg with hg; exact .inr (.inl ⟨Nat.eq_of_beq_eq_true h, hg.symm⟩)
    · exact (lookE_ext hg).elim
end Tree
