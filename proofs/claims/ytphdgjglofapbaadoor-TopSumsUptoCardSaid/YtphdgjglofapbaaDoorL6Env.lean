/- Layer 6: the environment of its functions, over that of layer 4; the hands' functions and 'live' stand there as what they give. -/
import Derived.Test.YtphdgjglofapbaaDoorL6Code
import Derived.Test.YtphdgjglofapbaaDoorL4Env
import Derived.Test.YtphdgjglofapbaaDoorTX
import Derived.Test.YtphdgjglofapbaaDoorTZ
set_option autoImplicit false
namespace Tree
open Go
noncomputable def env6r : Env := { fns := fun g => match env4.fns g with
    | some e => some e
    | none => match Nat.beq g 265 with
      | true => some (.ext mul64F)
      | false => lookE fnTable6 g, gl := env4.gl }
noncomputable def env6 : Env := frzEnv env6r [209, 221, 219]
theorem le46r : EnvLe env4 env6r := ⟨rfl, fun g e h => by simp only [env6r]; rw [h]⟩
theorem env6r_ext (g : Nat) (F : List LV → Obs → Option LV) (hg : env6r.fns g = some (.ext F)) : (g = 39 ∧ F = cloneF 5 48) ∨ (g = 265 ∧ F = mul64F) ∨ (g = 574 ∧ F = growF 1 24) ∨ (g = 564 ∧ F = growF 5 48) := by
  simp only [env6r] at hg
  split at hg
  · rename_i e h
    injection hg with hg; subst hg
    rcases env4_ext g F h with h | h
    · exact .inl h
    · exact .inr (.inr h)
  · split at hg
    · rename_i h; injection hg with hg; injection hg with hg; exact .inr (.inl ⟨Nat.eq_of_beq_eq_true h, hg.symm⟩)
    · exact (lookE_ext hg).elim
end Tree
