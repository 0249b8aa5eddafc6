/- Layer 4: the environment with the hands' functions; HandCells and 'live' stand there as what they give. -/
import Derived.Test.YtpjoppajohmmnaaDoorL4bCode
import Derived.Test.YtpjoppajohmmnaaDoorL4Env
import Derived.Test.YtpjoppajohmmnaaDoorTZ
set_option autoImplicit false
namespace Tree
open Go
noncomputable def env4r : Env := { fns := fun g => match env4.fns g with
    | some e => some e
    | none => match lookE fnTableH g with
      | some e => some e
      | none => lookE fnTable4b g, gl := env4.gl }
noncomputable def env4h : Env := frzEnv env4r [209]
theorem le4r : EnvLe env4 env4r := ⟨rfl, fun g e h => by simp only [env4r]; rw [h]⟩
theorem le4h : EnvLe env4 env4h := ⟨rfl, fun g e h => by
  by_cases hg : g = 209
  · subst hg; exact absurd h (by have : env4.fns 209 = none := rfl; rw [this]; simp)
  · have : ([209] : List Nat).contains g = false := by simp [hg]
    show (match ([209] : List Nat).contains g with | true => _ | false => env4r.fns g) = _
    rw [this]; exact le4r.fns g e h⟩
theorem env4r_ext (g : Nat) (F : List LV → Option LV) (hg : env4r.fns g = some (.ext F)) : (g = 39 ∧ F = cloneF 5 48) ∨ (g = 574 ∧ F = growF 1 24) ∨ (g = 564 ∧ F = growF 5 48) := by
  simp only [env4r] at hg
  split at hg
  · rename_i e h
    injection hg with hg; subst hg
    exact env4_ext g F h
  · split at hg
    · rename_i e h
      injection hg with hg; subst hg
      exact (lookE_ext h).elim
    · exact (lookE_ext hg).elim
end Tree
