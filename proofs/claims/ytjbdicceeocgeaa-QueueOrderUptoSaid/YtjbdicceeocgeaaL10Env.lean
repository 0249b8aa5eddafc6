/- Layer 10: the environment of its functions; 'live' stands there as what it gives. -/
import Derived.Test.YtjbdicceeocgeaaL10Code
import Derived.Test.YtjbdicceeocgeaaL1Env
import Derived.Test.YtjbdicceeocgeaaTZ
set_option autoImplicit false
namespace Tree
open Go
noncomputable def env10r : Env := { gl := env1.gl, fns := fun g => match env1.fns g with
    | some e => some e
    | none => lookE fnTable10 g }
noncomputable def env10 : Env := frzEnv env10r [145]
theorem le110r : EnvLe env1 env10r := ⟨rfl, fun g e h => by simp only [env10r]; rw [h]⟩
theorem le110 : EnvLe env1 env10 := ⟨rfl, fun g e h => by
  by_cases hg : g = 145
  · subst hg; exact absurd h (by have : env1.fns 145 = none := rfl; rw [this]; simp)
  · have : ([145] : List Nat).contains g = false := by simp [hg]
    show (match ([145] : List Nat).contains g with | true => _ | false => env10r.fns g) = _
    rw [this]; exact le110r.fns g e h⟩
theorem env10r_ext (g : Nat) (F : List LV → Obs → Option LV) (hg : env10r.fns g = some (.ext F)) : (g = 39 ∧ F = cloneF 5 48) ∨ (g = 564 ∧ F = growF 5 48) := by
  simp only [env10r] at hg
  split at hg
  · rename_i e h
    injection hg with hg; subst hg
    simp only [env1] at h
    split at h
    · rename_i h1; injection h with h; injection h with h; exact .inr ⟨Nat.eq_of_beq_eq_true h1, h.symm⟩
    · split at h
      · rename_i h1; injection h with h; injection h with h; exact .inl ⟨Nat.eq_of_beq_eq_true h1, h.symm⟩
      · exact (lookE_ext h).elim
  · exact (lookE_ext hg).elim
end Tree
