/- Layer 11: the environment of its functions; 'live' stands there as what it gives. -/
import Derived.Test.YtkdccglaeegdaaaDoorL11Code
import Derived.Test.YtkdccglaeegdaaaDoorL1Env
import Derived.Test.YtkdccglaeegdaaaDoorTZ
set_option autoImplicit false
namespace Tree
open Go
noncomputable def env11r : Env := { gl := env1.gl, fns := fun g => match env1.fns g with
    | some e => some e
    | none => lookE fnTable11 g }
noncomputable def env11 : Env := frzEnv env11r [484, 221]
theorem le111r : EnvLe env1 env11r := ⟨rfl, fun g e h => by simp only [env11r]; rw [h], lps0 rfl, rfl, fx0 rfl⟩
theorem le111 : EnvLe env1 env11 := ⟨rfl, fun g e h => by
  by_cases hg : g = 484 ∨ g = 221
  · rcases hg with rfl | rfl
    · exact absurd h (by have : env1.fns 484 = none := rfl; rw [this]; simp)
    · exact absurd h (by have : env1.fns 221 = none := rfl; rw [this]; simp)
  · have : ([484, 221] : List Nat).contains g = false := by simp only [not_or] at hg; simp [hg]
    show (match ([484, 221] : List Nat).contains g with | true => _ | false => env11r.fns g) = _
    rw [this]; exact le111r.fns g e h, lps0 rfl, rfl, fx0 rfl⟩
theorem env11r_ext (g : Nat) (F : List LV → Obs → Option LV) (hg : env11r.fns g = some (.ext F)) : (g = 39 ∧ F = cloneF 5 48) ∨ (g = 564 ∧ F = growF 5 48) := by
  simp only [env11r] at hg
  split at hg
  · rename_i e h
    injection hg with hg; subst hg
    simp only [env1] at h
    split at h
    · rename_i h1; injection h with h; injection h with h; exact .inr ⟨Nat.eq_of_beq_eq_true h1, h.symm⟩
    · split at h
      · rename_i h1; injection h with h; injection h with h; exact .inl ⟨Nat.eq_of_beq_eq_true h1, h.symm⟩
      · exact (lookE_ext h).elim
  · exact (lookE_ext hg).elim
end Tree
