/- The law TopCarries: the environment of its functions: those of layer 11, and the net's. -/
import Derived.Test.YtkdccglaeegdaaaDoorLCCode
import Derived.Test.YtkdccglaeegdaaaDoorL11Env
import Derived.Test.YtkdccglaeegdaaaDoorTX
set_option autoImplicit false
namespace Tree
open Go
noncomputable def envC : Env := { gl := env11.gl, fns := fun g => match env11.fns g with
  | some e => some e
  | none => match Nat.beq g 635 with
    | true => some (.ext bcloneF)
    | false => match Nat.beq g 661 with
      | true => some (.ext (growF 5 56))
      | false => lookE fnTableC g }
theorem leC : EnvLe env11 envC := ⟨rfl, fun g e h => by simp only [envC]; rw [h], lps0 rfl, rfl, fx0 rfl⟩
theorem envC_ext (g : Nat) (F : List LV → Obs → Option LV) (hg : envC.fns g = some (.ext F)) : (g = 635 ∧ F = bcloneF) ∨ (g = 661 ∧ F = growF 5 56) ∨ (g = 39 ∧ F = cloneF 5 48) ∨ (g = 564 ∧ F = growF 5 48) ∨ (g = 484 ∧ F = frzF env11r 484) ∨ (g = 221 ∧ F = frzF env11r 221) := by
  simp only [envC] at hg
  split at hg
  · rename_i e h
    injection hg with hg; subst hg
    have h2 : (match ([484, 221] : List Nat).contains g with | true => some (Entry.ext (frzF env11r g)) | false => env11r.fns g) = some (.ext F) := h
    split at h2
    · rename_i hc
      injection h2 with h2; injection h2 with h2
      simp only [List.contains_cons, List.contains_nil, Bool.or_false, Bool.or_eq_true, beq_iff_eq] at hc
      rcases hc with rfl | rfl
      · exact .inr (.inr (.inr (.inr (.inl ⟨rfl, h2.symm⟩))))
      · exact .inr (.inr (.inr (.inr (.inr ⟨rfl, h2.symm⟩))))
    · rcases env11r_ext g F h2 with h | h
      · exact .inr (.inr (.inl h))
      · exact .inr (.inr (.inr (.inl h)))
  · split at hg
    · rename_i h; injection hg with hg; injection hg with hg; exact .inl ⟨Nat.eq_of_beq_eq_true h, hg.symm⟩
    · split at hg
      · rename_i h; injection hg with hg; injection hg with hg; exact .inr (.inl ⟨Nat.eq_of_beq_eq_true h, hg.symm⟩)
      · exact (lookE_ext hg).elim
end Tree
