/- The whole: its environment, over that of layer 6. -/
import Derived.Test.YtphdgjglofapbaaDoorLTCode
import Derived.Test.YtphdgjglofapbaaDoorL6Env
import Derived.Test.YtphdgjglofapbaaDoorTW
set_option autoImplicit false
namespace Tree
open Go
noncomputable def envT : Env := { gl := env6.gl, fns := fun g => match env6.fns g with
    | some e => some e
    | none => lookE fnTableT g }
theorem le6T : EnvLe env6 envT := ⟨rfl, fun g e h => by simp only [envT]; rw [h]⟩
theorem envT_ext (g : Nat) (F : List LV → Obs → Option LV) (hg : envT.fns g = some (.ext F)) : (g = 39 ∧ F = cloneF 5 48) ∨ (g = 265 ∧ F = mul64F) ∨ (g = 574 ∧ F = growF 1 24) ∨ (g = 564 ∧ F = growF 5 48) ∨ (g = 209 ∧ F = frzF env6r 209) ∨ (g = 221 ∧ F = frzF env6r 221) ∨ (g = 219 ∧ F = frzF env6r 219) := by
  simp only [envT] at hg
  split at hg
  · rename_i e h
    injection hg with hg; subst hg
    have h2 : (match ([209, 221, 219] : List Nat).contains g with | true => some (Entry.ext (frzF env6r g)) | false => env6r.fns g) = some (.ext F) := h
    split at h2
    · rename_i hc
      injection h2 with h2; injection h2 with h2
      simp only [List.contains_cons, List.contains_nil, Bool.or_false, Bool.or_eq_true, beq_iff_eq] at hc
      rcases hc with rfl | rfl | rfl
      · exact .inr (.inr (.inr (.inr (.inl ⟨rfl, h2.symm⟩))))
      · exact .inr (.inr (.inr (.inr (.inr (.inl ⟨rfl, h2.symm⟩)))))
      · exact .inr (.inr (.inr (.inr (.inr (.inr ⟨rfl, h2.symm⟩)))))
    · rcases env6r_ext g F h2 with h | h | h | h
      · exact .inl h
      · exact .inr (.inl h)
      · exact .inr (.inr (.inl h))
      · exact .inr (.inr (.inr (.inl h)))
  · exact (lookE_ext hg).elim
end Tree
