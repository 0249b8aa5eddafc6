/- RefsSafe: nobody holds it; exported. -/
import Derived.Test.YtkeadnggllgphaaR16V
set_option autoImplicit false
set_option linter.unusedVariables false
set_option linter.unusedSimpArgs false
namespace Tree.R16
open Go Tree
set_option maxHeartbeats 8000000
set_option maxRecDepth 100000
def FreeS (S : Ws) : Prop := ∀ i, 1 ≤ i → i < 4 → S.H i = 0 ∧ ∀ k, k < 4 → ∀ m ∈ S.w k i, m.1 ≠ 0
theorem hasV_iff (x y : Int) : ∀ es : List En3, hasV x y es = true ↔ ∃ k, k ∈ es.map (·.1) ∧ k.1 = x ∧ k.2.1 = y
  | [] => by simp [hasV]
  | e :: r => by
    simp only [hasV, Bool.or_eq_true, hasV_iff x y r, Bool.and_eq_true, beq_iff_eq, List.map_cons, List.mem_cons]
    constructor
    · rintro (h | ⟨k, h1, h2⟩)
      · exact ⟨e.1, .inl rfl, h.1, h.2⟩
      · exact ⟨k, .inr h1, h2⟩
    · rintro ⟨k, rfl | h1, h2, h3⟩
      · exact .inl ⟨h2, h3⟩
      · exact .inr ⟨k, h1, h2, h3⟩
end Tree.R16
