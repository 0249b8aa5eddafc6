/- Layer 4: the law CheckOrder, what E answers. -/
import Derived.Test.YtphdgjglofapbaaDoorTLc
set_option autoImplicit false
set_option linter.unusedVariables false
set_option linter.unusedSimpArgs false
namespace Tree
open Go
set_option maxHeartbeats 4000000
set_option maxRecDepth 100000
end Tree

set_option autoImplicit false
set_option linter.unusedVariables false
set_option linter.unusedSimpArgs false
namespace Tree
open Go
set_option maxHeartbeats 4000000
set_option maxRecDepth 100000
theorem okC_kinds {c : C} (h : okC c) : (c.k = 1 ∨ c.k = 2 ∨ c.k = 3 ∨ c.k = 4) ∧ (c.k = 2 → NameP c.text.data.toList) ∧ (c.k = 3 → 1 ≤ c.n) := by
  unfold okC at h
  rcases h with h | h | h | h
  · exact ⟨.inl h.1, fun e => by omega, fun e => by omega⟩
  · exact ⟨.inr (.inl h.1), fun _ => h.2.1, fun e => by omega⟩
  · exact ⟨.inr (.inr (.inl h.1)), fun e => by omega, fun _ => by rcases h.2.2 with g | g <;> omega⟩
  · exact ⟨.inr (.inr (.inr h.1)), fun e => by omega, fun e => by omega⟩
theorem right_kinds {c : C} {r : List C} (h : RightP (c :: r)) : (c.k = 1 ∨ c.k = 2 ∨ c.k = 3 ∨ c.k = 4) ∧ (c.k = 2 → NameP c.text.data.toList) ∧ (c.k = 3 → 1 ≤ c.n) :=
  okC_kinds (((right_walk _).1 h).2.2.2 c (List.mem_cons_self ..))
end Tree
