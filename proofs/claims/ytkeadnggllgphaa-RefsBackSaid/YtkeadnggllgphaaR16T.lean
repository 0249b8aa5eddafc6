/- Package refs' law RefsSafe: four nodes, the ways between them; send, held, comes. -/
import Derived.Test.YtkeadnggllgphaaR16R
import Derived.Test.YtkeadnggllgphaaTW
set_option autoImplicit false
set_option linter.unusedVariables false
set_option linter.unusedSimpArgs false
namespace Tree.R16
open Go Tree
set_option maxHeartbeats 8000000
set_option maxRecDepth 100000
/-- A message: its kind, holder, times. -/
abbrev Nte := Int × Int × Int
def ntr (m : Nte) : List LV := [.int .i64 m.1, .int .i64 m.2.1, .int .i64 m.2.2]
abbrev Ways := Nat → Nat → List Nte
def upW (w : Ways) (f t : Nat) (l : List Nte) : Ways := fun f' t' => if f' = f ∧ t' = t then l else w f' t'
/-- The world's cells: the tables' addresses, and the ways. -/
structure WC (cs : List LV) (a : Nat) (w : Ways) : Prop where
  len : cs.length = 20
  tab : ∀ i, i < 4 → cs[i]? = some (.optr (a + 3 + 3 * i) 0)
  way : ∀ f t, f < 4 → t < 4 → cs[4 + 4 * f + t]? = some (.sl true 0 3 ((w f t).map ntr) [])
theorem WC.notMap {cs : List LV} {a : Nat} {w : Ways} (h : WC cs a w) : isMapC cs = false := by
  have := h.tab 0 (by omega)
  cases cs with
  | nil => cases this
  | cons x r => simp only [List.getElem?_cons_zero, Option.some.injEq] at this; subst this; rfl
theorem WC.put {cs : List LV} {a : Nat} {w : Ways} (h : WC cs a w) (f t : Nat) (hf : f < 4) (ht : t < 4) (l : List Nte) : WC (cs.set (4 + 4 * f + t) (.sl true 0 3 (l.map ntr) [])) a (upW w f t l) := by
  refine ⟨by simp [h.len], fun i hi => ?_, fun f' t' hf' ht' => ?_⟩
  · rw [List.getElem?_set_ne (by omega)]; exact h.tab i hi
  · unfold upW
    by_cases e : f' = f ∧ t' = t
    · rw [if_pos e, e.1, e.2, List.getElem?_set_self (by rw [h.len]; omega)]
    · rw [if_neg e, List.getElem?_set_ne (by omega)]; exact h.way f' t' hf' ht'
end Tree.R16
