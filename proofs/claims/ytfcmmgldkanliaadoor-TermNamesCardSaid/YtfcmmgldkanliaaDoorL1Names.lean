/- Layer 1: the law TermNames, what E answers. -/
import Derived.Test.YtfcmmgldkanliaaDoorL1Name
import Derived.Test.YtfcmmgldkanliaaDoorL1IsName
import Derived.Test.YtfcmmgldkanliaaDoorL1Live
set_option autoImplicit false
set_option linter.unusedVariables false
set_option linter.unusedSimpArgs false
namespace Tree
open Go
set_option maxHeartbeats 4000000
set_option maxRecDepth 100000
theorem termNames_ok (s : ByteArray) (hs : s.size ≤ maxLen) (a b c d : Int) : Gives env1 565 [.str s, nm a b, nm c d] [] 0 (.bool true, []) := by
  obtain ⟨r, hr⟩ : ∃ r : Bool, r = true ↔ NameP s.data.toList := ⟨@decide (NameP s.data.toList) (Classical.propDecidable _), @decide_eq_true_iff _ (Classical.propDecidable _)⟩
  refine gives_code (f := tf565) rfl ?_
  conv => whnf
  refine ⟨_, _, less_ok a b c d [] _, fun _ => rfl, ?_⟩
  conv => whnf
  refine ⟨_, _, less_ok c d a b [] _, fun _ => rfl, ?_⟩
  conv => whnf
  refine ⟨_, _, live_ok, fun _ => rfl, ?_⟩
  conv => whnf
  refine ⟨_, _, isName_ok s hs [] _ r hr, fun _ => rfl, ?_⟩
  conv => whnf
  refine ⟨_, _, refIsName_ok s hs [] _ r hr, fun _ => rfl, ?_⟩
  conv => whnf
  refine sel_t (by simp) ?_
  conv => whnf
  refine ⟨_, _, refLess_ok a b c d [] _, fun _ => rfl, ?_⟩
  conv => whnf
  refine sel_t (by simp) ?_
  conv => whnf
  generalize hx : (decide (a < c) || decide (a = c) && decide (b < d)) = x
  generalize hy : (decide (c < a) || decide (c = a) && decide (d < b)) = y
  clear hr hs
  cases x <;> cases y <;> (conv => whnf)
  all_goals repeat' (refine sel_split (fun _ => ?_) (fun _ => ?_) <;> (conv => whnf))
  all_goals refine ⟨rfl, ?_, rfl⟩
  all_goals simp only [Bool.or_eq_true, Bool.or_eq_false_iff, Bool.and_eq_true, Bool.and_eq_false_imp, decide_eq_true_eq, decide_eq_false_iff_not] at hx hy
  · have h1 : a = c := by omega
    have h2 : b = d := by have := hx.2 h1; have := hy.2 h1.symm; omega
    subst h1; subst h2; simp [tupE]
  · have h1 : ¬ (a = c ∧ b = d) := by omega
    simp [tupE]; omega
  · have h1 : ¬ (a = c ∧ b = d) := by omega
    simp [tupE]; omega
  · omega
end Tree
