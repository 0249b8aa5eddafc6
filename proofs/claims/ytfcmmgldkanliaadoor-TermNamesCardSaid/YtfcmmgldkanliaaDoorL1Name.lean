/- Layer 1: the names and their order, what E answers. -/
import Derived.Test.YtfcmmgldkanliaaDoorL1Env
set_option autoImplicit false
set_option linter.unusedVariables false
set_option linter.unusedSimpArgs false
namespace Tree
open Go
set_option maxHeartbeats 4000000
set_option maxRecDepth 100000
theorem less_ok (a b c d : Int) (ob : Obs) (pb : Nat) : Gives env1 0 [nm a b, nm c d] ob pb (.bool (decide (a < c) || decide (a = c) && decide (b < d)), ob) := by
  refine gives_code (f := tf0) rfl ?_
  conv => whnf
  refine sel_split (fun h => ?_) (fun h => ?_)
  · conv => whnf
    refine ⟨rfl, ?_, rfl⟩
    simp [h, tupE]
  · conv => whnf
    refine sel_split (fun h2 => ?_) (fun h2 => ?_)
    · conv => whnf
      refine ⟨rfl, ?_, rfl⟩
      simp at h h2
      simp [h, h2, tupE]
    · conv => whnf
      refine ⟨rfl, ?_, rfl⟩
      simp at h h2
      simp [h, h2, tupE]
theorem refLess_ok (a b c d : Int) (ob : Obs) (pb : Nat) : Gives env1 5 [nm a b, nm c d] ob pb (.bool (decide (a < c) || decide (a = c) && decide (b < d)), ob) := by
  refine gives_code (f := tf5) rfl ?_
  conv => whnf
  refine sel_split (fun h => ?_) (fun h => ?_)
  · conv => whnf
    refine ⟨rfl, ?_, rfl⟩
    simp [h, tupE]
  · conv => whnf
    refine sel_split (fun h2 => ?_) (fun h2 => ?_)
    · conv => whnf
      refine ⟨rfl, ?_, rfl⟩
      simp at h h2
      simp [h, h2, tupE]
    · conv => whnf
      refine ⟨rfl, ?_, rfl⟩
      simp at h h2
      simp [h, h2, tupE]
end Tree
