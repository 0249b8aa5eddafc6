/- Layer 1: what must be whatever is asked ('live'), reckoned by the kernel. -/
import Derived.Test.YtoieakkaopbjaaaL1Env
import Derived.Test.YtoieakkaopbjaaaTW
set_option autoImplicit false
namespace Tree
open Go
def trueNone : Option (LV × Obs) → Bool
  | some (.bool true, []) => true
  | _ => false
theorem trueNone_eq {o : Option (LV × Obs)} (h : trueNone o = true) : o = some (.bool true, []) := by
  unfold trueNone at h
  split at h
  · rfl
  · cases h
theorem live_kernel : trueNone ((both env1 100).2 3 [] [] 0) = true := by decide +kernel
theorem live_ok : Gives env1 3 [] [] 0 (.bool true, []) := ⟨100, call_of_both (trueNone_eq live_kernel)⟩
end Tree
