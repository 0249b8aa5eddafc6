/- Layer 1: what must be whatever is asked ('live'), reckoned by the kernel. -/
import Derived.Test.YtpjoppajohmmnaaDoorL1Env
import Derived.Test.YtpjoppajohmmnaaDoorTW
set_option autoImplicit false
namespace Tree
open Go
def trueNone : Option (LV × Obs) → Bool
  | some (.bool true, []) => true
  | _ => false
theorem trueNone_eq {o : Option (LV × Obs)} (h : trueNone o = true) : o = some (.bool true, []) := by
  unfold trueNone at h
  split at h
  · rfl
  · cases h
end Tree
