/- Layer 4: what must be whatever is asked ('live'), reckoned by the kernel. -/
import Derived.Test.YtpjoppajohmmnaaDoorL4Env
import Derived.Test.YtpjoppajohmmnaaDoorL1Live
set_option autoImplicit false
namespace Tree
open Go
theorem live4_kernel : trueNone ((both env4 400).2 275 [] [] 0) = true := by decide +kernel
theorem live4_ok : Gives env4 275 [] [] 0 (.bool true, []) := ⟨400, call_of_both (trueNone_eq live4_kernel)⟩
end Tree
