/- Layer 4b: the E-code is the program's. -/
import Derived.Test.YtpjoppajohmmnaaDoorTE
import Derived.Test.YtpjoppajohmmnaaDoorL4bEnv
import Derived.Test.YtpjoppajohmmnaaDoorChecked
set_option autoImplicit false
namespace Tree
open Go Go.Proofs
noncomputable def tab4b : Tab := { P := Tryd.prog, nu := nuTable4b, eqT := [(5023, 68), (6100, 42), (6101, 92), (345048, 70)], glT := [(0, 0)] }
theorem tab4b_tab : TabOk tab4b := tabOk_of (by decide +kernel)
theorem tab4b_eq : EqOk tab4b := eqOk_of (by decide +kernel)
theorem tab4b_mixed : tab4b.P.follows .mixedOrders = true := by decide +kernel
set_option maxRecDepth 100000
theorem tab4b_code : nuTable4b.all (fun e => codeB tab4b env4r.fns e.1 e.2) = true := by decide +kernel
end Tree
