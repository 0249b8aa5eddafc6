/- Layer 4: the E-code is the program's. -/
import Derived.Test.YtpjoppajohmmnaaDoorTE
import Derived.Test.YtpjoppajohmmnaaDoorL4Env
import Derived.Test.YtpjoppajohmmnaaDoorChecked
set_option autoImplicit false
namespace Tree
open Go Go.Proofs
noncomputable def tab4 : Tab := { P := Tryd.prog, nu := nuTable4, eqT := [(5023, 68), (6100, 42), (6101, 92), (345048, 70)], glT := [(0, 0)] }
theorem tab4_tab : TabOk tab4 := tabOk_of (by decide +kernel)
theorem tab4_eq : EqOk tab4 := eqOk_of (by decide +kernel)
theorem tab4_mixed : tab4.P.follows .mixedOrders = true := by decide +kernel
set_option maxRecDepth 100000
theorem tab4_code : nuTable4.all (fun e => codeB tab4 env4.fns e.1 e.2) = true := by decide +kernel
end Tree
