/- Layer 6: the E-code is the program's. -/
import Derived.Test.YtmhblapchnldhaaDoorTE
import Derived.Test.YtmhblapchnldhaaDoorL6Env
import Derived.Test.YtmhblapchnldhaaDoorChecked
set_option autoImplicit false
namespace Tree
open Go Go.Proofs
noncomputable def tab6 : Tab := { P := Tryd.prog, nu := nuTable6, eqT := [(5023, 57), (345048, 59)], glT := [(0, 0)] }
theorem tab6_tab : TabOk tab6 := tabOk_of (by decide +kernel)
theorem tab6_eq : EqOk tab6 := eqOk_of (by decide +kernel)
theorem tab6_mixed : tab6.P.follows .mixedOrders = true := by decide +kernel
set_option maxRecDepth 100000
theorem tab6_code : nuTable6.all (fun e => codeB tab6 env6r.fns e.1 e.2) = true := by decide +kernel
end Tree
