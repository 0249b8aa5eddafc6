/- Layer 11: the E-code is the program's. -/
import Derived.Test.YtoofpbdalgopgaaDoorTE
import Derived.Test.YtoofpbdalgopgaaDoorL11Env
import Derived.Test.YtoofpbdalgopgaaDoorChecked
set_option autoImplicit false
namespace Tree
open Go Go.Proofs
noncomputable def tab11 : Tab := { P := Tryd.prog, nu := nuTable11, eqT := [(5023, 24), (345048, 43)], glT := [(0, 0)] }
theorem tab11_tab : TabOk tab11 := tabOk_of (by decide +kernel)
theorem tab11_eq : EqOk tab11 := eqOk_of (by decide +kernel)
theorem tab11_mixed : tab11.P.follows .mixedOrders = true := by decide +kernel
set_option maxRecDepth 100000
theorem tab11_code : nuTable11.all (fun e => codeB tab11 env11r.fns e.1 e.2) = true := by decide +kernel
end Tree
