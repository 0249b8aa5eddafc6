/- Layer 1: the E-code is the program's. -/
import Derived.Test.YtfcmmgldkanliaaDoorTE
import Derived.Test.YtfcmmgldkanliaaDoorL1Env
import Derived.Test.YtfcmmgldkanliaaDoorChecked
set_option autoImplicit false
namespace Tree
open Go Go.Proofs
noncomputable def tab1 : Tab := { P := Tryd.prog, nu := nuTable, eqT := [5023, 345048] }
theorem tab1_tab : TabOk tab1 := tabOk_of (by decide +kernel)
theorem tab1_eq : EqOk tab1 := eqOk_of (by decide +kernel)
theorem tab1_mixed : tab1.P.follows .mixedOrders = true := by decide +kernel
set_option maxRecDepth 100000
theorem tab1_code : nuTable.all (fun e => codeB tab1 env1.fns e.1 e.2) = true := by decide +kernel
end Tree
