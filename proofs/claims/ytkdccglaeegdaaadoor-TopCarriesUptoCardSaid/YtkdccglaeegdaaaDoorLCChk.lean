/- Layer C: the E-code is the program's. -/
import Derived.Test.YtkdccglaeegdaaaDoorTE
import Derived.Test.YtkdccglaeegdaaaDoorLCEnv
import Derived.Test.YtkdccglaeegdaaaDoorChecked
set_option autoImplicit false
namespace Tree
open Go Go.Proofs
noncomputable def tabC : Tab := { P := Tryd.prog, nu := nuTableC, eqT := [(5023, 31), (345048, 80)], glT := [(0, 0)] }
theorem tabC_tab : TabOk tabC := tabOk_of (by decide +kernel)
theorem tabC_eq : EqOk tabC := eqOk_of (by decide +kernel)
theorem tabC_mixed : tabC.P.follows .mixedOrders = true := by decide +kernel
set_option maxRecDepth 100000
theorem tabC_code : nuTableC.all (fun e => codeB tabC envC.fns e.1 e.2) = true := by decide +kernel
end Tree
