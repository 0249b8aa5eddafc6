/- TopLast: the E-code is the program's. -/
import Derived.Test.YtogeefachdlkiaaTE
import Derived.Test.YtogeefachdlkiaaLJEnv
import Derived.Test.YtogeefachdlkiaaChecked
set_option autoImplicit false
namespace Tree
open Go Go.Proofs
noncomputable def tabJ : Tab := { P := Try.prog, nu := nuTableJ, eqT := [], glT := [], lps := lookLJ lpTableJ }
theorem tabJ_tab : TabOk tabJ := tabOk_of (by decide +kernel)
theorem tabJ_eq : EqOk tabJ := eqOk_of (by decide +kernel)
theorem tabJ_mixed : tabJ.P.follows .mixedOrders = true := by decide +kernel
set_option maxRecDepth 100000
theorem tabJ_code : nuTableJ.all (fun e => codeB tabJ envJ.fns e.1 e.2) = true := by decide +kernel
end Tree
