/- TopWords: the E-code is the program's. -/
import Derived.Test.YtlfifgganibjiaaDoorTE
import Derived.Test.YtlfifgganibjiaaDoorLWEnv
import Derived.Test.YtlfifgganibjiaaDoorChecked
set_option autoImplicit false
namespace Tree
open Go Go.Proofs
noncomputable def tabW : Tab := { P := Tryd.prog, nu := nuTableW, eqT := [(345048, 42)], glT := [(0, 0)], lps := lookL lpTable2, ifs := [2] }
theorem tabW_tab : TabOk tabW := tabOk_of (by decide +kernel)
theorem tabW_eq : EqOk tabW := eqOk_of (by decide +kernel)
theorem tabW_mixed : tabW.P.follows .mixedOrders = true := by decide +kernel
set_option maxRecDepth 100000
theorem tabW_code : nuTableW.all (fun e => codeB tabW envW.fns e.1 e.2) = true := by decide +kernel
theorem tabW_code2 : nuTableW.all (fun e => codeB tabW env2r.fns e.1 e.2) = true := by decide +kernel
end Tree
