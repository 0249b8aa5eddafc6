/- Layer 2: the E-code is the program's. -/
import Derived.Test.YtkbpkiebcghghaaDoorTE
import Derived.Test.YtkbpkiebcghghaaDoorL2Env
import Derived.Test.YtkbpkiebcghghaaDoorChecked
set_option autoImplicit false
namespace Tree
open Go Go.Proofs
noncomputable def tab2 : Tab := { P := Tryd.prog, nu := nuTable2, eqT := eqTable2, glT := [], lps := lookL lpTable2, ifs := [2] }
theorem tab2_tab : TabOk tab2 := tabOk_of (by decide +kernel)
theorem tab2_eq : EqOk tab2 := eqOk_of (by decide +kernel)
theorem tab2_mixed : tab2.P.follows .mixedOrders = true := by decide +kernel
set_option maxRecDepth 100000
theorem tab2_code : nuTable2.all (fun e => codeB tab2 env2r.fns e.1 e.2) = true := by decide +kernel
end Tree
