/- Layer 15: the E-code is the program's. -/
import Derived.Test.YtoieakkaopbjaaaTE
import Derived.Test.YtoieakkaopbjaaaL15Env
import Derived.Test.YtoieakkaopbjaaaChecked
set_option autoImplicit false
namespace Tree
open Go Go.Proofs
noncomputable def tab15 : Tab := { P := Try.prog, nu := nuTable15, eqT := [(5023, 24)], glT := [] }
theorem tab15_tab : TabOk tab15 := tabOk_of (by decide +kernel)
theorem tab15_eq : EqOk tab15 := eqOk_of (by decide +kernel)
theorem tab15_mixed : tab15.P.follows .mixedOrders = true := by decide +kernel
set_option maxRecDepth 100000
theorem tab15_code : nuTable15.all (fun e => codeB tab15 env15r.fns e.1 e.2) = true := by decide +kernel
end Tree
