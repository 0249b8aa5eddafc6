/- Layer 10: the E-code is the program's. -/
import Derived.Test.YtjbdicceeocgeaaTE
import Derived.Test.YtjbdicceeocgeaaL10Env
import Derived.Test.YtjbdicceeocgeaaChecked
set_option autoImplicit false
namespace Tree
open Go Go.Proofs
noncomputable def tab10 : Tab := { P := Try.prog, nu := nuTable10, eqT := [(5023, 24), (345048, 100)], glT := [] }
theorem tab10_tab : TabOk tab10 := tabOk_of (by decide +kernel)
theorem tab10_eq : EqOk tab10 := eqOk_of (by decide +kernel)
theorem tab10_mixed : tab10.P.follows .mixedOrders = true := by decide +kernel
set_option maxRecDepth 100000
theorem tab10_code : nuTable10.all (fun e => codeB tab10 env10r.fns e.1 e.2) = true := by decide +kernel
end Tree
