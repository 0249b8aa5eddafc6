/- Layer T: the E-code is the program's. -/
import Derived.Test.YtphdgjglofapbaaDoorTE
import Derived.Test.YtphdgjglofapbaaDoorLTEnv
import Derived.Test.YtphdgjglofapbaaDoorChecked
set_option autoImplicit false
namespace Tree
open Go Go.Proofs
noncomputable def tabT : Tab := { P := Tryd.prog, nu := nuTableT, eqT := [(5023, 26), (345048, 85)], glT := [(0, 0)] }
theorem tabT_tab : TabOk tabT := tabOk_of (by decide +kernel)
theorem tabT_eq : EqOk tabT := eqOk_of (by decide +kernel)
theorem tabT_mixed : tabT.P.follows .mixedOrders = true := by decide +kernel
set_option maxRecDepth 100000
theorem tabT_code : nuTableT.all (fun e => codeB tabT envT.fns e.1 e.2) = true := by decide +kernel
end Tree
