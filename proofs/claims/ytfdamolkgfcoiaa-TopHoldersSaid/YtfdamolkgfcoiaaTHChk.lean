/- TopHolders: the E-code is the program's. -/
import Derived.Test.YtfdamolkgfcoiaaTE
import Derived.Test.YtfdamolkgfcoiaaTHEnv
import Derived.Test.YtfdamolkgfcoiaaChecked
set_option autoImplicit false
namespace Tree.TH
open Go Go.Proofs Tree
noncomputable def tabH : Tab := { P := Try.prog, nu := nuTableH, eqT := [(5023, 31), (21104, 56)], glT := [] }
theorem tabH_tab : TabOk tabH := tabOk_of (by decide +kernel)
theorem tabH_eq : EqOk tabH := eqOk_of (by decide +kernel)
theorem tabH_mixed : tabH.P.follows .mixedOrders = true := by decide +kernel
set_option maxRecDepth 100000
theorem tabH_code : nuTableH.all (fun e => codeB tabH envH.fns e.1 e.2) = true := by decide +kernel
theorem tabH_code15 : nuTableH.all (fun e => codeB tabH env15r.fns e.1 e.2) = true := by decide +kernel
end Tree.TH
