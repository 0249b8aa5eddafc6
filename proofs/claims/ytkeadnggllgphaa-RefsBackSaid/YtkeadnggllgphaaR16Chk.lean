/- Layer 16: the E-code is the program's. -/
import Derived.Test.YtkeadnggllgphaaTE
import Derived.Test.YtkeadnggllgphaaR16Env
import Derived.Test.YtkeadnggllgphaaChecked
set_option autoImplicit false
namespace Tree.R16
open Go Go.Proofs Tree
noncomputable def tab16 : Tab := { P := Try.prog, nu := nuTable16, eqT := [(5023, 34), (21104, 88), (85103, 59)], glT := [] }
theorem tab16_tab : TabOk tab16 := tabOk_of (by decide +kernel)
theorem tab16_eq : EqOk tab16 := eqOk_of (by decide +kernel)
theorem tab16_mixed : tab16.P.follows .mixedOrders = true := by decide +kernel
set_option maxRecDepth 100000
theorem tab16_code : nuTable16.all (fun e => codeB tab16 env16.fns e.1 e.2) = true := by decide +kernel
end Tree.R16
