/- Layer 11: arguments that are terms. -/
import Derived.Test.YtoofpbdalgopgaaDoorTY
import Derived.Test.YtoofpbdalgopgaaDoorL11Chk
set_option autoImplicit false
set_option linter.unusedVariables false
namespace Tree.W11
open Go Go.Proofs
theorem ty11 : TermTy tab11.P 43 26 := ⟨by kernel_rfl, by kernel_rfl, by kernel_rfl, by kernel_rfl, by kernel_rfl, by kernel_rfl⟩
end Tree.W11
