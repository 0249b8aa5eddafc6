/- Layer 4: the types of its arguments. -/
import Derived.Test.YtpjoppajohmmnaaDoorTY
import Derived.Test.YtpjoppajohmmnaaDoorL4Chk
set_option autoImplicit false
set_option linter.unusedVariables false
namespace Tree
open Go Go.Proofs
theorem ty4 : TermTy tab4.P 70 37 := ⟨by kernel_rfl, by kernel_rfl, by kernel_rfl, by kernel_rfl, by kernel_rfl, by kernel_rfl⟩
theorem cty4 : ClauseTy tab4.P 70 37 38 40 := ⟨ty4, by kernel_rfl, by kernel_rfl, by kernel_rfl, by kernel_rfl⟩
end Tree
