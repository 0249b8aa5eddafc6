/- The whole: arguments that are terms, numbers and bindings. -/
import Derived.Test.YtphdgjglofapbaaDoorTY
import Derived.Test.YtphdgjglofapbaaDoorL6Data
import Derived.Test.YtphdgjglofapbaaDoorLTChk
set_option autoImplicit false
set_option linter.unusedVariables false
namespace Tree.HT
open Go Go.Proofs
theorem tyT : TermTy tabT.P 85 23 := ⟨by kernel_rfl, by kernel_rfl, by kernel_rfl, by kernel_rfl, by kernel_rfl, by kernel_rfl⟩
end Tree.HT
