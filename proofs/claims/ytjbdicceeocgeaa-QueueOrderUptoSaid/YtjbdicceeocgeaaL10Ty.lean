/- Layer 10: the types of its arguments. -/
import Derived.Test.YtjbdicceeocgeaaL10Data
import Derived.Test.YtjbdicceeocgeaaL10Chk
set_option autoImplicit false
set_option linter.unusedVariables false
namespace Tree.Q10
open Go Go.Proofs
theorem gty10 : GoalTy tab10.P 100 31 33 24 := ⟨⟨by kernel_rfl, by kernel_rfl, by kernel_rfl, by kernel_rfl, by kernel_rfl, by kernel_rfl⟩, by kernel_rfl, by kernel_rfl, by kernel_rfl, by kernel_rfl⟩
end Tree.Q10
