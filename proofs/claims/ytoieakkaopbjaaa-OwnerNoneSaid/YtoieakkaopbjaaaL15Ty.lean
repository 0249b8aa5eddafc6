/- Layer 15: arguments that are deeds. -/
import Derived.Test.YtoieakkaopbjaaaTF
import Derived.Test.YtoieakkaopbjaaaL15Law2
import Derived.Test.YtoieakkaopbjaaaL15Chk
set_option autoImplicit false
set_option linter.unusedVariables false
namespace Tree.O15
open Go Go.Proofs
end Tree.O15
