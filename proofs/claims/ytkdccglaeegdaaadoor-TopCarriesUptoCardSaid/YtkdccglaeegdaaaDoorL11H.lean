/- Layer 11, WirePrefix: what E answers. -/
import Derived.Test.YtkdccglaeegdaaaDoorL11F
import Derived.Test.YtkdccglaeegdaaaDoorL11G
set_option autoImplicit false
set_option linter.unusedVariables false
set_option linter.unusedSimpArgs false
namespace Tree.W11
open Go
set_option maxHeartbeats 8000000
set_option maxRecDepth 100000
end Tree.W11
