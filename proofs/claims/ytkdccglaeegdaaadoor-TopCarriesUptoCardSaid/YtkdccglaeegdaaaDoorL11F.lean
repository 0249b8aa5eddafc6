/- Layer 11, WireMessages: what E answers. -/
import Derived.Test.YtkdccglaeegdaaaDoorL11E
import Derived.Test.YtkdccglaeegdaaaDoorTLb
import Derived.Test.YtkdccglaeegdaaaDoorTLg
set_option autoImplicit false
set_option linter.unusedVariables false
set_option linter.unusedSimpArgs false
namespace Tree.W11
open Go
set_option maxHeartbeats 8000000
set_option maxRecDepth 100000
end Tree.W11
