/- Layer 11: which messages are right: the document's. -/
import Derived.Test.YtkdccglaeegdaaaDoorL11D0
set_option autoImplicit false
set_option linter.unusedVariables false
set_option linter.unusedSimpArgs false
namespace Tree.W11
open Go
set_option maxHeartbeats 8000000
set_option maxRecDepth 100000
end Tree.W11
