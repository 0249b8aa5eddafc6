/- Layer 2: the document's next token. -/
import Derived.Test.YtlfifgganibjiaaDoorL2E
set_option autoImplicit false
set_option linter.unusedVariables false
set_option linter.unusedSimpArgs false
namespace Tree.X02
open Go
set_option maxHeartbeats 8000000
set_option maxRecDepth 100000
end Tree.X02
