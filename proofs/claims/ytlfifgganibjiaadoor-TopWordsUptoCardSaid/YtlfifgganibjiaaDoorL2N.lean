/- Layer 2: a token depends on nothing behind it; tokens farther on. -/
import Derived.Test.YtlfifgganibjiaaDoorL2K
set_option autoImplicit false
set_option linter.unusedVariables false
set_option linter.unusedSimpArgs false
namespace Tree.X02
open Go
set_option maxHeartbeats 2000000
set_option maxRecDepth 100000
end Tree.X02
