/- purlinlaw02.LexBlanks: what E answers. -/
import Derived.Test.YtlfifgganibjiaaDoorL2V
set_option autoImplicit false
set_option linter.unusedVariables false
set_option linter.unusedSimpArgs false
namespace Tree.X02
open Go
set_option maxHeartbeats 8000000
set_option maxRecDepth 100000
