/- Layer 2: tokens farther on. -/
import Derived.Test.YtlfifgganibjiaaDoorL2Q
set_option autoImplicit false
set_option linter.unusedVariables false
set_option linter.unusedSimpArgs false
namespace Tree.X02
open Go
set_option maxHeartbeats 2000000
set_option maxRecDepth 100000
section
variable {s s' : ByteArray} {b D : Nat} (h : s'.data.toList.drop (b + D) = s.data.toList.drop b)
include h
end
end Tree.X02
