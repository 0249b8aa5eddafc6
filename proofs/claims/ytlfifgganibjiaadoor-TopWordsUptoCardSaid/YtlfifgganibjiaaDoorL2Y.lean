/- Layer 2: tokens joined with a blank between are these tokens. -/
import Derived.Test.YtlfifgganibjiaaDoorL2X
import Derived.Lib.Join
set_option autoImplicit false
set_option linter.unusedVariables false
set_option linter.unusedSimpArgs false
namespace Tree.X02
open Go
set_option maxHeartbeats 4000000
set_option maxRecDepth 100000
section
variable {s s' : ByteArray} {b D : Nat} (h : s'.data.toList.drop (b + D) = s.data.toList.drop b)
include h
end
end Tree.X02
