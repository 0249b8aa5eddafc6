/- Layer 2: all tokens farther on; more blanks and a remark. -/
import Derived.Test.YtlfifgganibjiaaDoorL2R
set_option autoImplicit false
set_option linter.unusedVariables false
set_option linter.unusedSimpArgs false
namespace Tree.X02
open Go
set_option maxHeartbeats 2000000
set_option maxRecDepth 100000
section
variable {s s' : ByteArray} {b D : Nat} (h : s'.data.toList.drop (b + D) = s.data.toList.drop b) (hb : b ≤ s.size) (hb' : b + D ≤ s'.size)
include h hb hb'
end
end Tree.X02
