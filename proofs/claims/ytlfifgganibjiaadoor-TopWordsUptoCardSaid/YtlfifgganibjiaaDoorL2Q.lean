/- Layer 2: the next token in another text that is alike up to its end; tokens farther on. -/
import Derived.Test.YtlfifgganibjiaaDoorL2O
set_option autoImplicit false
set_option linter.unusedVariables false
set_option linter.unusedSimpArgs false
namespace Tree.X02
open Go
set_option maxHeartbeats 2000000
set_option maxRecDepth 100000
section
variable {s s' : ByteArray} {b : Nat} (h : s.data.toList.take b = s'.data.toList.take b) (hb : ∀ c, s'.data.toList[b]? = some c → c = 32)
include h hb
end
end Tree.X02
