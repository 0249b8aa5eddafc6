/- Layer 2: blanks and a remark more are skipped. -/
import Derived.Test.YtlfifgganibjiaaDoorL2S
set_option autoImplicit false
set_option linter.unusedVariables false
set_option linter.unusedSimpArgs false
namespace Tree.X02
open Go
set_option maxHeartbeats 2000000
set_option maxRecDepth 100000
/-- " %", a remark, a new line, a tab. -/
def moreL (r : List UInt8) : List UInt8 := 32 :: 37 :: (r ++ [10, 9])
end Tree.X02
