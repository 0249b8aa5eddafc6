/- Layer 6: the hands' lists of numbers, and Reckon of the document. -/
import Derived.Test.YtphdgjglofapbaaDoorTLe
set_option autoImplicit false
set_option linter.unusedVariables false
set_option linter.unusedSimpArgs false
namespace Tree
open Go
set_option maxHeartbeats 8000000
set_option maxRecDepth 100000
end Tree

set_option autoImplicit false
set_option linter.unusedVariables false
set_option linter.unusedSimpArgs false
namespace Tree
open Go
set_option maxHeartbeats 8000000
set_option maxRecDepth 100000
def zi (n : Int) : LV := .int .i64 n
end Tree

set_option autoImplicit false
set_option linter.unusedVariables false
set_option linter.unusedSimpArgs false
namespace Tree
open Go
set_option maxHeartbeats 8000000
set_option maxRecDepth 100000
end Tree
