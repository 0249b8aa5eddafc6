/- Lists of numbers handed over: in every environment that has the hand's code. -/
import Derived.Test.YtkdccglaeegdaaaDoorHCode
import Derived.Test.YtkdccglaeegdaaaDoorTW
import Derived.Test.YtkdccglaeegdaaaDoorTLa
import Derived.Test.YtkdccglaeegdaaaDoorTLb
import Derived.Test.YtkdccglaeegdaaaDoorTZ
set_option autoImplicit false
set_option linter.unusedVariables false
set_option linter.unusedSimpArgs false
namespace Tree
open Go
set_option maxHeartbeats 8000000
set_option maxRecDepth 100000
def zi (n : Int) : LV := .int .i64 n
def marks (k : Nat) : List Int := (List.range k).map fun (j : Nat) => (-700 - (j : Int) : Int)
end Tree
