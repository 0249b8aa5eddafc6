/- Layer 1: the environment of its functions. -/
import Derived.Test.YtfdamolkgfcoiaaL1Code
import Derived.Test.YtfdamolkgfcoiaaTX
import Derived.Test.YtfdamolkgfcoiaaTW
set_option autoImplicit false
namespace Tree
open Go
def nm (a b : Int) : LV := .agg [.int .i64 a, .int .i64 b]
end Tree
