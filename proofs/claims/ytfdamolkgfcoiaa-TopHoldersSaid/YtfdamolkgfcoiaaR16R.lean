/- Package refs: what deeds make of a table (run); two rows of counts compared. -/
import Derived.Test.YtfdamolkgfcoiaaR16Q
import Derived.Test.YtfdamolkgfcoiaaTW
set_option autoImplicit false
set_option linter.unusedVariables false
set_option linter.unusedSimpArgs false
namespace Tree.R16
open Go Tree
set_option maxHeartbeats 8000000
set_option maxRecDepth 100000
structure Dd where
  kind : Int
  node : Int
  times : Int
  lab : Nat
  vs : List NV3
  sp : List (List LV)
def Dd.row (d : Dd) : List LV := [.int .i64 d.kind, .int .i64 d.node, .int .i64 d.times, .sl false d.lab 2 (d.vs.map nr3) d.sp]
end Tree.R16
