/- Layer 1: IsName, what E answers. -/
import Derived.Test.YtfdamolkgfcoiaaL1Env
import Derived.Laws.Strings
set_option autoImplicit false
set_option linter.unusedVariables false
set_option linter.unusedSimpArgs false
namespace Tree
open Go
set_option maxHeartbeats 4000000
set_option maxRecDepth 100000
def S1 (s : ByteArray) (ob : Obs) (x : Int) : WSt := ⟨.val (.str s) :: (List.replicate 6 (.val .undef)) ++ .val (.int .i64 s.size) :: .val (.int .i64 x) :: List.replicate 45 (.val .undef), ob, []⟩
end Tree

set_option autoImplicit false
set_option linter.unusedVariables false
set_option linter.unusedSimpArgs false
namespace Tree
open Go
set_option maxHeartbeats 4000000
set_option maxRecDepth 100000
structure C where
  k : Int
  text : ByteArray
  n : Int
  node : Int
  num : Int
def C.row (c : C) : List LV := [.int .u8 c.k, .str c.text, .int .i64 c.n, .int .i64 c.node, .int .i64 c.num]
def C.lv (c : C) : LV := .agg c.row
def partsC (c : C) : Int := if c.k = 3 then (if c.n < 0 then 0 else c.n) else 0
end Tree

set_option autoImplicit false
set_option linter.unusedVariables false
set_option linter.unusedSimpArgs false
namespace Tree
open Go
set_option maxHeartbeats 4000000
set_option maxRecDepth 100000
theorem bool_of {a r : Bool} {P : Prop} (hr : r = true ↔ P) (h : a = true ↔ P) : LV.bool a = LV.bool r := by
  congr 1; rw [Bool.eq_iff_iff, h, hr]
end Tree

set_option autoImplicit false
set_option linter.unusedVariables false
set_option linter.unusedSimpArgs false
namespace Tree
open Go
set_option maxHeartbeats 4000000
set_option maxRecDepth 100000
end Tree

set_option autoImplicit false
set_option linter.unusedVariables false
set_option linter.unusedSimpArgs false
namespace Tree
open Go
set_option maxHeartbeats 4000000
set_option maxRecDepth 100000
end Tree

set_option autoImplicit false
set_option linter.unusedVariables false
set_option linter.unusedSimpArgs false
namespace Tree
open Go
set_option maxHeartbeats 4000000
set_option maxRecDepth 100000
end Tree

set_option autoImplicit false
set_option linter.unusedVariables false
set_option linter.unusedSimpArgs false
namespace Tree
open Go
set_option maxHeartbeats 4000000
set_option maxRecDepth 100000
end Tree
