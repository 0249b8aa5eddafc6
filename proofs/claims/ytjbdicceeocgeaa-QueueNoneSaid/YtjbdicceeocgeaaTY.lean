/- The bulk of terms bounds their cells. -/
import Derived.Test.YtjbdicceeocgeaaTF
import Derived.Test.YtjbdicceeocgeaaTLb
set_option autoImplicit false
set_option linter.unusedVariables false
namespace Tree
open Go
end Tree

set_option autoImplicit false
set_option linter.unusedVariables false
namespace Tree
open Go
/-- The types of cells and terms of a program. -/
structure TermTy (P : Program) (tc tt : TypeId) : Prop where
  sc : shOf P 8 tc = some [.i .u8, .s, .i .i64, .i .i64, .i .i64]
  st : shOf P 8 tt = some [.sl tc]
  cc : P.cellsOf tc = 5
  bc : P.bytesOf tc = 48
  ct : P.cellsOf tt = 1
  bt : P.bytesOf tt = 24
section
variable {P : Program} {tc tt : TypeId} (Y : TermTy P tc tt)
include Y
end
end Tree
