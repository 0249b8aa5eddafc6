/- Layer 10: arguments that are goals, names and deeds; what bulk says of them. -/
import Derived.Test.YtjbdicceeocgeaaTY
import Derived.Test.YtjbdicceeocgeaaL10Q2
set_option autoImplicit false
set_option linter.unusedVariables false
namespace Tree.Q10
open Go
structure GoalTy (P : Program) (tc tt tg tn : TypeId) : Prop where
  T : TermTy P tc tt
  sg : shOf P 8 tg = some [.i .i64, .i .i64, .sl tc]
  cg : P.cellsOf tg = 3
  sn : shOf P 8 tn = some [.i .i64, .i .i64]
  cn : P.cellsOf tn = 2
section
variable {P : Program} {tc tt tg tn : TypeId} (Y : GoalTy P tc tt tg tn)
include Y
end
end Tree.Q10
