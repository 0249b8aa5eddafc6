/- Layer 2: blanks and a remark more ahead of a token change places alone. -/
import Derived.Test.YtlfifgganibjiaaDoorL2U
set_option autoImplicit false
set_option linter.unusedVariables false
set_option linter.unusedSimpArgs false
namespace Tree.X02
open Go
set_option maxHeartbeats 2000000
set_option maxRecDepth 100000
section
variable {s s' : ByteArray} {b : Nat} {r : List UInt8} (hl : s'.data.toList = s.data.toList.take b ++ (moreL r ++ s.data.toList.drop b)) (hr : ∀ c ∈ r, lne c = true) (hb : b ≤ s.size)
include hl hr hb
end
end Tree.X02
