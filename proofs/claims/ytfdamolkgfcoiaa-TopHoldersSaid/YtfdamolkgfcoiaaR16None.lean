/- Layer 16: the law RefsNone, what E answers. -/
import Derived.Test.YtfdamolkgfcoiaaR16Live
set_option autoImplicit false
set_option linter.unusedVariables false
set_option linter.unusedSimpArgs false
namespace Tree.R16
open Go Tree
set_option maxHeartbeats 8000000
set_option maxRecDepth 100000
end Tree.R16
