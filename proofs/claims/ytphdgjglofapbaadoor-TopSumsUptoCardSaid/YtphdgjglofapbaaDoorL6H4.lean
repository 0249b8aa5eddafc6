/- Layer 6: the document's heap, what is put into it. -/
import Derived.Test.YtphdgjglofapbaaDoorL6H3
set_option autoImplicit false
set_option linter.unusedVariables false
set_option linter.unusedSimpArgs false
namespace Tree.H6
open Go
set_option maxHeartbeats 8000000
set_option maxRecDepth 100000
end Tree.H6
