/- Layer 1: what must be whatever is asked ('live'), reckoned by the kernel. -/
import Derived.Test.YtfdamolkgfcoiaaL1Env
import Derived.Test.YtfdamolkgfcoiaaTW
set_option autoImplicit false
namespace Tree
open Go
end Tree
