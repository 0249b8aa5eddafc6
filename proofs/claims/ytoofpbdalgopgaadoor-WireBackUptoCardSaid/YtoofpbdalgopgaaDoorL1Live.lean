/- Layer 1: what must be whatever is asked ('live'), reckoned by the kernel. -/
import Derived.Test.YtoofpbdalgopgaaDoorL1Env
import Derived.Test.YtoofpbdalgopgaaDoorTW
set_option autoImplicit false
namespace Tree
open Go
end Tree
