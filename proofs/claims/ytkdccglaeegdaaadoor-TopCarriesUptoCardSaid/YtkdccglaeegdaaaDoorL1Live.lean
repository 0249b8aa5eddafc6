/- Layer 1: what must be whatever is asked ('live'), reckoned by the kernel. -/
import Derived.Test.YtkdccglaeegdaaaDoorL1Env
import Derived.Test.YtkdccglaeegdaaaDoorTW
set_option autoImplicit false
namespace Tree
open Go
end Tree
