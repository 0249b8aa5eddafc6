/- Layer 1: what must be whatever is asked ('live'), reckoned by the kernel. -/
import Derived.Test.YtmhblapchnldhaaDoorL1Env
import Derived.Test.YtmhblapchnldhaaDoorTW
set_option autoImplicit false
namespace Tree
open Go
end Tree
