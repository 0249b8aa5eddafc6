/- Layer 2: what must be whatever is asked ('live'), reckoned by the kernel. -/
import Derived.Test.YtlfifgganibjiaaDoorL2Env
import Derived.Test.YtlfifgganibjiaaDoorTW
set_option autoImplicit false
namespace Tree
open Go
end Tree
