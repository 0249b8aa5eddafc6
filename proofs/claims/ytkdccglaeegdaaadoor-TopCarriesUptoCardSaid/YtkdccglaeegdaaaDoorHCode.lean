/- The hands' functions as E-code. -/
import Derived.Test.YtkdccglaeegdaaaDoorTE
set_option autoImplicit false
namespace Tree
open Go
end Tree
