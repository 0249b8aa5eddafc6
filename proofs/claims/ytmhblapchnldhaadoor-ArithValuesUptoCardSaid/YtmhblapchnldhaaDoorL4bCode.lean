/- Layer 4b: the program's functions as E-code. -/
import Derived.Test.YtmhblapchnldhaaDoorHCode
set_option autoImplicit false
namespace Tree
open Go
end Tree
