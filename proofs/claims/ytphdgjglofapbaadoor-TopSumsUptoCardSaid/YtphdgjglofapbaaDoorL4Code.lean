/- Layer 4: the program's functions as E-code. -/
import Derived.Test.YtphdgjglofapbaaDoorTE
set_option autoImplicit false
namespace Tree
open Go
def fnTable4 : List (Nat × TFn) := []
end Tree
