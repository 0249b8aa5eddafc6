/- The E-code of layer 1's functions. -/
import Derived.Test.YtfdamolkgfcoiaaTE
set_option autoImplicit false
namespace Tree
open Go
end Tree
