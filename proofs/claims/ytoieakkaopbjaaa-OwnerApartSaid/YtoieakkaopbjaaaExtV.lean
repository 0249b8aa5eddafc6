/- Contracts of functions that a program does not have; of functions that stand there once. -/
import Derived.Test.YtoieakkaopbjaaaTE
set_option autoImplicit false
namespace Tree
open Go
end Tree
