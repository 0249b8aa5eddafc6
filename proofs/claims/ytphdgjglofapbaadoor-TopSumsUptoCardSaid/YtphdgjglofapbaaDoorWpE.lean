/- Functions whose objects behind the call do not matter. -/
import Derived.Test.YtphdgjglofapbaaDoorTW
set_option autoImplicit false
set_option linter.unusedVariables false
namespace Tree
open Go
end Tree
