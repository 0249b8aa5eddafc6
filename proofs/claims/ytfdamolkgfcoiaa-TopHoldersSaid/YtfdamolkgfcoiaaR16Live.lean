/- Layer 16: what must be whatever is asked ('live'), reckoned by the kernel. -/
import Derived.Test.YtfdamolkgfcoiaaR16Env
import Derived.Test.YtfdamolkgfcoiaaTW
set_option autoImplicit false
namespace Tree.R16
open Go Tree
noncomputable def env16z : Env := frzEnv env16 [395]
end Tree.R16
