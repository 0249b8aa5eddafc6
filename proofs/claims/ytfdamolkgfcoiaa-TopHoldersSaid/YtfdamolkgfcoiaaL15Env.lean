/- Layer 15: the environment of its functions; what reads a table (Waiters) stands there as what it gives. -/
import Derived.Test.YtfdamolkgfcoiaaL15Code
import Derived.Test.YtfdamolkgfcoiaaMapE
import Derived.Test.YtfdamolkgfcoiaaTW
import Derived.Test.YtfdamolkgfcoiaaTZ
set_option autoImplicit false
namespace Tree
open Go
noncomputable def env15r : Env := { gl := fun _ => [], fns := fun g => lookE fnTable15 g }
noncomputable def env15 : Env := frzOEnv env15r [60]
theorem env15r_ext (g : Nat) (F : List LV → Obs → Option LV) (hg : env15r.fns g = some (.ext F)) : False := lookE_ext (l := fnTable15) (g := g) hg
end Tree
