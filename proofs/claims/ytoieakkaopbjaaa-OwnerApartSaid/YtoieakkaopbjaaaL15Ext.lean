/- Layer 15: its environment is the program's. -/
import Derived.Test.YtoieakkaopbjaaaL15Chk
import Derived.Test.YtoieakkaopbjaaaTE
import Derived.Test.YtoieakkaopbjaaaExtV
set_option autoImplicit false
namespace Tree
open Go Go.Proofs
theorem env15r_ok : EnvOk tab15 env15r where
  tab := tab15_tab
  mixed := tab15_mixed
  eq := tab15_eq
  code := code_of (fun e he => List.all_eq_true.1 tab15_code e he)
  ext := fun g F hg => (env15r_ext g F hg).elim
theorem env15_ok : EnvOk tab15 env15 := frzOEnv_ok env15r_ok
end Tree
