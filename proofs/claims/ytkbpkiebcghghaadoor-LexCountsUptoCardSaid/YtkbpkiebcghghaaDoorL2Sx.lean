/- Layer 2: its environment with the library's strings.Join, Count, LastIndexByte. -/
import Derived.Test.YtkbpkiebcghghaaDoorL2Env
import Derived.Test.YtkbpkiebcghghaaDoorTZ
import Derived.Test.YtkbpkiebcghghaaDoorTX
set_option autoImplicit false
namespace Tree
open Go
noncomputable def env2s : Env := plusX env2z [(362, joinF), (363, countF), (364, lastF)]
theorem le2zs : EnvLe env2z env2s := plusX_le (by
  intro e he
  rcases List.mem_cons.1 he with rfl | he
  · rfl
  rcases List.mem_cons.1 he with rfl | he
  · rfl
  rcases List.mem_cons.1 he with rfl | he
  · rfl
  cases he) rfl rfl
end Tree
