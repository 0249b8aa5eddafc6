/- Layer 2: its environment with the library's strings is the program's. -/
import Derived.Test.YtkbpkiebcghghaaDoorL2Ext
import Derived.Test.YtkbpkiebcghghaaDoorL2LayS
import Derived.Test.YtkbpkiebcghghaaDoorL2Sx
set_option autoImplicit false
set_option linter.unusedVariables false
namespace Tree
open Go Go.Proofs
theorem only2_362 : nuTable2.all (fun e => e.2 != 362 || e.1 == Tryd.joinT_ren.f 156) = true := by decide +kernel
theorem only2_363 : nuTable2.all (fun e => e.2 != 363 || e.1 == Tryd.countT_ren.f 138) = true := by decide +kernel
theorem only2_364 : nuTable2.all (fun e => e.2 != 364 || e.1 == Tryd.lastT_ren.f 149) = true := by decide +kernel
theorem env2s_ok : EnvOk tab2 env2s := plusX_ok env2z_ok (by
  intro e he args r ob pb hF
  rcases List.mem_cons.1 he with rfl | he
  · exact join_ext (T := tab2) Tryd.joinT Tryd.joinX (fun f hf => fn_only (T := tab2) only2_362 hf) args r ob pb hF
  rcases List.mem_cons.1 he with rfl | he
  · exact count_ext (T := tab2) Tryd.countT (fun f hf => fn_only (T := tab2) only2_363 hf) args r ob pb hF
  rcases List.mem_cons.1 he with rfl | he
  · exact last_ext (T := tab2) Tryd.lastT (fun f hf => fn_only (T := tab2) only2_364 hf) args r ob pb hF
  cases he) rfl
end Tree
