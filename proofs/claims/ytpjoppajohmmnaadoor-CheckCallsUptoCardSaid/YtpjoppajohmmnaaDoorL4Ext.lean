/- Layer 4: its environment is the program's. -/
import Derived.Test.YtpjoppajohmmnaaDoorTX
import Derived.Test.YtpjoppajohmmnaaDoorL4Chk
import Derived.Test.YtpjoppajohmmnaaDoorTE
import Derived.Test.YtpjoppajohmmnaaDoorL4Lay
import Derived.Test.YtpjoppajohmmnaaDoorExtV
set_option autoImplicit false
namespace Tree
open Go Go.Proofs
theorem only4_39 : nuTable4.all (fun e => e.2 != 39 || e.1 == 93) = true := by decide +kernel
theorem info4_39 : infoB tab4.P (Tryd.cloneT39_ren.t 23) 5 48 = true := by decide +kernel
theorem f4_39 : Tryd.cloneT39_ren.f 41 = 93 := by decide +kernel
theorem only4_574 : nuTable4.all (fun e => e.2 != 574 || e.1 == 113) = true := by decide +kernel
theorem info4_574 : infoB tab4.P (Tryd.growT574_ren.t 25) 1 24 = true := by decide +kernel
theorem f4_574 : Tryd.growT574_ren.f 4 = 113 := by decide +kernel
theorem no4_564 : nuTable4.all (fun e => e.2 != 564) = true := by decide +kernel
theorem env4_ok : EnvOk tab4 env4 where
  tab := tab4_tab
  mixed := tab4_mixed
  eq := tab4_eq
  code := code_of (fun e he => List.all_eq_true.1 tab4_code e he)
  ext := by
    intro g F hg args r ob pb hF
    rcases env4_ext g F hg with ⟨rfl, rfl⟩ | ⟨rfl, rfl⟩ | ⟨rfl, rfl⟩
    · obtain ⟨i, z, a1, a2, a3, a4, a5⟩ := info_of info4_39
      exact clone_ext Tryd.cloneT39 (fun f hf => (fn_only only4_39 hf).trans f4_39.symm) a1 a2 a3 a4 a5 (by decide) args r ob pb hF
    · obtain ⟨i, z, a1, a2, a3, a4, a5⟩ := info_of info4_574
      exact grow_ext Tryd.growT574 (fun f hf => (fn_only only4_574 hf).trans f4_574.symm) a1 a2 a3 a4 a5 (by decide) args r ob pb hF
    · exact callOk_none no4_564 args r ob pb
end Tree
