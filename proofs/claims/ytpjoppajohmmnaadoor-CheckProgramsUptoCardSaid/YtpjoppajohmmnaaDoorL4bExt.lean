/- Layer 4b: its environment is the program's. -/
import Derived.Test.YtpjoppajohmmnaaDoorTX
import Derived.Test.YtpjoppajohmmnaaDoorL4bChk
import Derived.Test.YtpjoppajohmmnaaDoorTE
import Derived.Test.YtpjoppajohmmnaaDoorL4bLay
import Derived.Test.YtpjoppajohmmnaaDoorExtV
set_option autoImplicit false
namespace Tree
open Go Go.Proofs
theorem only4b_39 : nuTable4b.all (fun e => e.2 != 39 || e.1 == 93) = true := by decide +kernel
theorem info4b_39 : infoB tab4b.P (Tryd.cloneT39_ren.t 23) 5 48 = true := by decide +kernel
theorem f4b_39 : Tryd.cloneT39_ren.f 41 = 93 := by decide +kernel
theorem only4b_574 : nuTable4b.all (fun e => e.2 != 574 || e.1 == 113) = true := by decide +kernel
theorem info4b_574 : infoB tab4b.P (Tryd.growT574_ren.t 25) 1 24 = true := by decide +kernel
theorem f4b_574 : Tryd.growT574_ren.f 4 = 113 := by decide +kernel
theorem no4b_564 : nuTable4b.all (fun e => e.2 != 564) = true := by decide +kernel
theorem env4r_ok : EnvOk tab4b env4r where
  tab := tab4b_tab
  mixed := tab4b_mixed
  eq := tab4b_eq
  code := code_of (fun e he => List.all_eq_true.1 tab4b_code e he)
  ext := by
    intro g F hg args r ob pb hF
    rcases env4r_ext g F hg with ⟨rfl, rfl⟩ | ⟨rfl, rfl⟩ | ⟨rfl, rfl⟩
    · obtain ⟨i, z, a1, a2, a3, a4, a5⟩ := info_of info4b_39
      exact clone_ext Tryd.cloneT39 (fun f hf => (fn_only only4b_39 hf).trans f4b_39.symm) a1 a2 a3 a4 a5 (by decide) args r ob pb hF
    · obtain ⟨i, z, a1, a2, a3, a4, a5⟩ := info_of info4b_574
      exact grow_ext Tryd.growT574 (fun f hf => (fn_only only4b_574 hf).trans f4b_574.symm) a1 a2 a3 a4 a5 (by decide) args r ob pb hF
    · exact callOk_none no4b_564 args r ob pb
theorem env4h_ok : EnvOk tab4b env4h := frzEnv_ok env4r_ok (by intro g; match g with | 0 => decide | g + 1 => rfl)
end Tree
