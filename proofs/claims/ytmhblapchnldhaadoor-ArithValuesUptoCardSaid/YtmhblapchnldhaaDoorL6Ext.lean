/- Layer 6: its environment is the program's. -/
import Derived.Test.YtmhblapchnldhaaDoorTX
import Derived.Test.YtmhblapchnldhaaDoorL6Chk
import Derived.Test.YtmhblapchnldhaaDoorTE
import Derived.Test.YtmhblapchnldhaaDoorL6Lay
import Derived.Test.YtmhblapchnldhaaDoorExtV
set_option autoImplicit false
namespace Tree
open Go Go.Proofs
theorem only6_39 : nuTable6.all (fun e => e.2 != 39 || e.1 == 60) = true := by decide +kernel
theorem info6_39 : infoB tab6.P (Tryd.cloneT39_ren.t 23) 5 48 = true := by decide +kernel
theorem f6_39 : Tryd.cloneT39_ren.f 41 = 60 := by decide +kernel
theorem only6_265 : nuTable6.all (fun e => e.2 != 265 || e.1 == 90) = true := by decide +kernel
theorem f6_265 : Tryd.mulT265_ren.f 264 = 90 := by decide +kernel
theorem no6_574 : nuTable6.all (fun e => e.2 != 574) = true := by decide +kernel
theorem no6_564 : nuTable6.all (fun e => e.2 != 564) = true := by decide +kernel
theorem env6r_ok : EnvOk tab6 env6r where
  tab := tab6_tab
  mixed := tab6_mixed
  eq := tab6_eq
  code := code_of (fun e he => List.all_eq_true.1 tab6_code e he)
  ext := by
    intro g F hg args r ob pb hF
    rcases env6r_ext g F hg with ⟨rfl, rfl⟩ | ⟨rfl, rfl⟩ | ⟨rfl, rfl⟩ | ⟨rfl, rfl⟩
    · obtain ⟨i, z, a1, a2, a3, a4, a5⟩ := info_of info6_39
      exact clone_ext Tryd.cloneT39 (fun f hf => (fn_only only6_39 hf).trans f6_39.symm) a1 a2 a3 a4 a5 (by decide) args r ob pb hF
    · exact mul64_ext Tryd.mulT265 (fun f hf => (fn_only only6_265 hf).trans f6_265.symm) args r ob pb hF
    · exact callOk_none no6_574 args r ob pb
    · exact callOk_none no6_564 args r ob pb
theorem env6_ok : EnvOk tab6 env6 := frzEnv_ok env6r_ok (by intro g; match g with | 0 => decide | g + 1 => rfl)
end Tree
