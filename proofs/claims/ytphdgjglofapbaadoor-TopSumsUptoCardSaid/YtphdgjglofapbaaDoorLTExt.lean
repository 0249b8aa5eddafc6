/- Layer T: its environment is the program's. -/
import Derived.Test.YtphdgjglofapbaaDoorTX
import Derived.Test.YtphdgjglofapbaaDoorLTChk
import Derived.Test.YtphdgjglofapbaaDoorTE
import Derived.Test.YtphdgjglofapbaaDoorLTLay
import Derived.Test.YtphdgjglofapbaaDoorExtV
set_option autoImplicit false
namespace Tree
open Go Go.Proofs
theorem onlyT_39 : nuTableT.all (fun e => e.2 != 39 || e.1 == 29) = true := by decide +kernel
theorem infoT_39 : infoB tabT.P (Tryd.cloneT39_ren.t 23) 5 48 = true := by decide +kernel
theorem fT_39 : Tryd.cloneT39_ren.f 41 = 29 := by decide +kernel
theorem onlyT_265 : nuTableT.all (fun e => e.2 != 265 || e.1 == 115) = true := by decide +kernel
theorem fT_265 : Tryd.mulT265_ren.f 264 = 115 := by decide +kernel
theorem noT_574 : nuTableT.all (fun e => e.2 != 574) = true := by decide +kernel
theorem noT_564 : nuTableT.all (fun e => e.2 != 564) = true := by decide +kernel
theorem noT_209 : nuTableT.all (fun e => e.2 != 209) = true := by decide +kernel
theorem noT_221 : nuTableT.all (fun e => e.2 != 221) = true := by decide +kernel
theorem noT_219 : nuTableT.all (fun e => e.2 != 219) = true := by decide +kernel
theorem envT_ok : EnvOk tabT envT where
  tab := tabT_tab
  mixed := tabT_mixed
  eq := tabT_eq
  code := code_of (fun e he => List.all_eq_true.1 tabT_code e he)
  ext := by
    intro g F hg args r ob pb hF
    rcases envT_ext g F hg with ⟨rfl, rfl⟩ | ⟨rfl, rfl⟩ | ⟨rfl, rfl⟩ | ⟨rfl, rfl⟩ | ⟨rfl, rfl⟩ | ⟨rfl, rfl⟩ | ⟨rfl, rfl⟩
    · obtain ⟨i, z, a1, a2, a3, a4, a5⟩ := info_of infoT_39
      exact clone_ext Tryd.cloneT39 (fun f hf => (fn_only onlyT_39 hf).trans fT_39.symm) a1 a2 a3 a4 a5 (by decide) args r ob pb hF
    · exact mul64_ext Tryd.mulT265 (fun f hf => (fn_only onlyT_265 hf).trans fT_265.symm) args r ob pb hF
    · exact callOk_none noT_574 args r ob pb
    · exact callOk_none noT_564 args r ob pb
    · exact callOk_none noT_209 args r ob pb
    · exact callOk_none noT_221 args r ob pb
    · exact callOk_none noT_219 args r ob pb
end Tree
