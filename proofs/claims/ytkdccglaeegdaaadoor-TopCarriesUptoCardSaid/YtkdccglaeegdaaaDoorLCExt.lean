/- Layer C: its environment is the program's. -/
import Derived.Test.YtkdccglaeegdaaaDoorTX
import Derived.Test.YtkdccglaeegdaaaDoorLCChk
import Derived.Test.YtkdccglaeegdaaaDoorTE
import Derived.Test.YtkdccglaeegdaaaDoorLCLay
import Derived.Test.YtkdccglaeegdaaaDoorExtV
set_option autoImplicit false
namespace Tree
open Go Go.Proofs
theorem onlyC_661 : nuTableC.all (fun e => e.2 != 661 || e.1 == 44) = true := by decide +kernel
theorem infoC_661 : infoB tabC.P (Tryd.growT661_ren.t 25) 5 56 = true := by decide +kernel
theorem fC_661 : Tryd.growT661_ren.f 4 = 44 := by decide +kernel
theorem onlyC_564 : nuTableC.all (fun e => e.2 != 564 || e.1 == 69) = true := by decide +kernel
theorem infoC_564 : infoB tabC.P (Tryd.growT564_ren.t 25) 5 48 = true := by decide +kernel
theorem fC_564 : Tryd.growT564_ren.f 4 = 69 := by decide +kernel
theorem onlyC_635 : nuTableC.all (fun e => e.2 != 635 || e.1 == Tryd.bcloneT_ren.f 4) = true := by decide +kernel
theorem noC_39 : nuTableC.all (fun e => e.2 != 39) = true := by decide +kernel
theorem noC_484 : nuTableC.all (fun e => e.2 != 484) = true := by decide +kernel
theorem noC_221 : nuTableC.all (fun e => e.2 != 221) = true := by decide +kernel
theorem envC_ok : EnvOk tabC envC where
  tab := tabC_tab
  mixed := tabC_mixed
  eq := tabC_eq
  code := code_of (fun e he => List.all_eq_true.1 tabC_code e he)
  ext := by
    intro g F hg args r ob pb hF
    rcases envC_ext g F hg with ⟨rfl, rfl⟩ | ⟨rfl, rfl⟩ | ⟨rfl, rfl⟩ | ⟨rfl, rfl⟩ | ⟨rfl, rfl⟩ | ⟨rfl, rfl⟩
    · exact bclone_ext (T := tabC) Tryd.bcloneT (fun f hf => fn_only (T := tabC) onlyC_635 hf) args r ob pb hF
    · obtain ⟨i, z, a1, a2, a3, a4, a5⟩ := info_of infoC_661
      exact grow_ext Tryd.growT661 (fun f hf => (fn_only onlyC_661 hf).trans fC_661.symm) a1 a2 a3 a4 a5 (by decide) args r ob pb hF
    · exact callOk_none noC_39 args r ob pb
    · obtain ⟨i, z, a1, a2, a3, a4, a5⟩ := info_of infoC_564
      exact grow_ext Tryd.growT564 (fun f hf => (fn_only onlyC_564 hf).trans fC_564.symm) a1 a2 a3 a4 a5 (by decide) args r ob pb hF
    · exact callOk_none noC_484 args r ob pb
    · exact callOk_none noC_221 args r ob pb
end Tree
