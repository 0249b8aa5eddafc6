/- Layer 11: its environment is the program's. -/
import Derived.Test.YtoofpbdalgopgaaDoorTX
import Derived.Test.YtoofpbdalgopgaaDoorL11Chk
import Derived.Test.YtoofpbdalgopgaaDoorTE
import Derived.Test.YtoofpbdalgopgaaDoorL11Lay
import Derived.Test.YtoofpbdalgopgaaDoorExtV
set_option autoImplicit false
namespace Tree
open Go Go.Proofs
theorem only11_564 : nuTable11.all (fun e => e.2 != 564 || e.1 == 91) = true := by decide +kernel
theorem info11_564 : infoB tab11.P (Tryd.growT564_ren.t 25) 5 48 = true := by decide +kernel
theorem f11_564 : Tryd.growT564_ren.f 4 = 91 := by decide +kernel
theorem no11_39 : nuTable11.all (fun e => e.2 != 39) = true := by decide +kernel
theorem env11r_ok : EnvOk tab11 env11r where
  tab := tab11_tab
  mixed := tab11_mixed
  eq := tab11_eq
  code := code_of (fun e he => List.all_eq_true.1 tab11_code e he)
  ext := by
    intro g F hg args r ob pb hF
    rcases (env11r_ext g F hg).symm with ⟨rfl, rfl⟩ | ⟨rfl, rfl⟩
    · obtain ⟨i, z, a1, a2, a3, a4, a5⟩ := info_of info11_564
      exact grow_ext Tryd.growT564 (fun f hf => (fn_only only11_564 hf).trans f11_564.symm) a1 a2 a3 a4 a5 (by decide) args r ob pb hF
    · exact callOk_none no11_39 args r ob pb
theorem env11_ok : EnvOk tab11 env11 := frzEnv_ok env11r_ok (by intro g; match g with | 0 => decide | g + 1 => rfl)
end Tree
