/- Layer 10: its environment is the program's. -/
import Derived.Test.YtjbdicceeocgeaaTX
import Derived.Test.YtjbdicceeocgeaaL10Chk
import Derived.Test.YtjbdicceeocgeaaTE
import Derived.Test.YtjbdicceeocgeaaL10Lay
import Derived.Test.YtjbdicceeocgeaaExtV
set_option autoImplicit false
namespace Tree
open Go Go.Proofs
theorem only10_39 : nuTable10.all (fun e => e.2 != 39 || e.1 == 74) = true := by decide +kernel
theorem info10_39 : infoB tab10.P (Try.cloneT39_ren.t 23) 5 48 = true := by decide +kernel
theorem f10_39 : Try.cloneT39_ren.f 41 = 74 := by decide +kernel
theorem no10_564 : nuTable10.all (fun e => e.2 != 564) = true := by decide +kernel
theorem env10r_ok : EnvOk tab10 env10r where
  tab := tab10_tab
  mixed := tab10_mixed
  eq := tab10_eq
  code := code_of (fun e he => List.all_eq_true.1 tab10_code e he)
  ext := by
    intro g F hg args r ob pb hF
    rcases env10r_ext g F hg with ⟨rfl, rfl⟩ | ⟨rfl, rfl⟩
    · obtain ⟨i, z, a1, a2, a3, a4, a5⟩ := info_of info10_39
      exact clone_ext Try.cloneT39 (fun f hf => (fn_only only10_39 hf).trans f10_39.symm) a1 a2 a3 a4 a5 (by decide) args r ob pb hF
    · exact callOk_none no10_564 args r ob pb
theorem env10_ok : EnvOk tab10 env10 := frzEnv_ok env10r_ok (by intro g; match g with | 0 => decide | g + 1 => rfl)
end Tree
