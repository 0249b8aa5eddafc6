/- TopLast: its environment is the program's. -/
import Derived.Test.YtogeefachdlkiaaLJChk
import Derived.Test.YtogeefachdlkiaaTE
import Derived.Test.YtogeefachdlkiaaExtV
import Derived.Test.YtogeefachdlkiaaLJLay
set_option autoImplicit false
namespace Tree
open Go Go.Proofs
theorem onlyJ_142 : nuTableJ.all (fun e => e.2 != 142 || e.1 == Try.cloneT142_ren.f 41) = true := by decide +kernel
theorem onlyJ_635 : nuTableJ.all (fun e => e.2 != 635 || e.1 == Try.bcloneT_ren.f 4) = true := by decide +kernel
theorem infoJ_142 : infoB tabJ.P (Try.cloneT142_ren.t 23) 1 1 = true := by decide +kernel
theorem envJ_ok : EnvOk tabJ envJ where
  tab := tabJ_tab
  mixed := tabJ_mixed
  eq := tabJ_eq
  code := code_of (fun e he => List.all_eq_true.1 tabJ_code e he)
  ext := by
    intro g F hg args r ob pb hF
    rcases envJ_ext g F hg with ⟨rfl, rfl⟩ | ⟨rfl, rfl⟩
    · exact bclone_ext (T := tabJ) Try.bcloneT (fun f hf => fn_only (T := tabJ) onlyJ_635 hf) args r ob pb hF
    · obtain ⟨i, z, a1, a2, a3, a4, a5⟩ := info_of infoJ_142
      exact clone_ext (T := tabJ) Try.cloneT142 (fun f hf => fn_only (T := tabJ) onlyJ_142 hf) a1 a2 a3 a4 a5 (by decide) args r ob pb hF
end Tree
