/- Layer 10: what must be whatever is asked ('live'), reckoned by the kernel. -/
import Derived.Test.YtjbdicceeocgeaaL10Env
import Derived.Test.YtjbdicceeocgeaaTW
set_option autoImplicit false
namespace Tree
open Go
theorem live10_kernel : (match (both env10r 400).2 145 [] [] 0 with | some (.bool true, _) => true | _ => false) = true := by decide +kernel
theorem live10_raw : ∃ ob, Gives env10r 145 [] [] 0 (.bool true, ob) := by
  have h := live10_kernel
  split at h
  · rename_i ob e
    exact ⟨ob, 400, call_of_both e⟩
  · cases h
theorem live10_ok (ob : Obs) (pb : Nat) : Gives env10 145 [] ob pb (.bool true, ob) := by
  obtain ⟨ob1, h⟩ := live10_raw
  have hf : frzF env10r 145 [] ob = some (.bool true) := frzF_of h rfl rfl rfl ob
  exact gives_ext (F := frzF env10r 145) rfl hf
end Tree
