/- Layer 2: what must be whatever is asked ('live'), reckoned by the kernel. -/
import Derived.Test.YtkbpkiebcghghaaDoorL2Env
import Derived.Test.YtkbpkiebcghghaaDoorTW
set_option autoImplicit false
namespace Tree
open Go
theorem live2_kernel : (match (both env2r 400).2 337 [] [] 0 with | some (.bool true, _) => true | _ => false) = true := by decide +kernel
theorem live2_raw : ∃ ob, Gives env2r 337 [] [] 0 (.bool true, ob) := by
  have h := live2_kernel
  split at h
  · rename_i ob e
    exact ⟨ob, 400, call_of_both e⟩
  · cases h
theorem live2_ok (ob : Obs) (pb : Nat) : Gives env2z 337 [] ob pb (.bool true, ob) := by
  obtain ⟨ob1, h⟩ := live2_raw
  have hf : frzF env2r 337 [] ob = some (.bool true) := frzF_of h rfl rfl rfl ob
  exact gives_ext (F := frzF env2r 337) rfl hf
end Tree
