/- Layer 16: what must be whatever is asked ('live'), reckoned by the kernel. -/
import Derived.Test.YtkeadnggllgphaaR16Env
import Derived.Test.YtkeadnggllgphaaTW
set_option autoImplicit false
namespace Tree.R16
open Go Tree
theorem live16_kernel : (match (both env16 400).2 395 [] [] 0 with | some (.bool true, _) => true | _ => false) = true := by decide +kernel
theorem live16_raw : ∃ ob, Gives env16 395 [] [] 0 (.bool true, ob) := by
  have h := live16_kernel
  split at h
  · rename_i ob e
    exact ⟨ob, 400, call_of_both e⟩
  · cases h
noncomputable def env16z : Env := frzEnv env16 [395]
theorem live16_ok (ob : Obs) (pb : Nat) : Gives env16z 395 [] ob pb (.bool true, ob) := by
  obtain ⟨ob1, h⟩ := live16_raw
  have hf : frzF env16 395 [] ob = some (.bool true) := frzF_of h rfl rfl rfl ob
  exact gives_ext (F := frzF env16 395) rfl hf
end Tree.R16
