/- Layer 11: what must be whatever is asked ('live'), reckoned by the kernel. -/
import Derived.Test.YtoofpbdalgopgaaDoorL11Env
import Derived.Test.YtoofpbdalgopgaaDoorTW
set_option autoImplicit false
namespace Tree
open Go
theorem live11_kernel : (match (both env11r 400).2 484 [] [] 0 with | some (.bool true, _) => true | _ => false) = true := by decide +kernel
theorem live11_raw : ∃ ob, Gives env11r 484 [] [] 0 (.bool true, ob) := by
  have h := live11_kernel
  split at h
  · rename_i ob e
    exact ⟨ob, 400, call_of_both e⟩
  · cases h
theorem live11_ok (ob : Obs) (pb : Nat) : Gives env11 484 [] ob pb (.bool true, ob) := by
  obtain ⟨ob1, h⟩ := live11_raw
  have hf : frzF env11r 484 [] ob = some (.bool true) := frzF_of h rfl rfl rfl ob
  exact gives_ext (F := frzF env11r 484) rfl hf
end Tree
