/- Layer 6: what must be whatever is asked ('live'), reckoned by the kernel. -/
import Derived.Test.YtmhblapchnldhaaDoorL6Env
import Derived.Test.YtmhblapchnldhaaDoorL1Live
import Derived.Test.YtmhblapchnldhaaDoorTW
set_option autoImplicit false
namespace Tree
open Go
theorem live6_kernel : (match (both env6r 400).2 219 [] [] 0 with | some (.bool true, _) => true | _ => false) = true := by decide +kernel
theorem live6_raw : ∃ ob, Gives env6r 219 [] [] 0 (.bool true, ob) := by
  have h := live6_kernel
  split at h
  · rename_i ob e
    exact ⟨ob, 400, call_of_both e⟩
  · cases h
theorem live6_ok (ob : Obs) (pb : Nat) : Gives env6 219 [] ob pb (.bool true, ob) := by
  obtain ⟨ob1, h⟩ := live6_raw
  have hf : frzF env6r 219 [] ob = some (.bool true) := frzF_of h rfl rfl rfl ob
  exact gives_ext (F := frzF env6r 219) rfl hf
end Tree
