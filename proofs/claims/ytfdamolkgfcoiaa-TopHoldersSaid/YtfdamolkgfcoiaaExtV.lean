/- Contracts of functions that a program does not have; of functions that stand there once. -/
import Derived.Test.YtfdamolkgfcoiaaTE
set_option autoImplicit false
namespace Tree
open Go
theorem fn_only {T : Tab} {g k : Nat} (h : T.nu.all (fun e => e.2 != g || e.1 == k) = true) {f : FuncId} (hf : T.fn f = some g) : f = k := by
  have := List.all_eq_true.1 h _ (fn_mem hf)
  simpa using this
theorem callOk_none {T : Tab} {E : Env} {g : Nat} (h : T.nu.all (fun e => e.2 != g) = true) (args : List LV) (r : LV) (ob : Obs) (pb : Nat) : CallOk T E g args ob pb r ob := by
  intro f m vals hf
  have := List.all_eq_true.1 h _ (fn_mem hf)
  simp at this
end Tree
