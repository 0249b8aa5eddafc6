/- Functions whose objects behind the call do not matter. -/
import Derived.Test.YtoofpbdalgopgaaDoorTW
set_option autoImplicit false
set_option linter.unusedVariables false
namespace Tree
open Go
def ResE (w : WSt) (results : List RVar) (r : LV) : Prop := GenP (resultsE w.st results) fun vs => (LV.noLs vs = true ∧ tupE vs = r)
def fnWE (E : Env) (f : TFn) (args : List LV) (ob : Obs) (pb : Nat) (r : LV) : Prop :=
  startW args f.ntmps ob fun w => wp E pb f.body w fun ex w => match ex with
    | .exit _ => False
    | .normal => ResE w f.results r
    | .ret => ResE w f.results r
theorem gives_codeE {E : Env} {g : Nat} {f : TFn} {args : List LV} {ob : Obs} {pb : Nat} {r : LV} (hf : E.fns g = some (.code f)) (h : fnWE E f args ob pb r) : ∃ ob', Gives E g args ob pb (r, ob') := by
  unfold fnWE startW at h
  rw [forceL_eq bigS_eq] at h
  obtain ⟨ex, w', ⟨n, h1⟩, h2⟩ := wp_sound _ h
  refine ⟨w'.ob, n + 1, ?_⟩
  rw [call, hf]
  simp only []
  have e : ({ sl := args.map .val ++ List.replicate (f.ntmps - args.length) (.val .undef), ob, al := fun _ => none } : St) = (WSt.mk (args.map .val ++ List.replicate (f.ntmps - args.length) (.val .undef)) ob []).st := rfl
  rw [e, h1]
  simp only [Option.bind_some]
  have key : ResE w' f.results r → ((resultsE w'.st f.results).bind fun vs => if LV.noLs vs then some (tupE vs, w'.st.ob) else none) = some (r, w'.ob) := by
    intro h
    obtain ⟨vs, h3, h4, h5⟩ := GenP_sound h
    rw [h3]; simp only [Option.bind_some, h4, if_true]
    rw [h5]; rfl
  cases ex with
  | normal => exact key h2
  | ret => exact key h2
  | exit i => exact h2.elim
end Tree
