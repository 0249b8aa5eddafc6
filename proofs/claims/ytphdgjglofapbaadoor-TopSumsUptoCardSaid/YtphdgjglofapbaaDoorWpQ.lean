/- Functions whose result and objects are told by a law. -/
import Derived.Test.YtphdgjglofapbaaDoorWpE
set_option autoImplicit false
set_option linter.unusedVariables false
namespace Tree
open Go
def ResQ (w : WSt) (results : List RVar) (Q : LV → Obs → Prop) : Prop := GenP (resultsE w.st results) fun vs => (LV.noLs vs = true ∧ Q (tupE vs) w.ob)
def fnWQ (E : Env) (f : TFn) (args : List LV) (ob : Obs) (pb : Nat) (Q : LV → Obs → Prop) : Prop :=
  startW args f.ntmps ob fun w => wp E pb f.body w fun ex w => match ex with
    | .exit _ => False
    | .normal => ResQ w f.results Q
    | .ret => ResQ w f.results Q
theorem gives_codeQ {E : Env} {g : Nat} {f : TFn} {args : List LV} {ob : Obs} {pb : Nat} {Q : LV → Obs → Prop} (hf : E.fns g = some (.code f)) (h : fnWQ E f args ob pb Q) : ∃ r ob', Q r ob' ∧ Gives E g args ob pb (r, ob') := by
  unfold fnWQ startW at h
  rw [forceL_eq bigS_eq] at h
  obtain ⟨ex, w', ⟨n, h1⟩, h2⟩ := wp_sound _ h
  have key : ResQ w' f.results Q → ∃ r ob', Q r ob' ∧ Gives E g args ob pb (r, ob') := by
    intro h
    obtain ⟨vs, h3, h4, h5⟩ := GenP_sound h
    refine ⟨tupE vs, w'.ob, h5, n + 1, ?_⟩
    rw [call, hf]
    simp only []
    have e : ({ sl := args.map .val ++ List.replicate (f.ntmps - args.length) (.val .undef), ob, al := fun _ => none } : St) = (WSt.mk (args.map .val ++ List.replicate (f.ntmps - args.length) (.val .undef)) ob []).st := rfl
    rw [e, h1]
    simp only [Option.bind_some]
    cases ex with
    | normal => simp only [h3, Option.bind_some, h4, if_true]; rfl
    | ret => simp only [h3, Option.bind_some, h4, if_true]; rfl
    | exit i => exact h2.elim
  cases ex with
  | normal => exact key h2
  | ret => exact key h2
  | exit i => exact h2.elim
end Tree
