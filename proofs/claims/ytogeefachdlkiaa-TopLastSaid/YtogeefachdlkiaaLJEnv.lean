/- The law TopLast: the environment of its functions. -/
import Derived.Test.YtogeefachdlkiaaLJCode
import Derived.Test.YtogeefachdlkiaaTW
import Derived.Test.YtogeefachdlkiaaTX
set_option autoImplicit false
namespace Tree
open Go
/-- A loop's record in a table. -/
noncomputable def lookLJ (l : List (Nat × List Nat × TCode × TCode)) (s : Nat) : Option (List Nat × TCode × TCode) :=
  List.rec (motive := fun _ => Option (List Nat × TCode × TCode)) none (fun e _ ih => match e with
    | (a, c) => match Nat.beq a s with
      | true => some c
      | false => ih) l
noncomputable def envJ : Env := { gl := fun _ => [], lps := lookLJ lpTableJ, fns := fun g => match Nat.beq g 635 with
    | true => some (.ext bcloneF)
    | false => match Nat.beq g 142 with
      | true => some (.ext (cloneF 1 1))
      | false => lookE fnTableJ g }
theorem envJ_ext (g : Nat) (F : List LV → Obs → Option LV) (hg : envJ.fns g = some (.ext F)) : (g = 635 ∧ F = bcloneF) ∨ (g = 142 ∧ F = cloneF 1 1) := by
  simp only [envJ] at hg
  split at hg
  · rename_i h; injection hg with hg; injection hg with hg; exact .inl ⟨Nat.eq_of_beq_eq_true h, hg.symm⟩
  · split at hg
    · rename_i h; injection hg with hg; injection hg with hg; exact .inr ⟨Nat.eq_of_beq_eq_true h, hg.symm⟩
    · exact (lookE_ext hg).elim
end Tree
