/- Loops whose states at the head are the first one's with some slots changed. -/
import Derived.Test.YtpjoppajohmmnaaDoorTW
set_option autoImplicit false
set_option linter.unusedVariables false
set_option linter.unusedSimpArgs false
namespace Tree
open Go
def updS : List (Nat × LV) → List Slot → List Slot
  | [], l => l
  | (t, v) :: r, l => updS r (l.set t (.val v))
/-- The state at a loop's head: w's, with the slots of V. -/
def WSt.head (w : WSt) (live : List Nat) (V : List (Nat × LV)) (ob : Obs) : WSt := ⟨updS V (keepGo live 0 w.sl), ob, []⟩
def headW (w : WSt) (live : List Nat) (V : List (Nat × LV)) (ob : Obs) (k : WSt → Prop) : Prop := forceL bigS (updS V (keepGo live 0 w.sl)) fun sl => k ⟨sl, ob, []⟩
theorem headW_eq (w : WSt) (live : List Nat) (V : List (Nat × LV)) (ob : Obs) (k : WSt → Prop) : headW w live V ob k = k (w.head live V ob) := by
  unfold headW; rw [forceL_eq bigS_eq]; rfl
theorem loop_v {E : Env} {pb : Nat} {live : List Nat} {c : TCode} {Q : Ex → WSt → Prop} {w : WSt} {ι : Type} (V : ι → List (Nat × LV)) (O : ι → Obs) (m : ι → Nat) (P : ι → Prop)
    (hstep : ∀ (R : Ex → WSt → Prop) (i : ι), P i → (∀ j w', P j → m j < m i → w'.keepW live = w.head live (V j) (O j) → R .normal w') → (∀ id w, Q (.exit id) w → R (.exit id) w) → (∀ w, Q .ret w → R .ret w) → headW w live (V i) (O i) fun w => wp E pb c w R)
    (i : ι) (hi : P i) (hw : w.keepW live = w.head live (V i) (O i)) : LoopP E pb live c w Q :=
  loop_abs (fun i => w.head live (V i) (O i)) m P (fun R i hP hN hE hR => by rw [← headW_eq w live (V i) (O i) fun w => wp E pb c w R]; exact hstep R i hP hN hE hR) i hi hw
end Tree
