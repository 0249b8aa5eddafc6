/- Layer 11: amounts that pay. -/
import Derived.Test.YtkdccglaeegdaaaDoorL11B
set_option autoImplicit false
set_option linter.unusedVariables false
set_option linter.unusedSimpArgs false
namespace Tree.W11
open Go
set_option maxHeartbeats 8000000
set_option maxRecDepth 100000
def PaidOk (w : Int) (bits : List Int) : Prop := AmtOk w bits ∧ (w > 0 ∨ bits ≠ [])
theorem paid_ok (w : Int) (bits : List Int) (lab : Nat) (sp : List (List LV)) (hl : bits.length ≤ 4611686018427387904) (ob : Obs) (pb : Nat) (r : Bool) (hr : r = true ↔ PaidOk w bits) : Gives env11 510 [.agg [.int .i64 w, .sl false lab 1 (bits.map zr) sp]] ob pb (.bool r, ob) := by
  have hlen : (bits.map zr).length = bits.length := by simp
  have hne : bits ≠ [] ↔ 0 < bits.length := by cases bits <;> simp
  obtain ⟨q, hq⟩ := boolOf (AmtOk w bits)
  unfold PaidOk at hr
  rw [hne] at hr
  refine gives_code (f := tf510) rfl ?_
  conv => whnf
  refine ⟨_, _, rightAmount_ok w bits lab sp hl ob _ q hq, fun _ => rfl, ?_⟩
  cases q with
  | false =>
    conv => whnf
    refine ⟨rfl, bool_of hr ⟨fun e => (nomatch e), fun h => ?_⟩, rfl⟩
    have := hq.2 h.1; cases this
  | true =>
    have hA := hq.1 rfl
    conv => whnf
    refine sel_split (fun h => ?_) (fun h => ?_)
    · conv => whnf
      have h := of_decide_eq_true h
      exact ⟨rfl, bool_of hr ⟨fun _ => ⟨hA, .inl h⟩, fun _ => rfl⟩, rfl⟩
    · conv => whnf
      have h : ¬ w > 0 := of_decide_eq_false h
      refine ⟨rfl, bool_of hr ?_, rfl⟩
      rw [decide_eq_true_eq, hlen]
      constructor
      · intro h2; exact ⟨hA, .inr (by omega)⟩
      · rintro ⟨_, h2 | h2⟩
        · exact absurd h2 h
        · omega
end Tree.W11
