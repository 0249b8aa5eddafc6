/- Layer 16: arguments that are moves. -/
import Derived.Test.YtkeadnggllgphaaTF
import Derived.Test.YtkeadnggllgphaaR16ZA
import Derived.Test.YtkeadnggllgphaaR16Chk
set_option autoImplicit false
set_option linter.unusedVariables false
set_option linter.unusedSimpArgs false
namespace Tree.R16
open Go Go.Proofs Tree
theorem moves_of : ∀ (xs : List (List LV)), (∀ x ∈ xs, ∃ fuel, Typed tab16.P fuel 48 x) → ∃ l : List Mv, xs = l.map Mv.row
  | [], _ => ⟨[], rfl⟩
  | x :: xs, h => by
    obtain ⟨l, rfl⟩ := moves_of xs (fun y hy => h y (List.mem_cons_of_mem _ hy))
    obtain ⟨fuel, hx⟩ := h x (List.mem_cons_self ..)
    have h4 := sh_ok 8 fuel 48 [.i .i64, .i .i64, .i .i64] x (by kernel_rfl) hx
    obtain ⟨_, _, rfl, ⟨k, rfl, _⟩, q0⟩ := h4.cons
    obtain ⟨_, _, rfl, ⟨n, rfl, _⟩, q1⟩ := q0.cons
    obtain ⟨_, _, rfl, ⟨t, rfl, _⟩, q2⟩ := q1.cons
    obtain rfl := q2.nil
    exact ⟨⟨k, n, t⟩ :: l, rfl⟩
theorem movesL_of {lv : LV} (h : ShOk tab16.P (.sl 48) lv) : ∃ (l : List Mv) (sp : List (List LV)), lv = .sl false 0 3 (l.map Mv.row) sp := by
  obtain ⟨xs, sp, rfl, h1, h2⟩ := h
  obtain ⟨l, rfl⟩ := moves_of xs (fun x hx => (h1 x (List.mem_append_left _ hx)).2)
  have hc : tab16.P.cellsOf 48 = 3 := by kernel_rfl
  exact ⟨l, sp, by rw [hc]⟩
end Tree.R16
