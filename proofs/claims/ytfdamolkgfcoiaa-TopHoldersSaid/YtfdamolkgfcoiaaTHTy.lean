/- TopHolders: an argument that is a row of numbers. -/
import Derived.Test.YtfdamolkgfcoiaaTF
import Derived.Test.YtfdamolkgfcoiaaTHL
import Derived.Test.YtfdamolkgfcoiaaTHChk
set_option autoImplicit false
set_option linter.unusedVariables false
set_option linter.unusedSimpArgs false
namespace Tree.TH
open Go Go.Proofs Tree Tree.O15
theorem ints_ofH : ∀ (xs : List (List LV)), (∀ x ∈ xs, ∃ fuel, Typed tabH.P fuel 3 x) → ∃ l : List Int, xs = l.map irow
  | [], _ => ⟨[], rfl⟩
  | x :: xs, h => by
    obtain ⟨l, rfl⟩ := ints_ofH xs (fun y hy => h y (List.mem_cons_of_mem _ hy))
    obtain ⟨fuel, hx⟩ := h x (List.mem_cons_self ..)
    have h4 := sh_ok 8 fuel 3 [.i .i64] x (by kernel_rfl) hx
    obtain ⟨_, _, rfl, ⟨k, rfl, _⟩, q0⟩ := h4.cons
    obtain rfl := q0.nil
    exact ⟨k :: l, rfl⟩
theorem intsL_of {lv : LV} (h : ShOk tabH.P (.sl 3) lv) : ∃ (l : List Int) (sp : List (List LV)), lv = .sl false 0 1 (l.map irow) sp := by
  obtain ⟨xs, sp, rfl, h1, h2⟩ := h
  obtain ⟨l, rfl⟩ := ints_ofH xs (fun x hx => (h1 x (List.mem_append_left _ hx)).2)
  have hc : tabH.P.cellsOf 3 = 1 := by kernel_rfl
  exact ⟨l, sp, by rw [hc]⟩
end Tree.TH
