/- Layer 15: arguments that are deeds. -/
import Derived.Test.YtoieakkaopbjaaaTF
import Derived.Test.YtoieakkaopbjaaaL15Law2
import Derived.Test.YtoieakkaopbjaaaL15Chk
set_option autoImplicit false
set_option linter.unusedVariables false
namespace Tree.O15
open Go Go.Proofs
theorem sd15 : shOf tab15.P 8 31 = some [.i .i64, .i .i64, .i .i64, .i .i64, .sl 24] := by kernel_rfl
theorem sn15 : shOf tab15.P 8 24 = some [.i .i64, .i .i64] := by kernel_rfl
theorem cn15 : tab15.P.cellsOf 24 = 2 := by kernel_rfl
theorem cd15 : tab15.P.cellsOf 31 = 5 := by kernel_rfl
theorem names_of15 : ∀ (xs : List (List LV)), (∀ x ∈ xs, ∃ fuel, Typed tab15.P fuel 24 x) → ∃ ns : List NV, xs = ns.map nrow
  | [], _ => ⟨[], rfl⟩
  | x :: xs, h => by
    obtain ⟨ns, rfl⟩ := names_of15 xs (fun y hy => h y (List.mem_cons_of_mem _ hy))
    obtain ⟨fuel, hx⟩ := h x (List.mem_cons_self ..)
    obtain ⟨a, b, rfl⟩ := (sh_ok 8 fuel 24 _ x sn15 hx).ints2
    exact ⟨(a, b) :: ns, rfl⟩
theorem deeds_of15 : ∀ (xs : List (List LV)), (∀ x ∈ xs, ∃ fuel, Typed tab15.P fuel 31 x) → ∃ ds : List Dd, xs = ds.map Dd.row
  | [], _ => ⟨[], rfl⟩
  | x :: xs, h => by
    obtain ⟨ds, rfl⟩ := deeds_of15 xs (fun y hy => h y (List.mem_cons_of_mem _ hy))
    obtain ⟨fuel, hx⟩ := h x (List.mem_cons_self ..)
    obtain ⟨_, _, rfl, ⟨k, rfl, _⟩, h1⟩ := (sh_ok 8 fuel 31 _ x sd15 hx).cons
    obtain ⟨_, _, rfl, ⟨a, rfl, _⟩, h2⟩ := h1.cons
    obtain ⟨_, _, rfl, ⟨b, rfl, _⟩, h3⟩ := h2.cons
    obtain ⟨_, _, rfl, ⟨n, rfl, _⟩, h4⟩ := h3.cons
    obtain ⟨_, _, rfl, ⟨ms, sp, rfl, h5, _⟩, h6⟩ := h4.cons
    obtain rfl := h6.nil
    obtain ⟨ns, rfl⟩ := names_of15 ms (fun y hy => (h5 y (List.mem_append_left _ hy)).2)
    refine ⟨⟨k, (a, b), n, 0, ns, sp⟩ :: ds, ?_⟩
    rw [cn15]; rfl
theorem deedsL_of15 {lv : LV} (h : ShOk tab15.P (.sl 31) lv) : ∃ (ds : List Dd) (sp : List (List LV)), lv = slD ds sp := by
  obtain ⟨xs, sp, rfl, h1, h2⟩ := h
  obtain ⟨ds, rfl⟩ := deeds_of15 xs (fun x hx => (h1 x (List.mem_append_left _ hx)).2)
  exact ⟨ds, sp, by rw [cd15]⟩
end Tree.O15
