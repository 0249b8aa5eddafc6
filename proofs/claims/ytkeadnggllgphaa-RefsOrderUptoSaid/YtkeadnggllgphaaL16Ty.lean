/- Layer 16: arguments that are deeds. -/
import Derived.Test.YtkeadnggllgphaaTF
import Derived.Test.YtkeadnggllgphaaR16S
import Derived.Test.YtkeadnggllgphaaR16Chk
set_option autoImplicit false
set_option linter.unusedVariables false
set_option linter.unusedSimpArgs false
namespace Tree.R16
open Go Go.Proofs Tree
theorem names_of : ∀ (xs : List (List LV)), (∀ x ∈ xs, ∃ fuel, Typed tab16.P fuel 34 x) → ∃ l : List NV3, xs = l.map nr3
  | [], _ => ⟨[], rfl⟩
  | x :: xs, h => by
    obtain ⟨l, rfl⟩ := names_of xs (fun y hy => h y (List.mem_cons_of_mem _ hy))
    obtain ⟨fuel, hx⟩ := h x (List.mem_cons_self ..)
    obtain ⟨a, b, rfl⟩ := (sh_ok 8 fuel 34 [.i .i64, .i .i64] x (by kernel_rfl) hx).ints2
    exact ⟨(a, b) :: l, rfl⟩
theorem bulkN3 : ∀ l : List NV3, l.length ≤ LV.bulkss (l.map nr3)
  | [] => by simp [LV.bulkss]
  | a :: l => by
    have := bulkN3 l
    have e : LV.bulks (nr3 a) ≥ 1 := by show LV.bulks [LV.int .i64 _, LV.int .i64 _] ≥ 1; simp only [LV.bulks, LV.bulk]; omega
    simp only [List.map_cons, LV.bulkss, List.length_cons]; omega
theorem deed_of {fuel : Nat} {x : List LV} (hx : Typed tab16.P fuel 26 x) : ∃ d : Dd, x = d.row ∧ d.vs.length + 1 ≤ LV.bulks x := by
  have h4 := sh_ok 8 fuel 26 [.i .i64, .i .i64, .i .i64, .sl 34] x (by kernel_rfl) hx
  obtain ⟨_, _, rfl, ⟨k, rfl, _⟩, q0⟩ := h4.cons
  obtain ⟨_, _, rfl, ⟨n, rfl, _⟩, q1⟩ := q0.cons
  obtain ⟨_, _, rfl, ⟨t, rfl, _⟩, q2⟩ := q1.cons
  obtain ⟨_, _, rfl, w3, q3⟩ := q2.cons
  obtain rfl := q3.nil
  obtain ⟨xs, sp, rfl, x1, _⟩ := w3
  obtain ⟨l, rfl⟩ := names_of xs (fun x hx => (x1 x (List.mem_append_left _ hx)).2)
  have hc : tab16.P.cellsOf 34 = 2 := by kernel_rfl
  have b := bulkN3 l
  rw [hc]
  refine ⟨⟨k, n, t, 0, l, sp⟩, rfl, ?_⟩
  simp only [LV.bulks, LV.bulk]; omega
theorem deeds_of : ∀ (xs : List (List LV)), (∀ x ∈ xs, ∃ fuel, Typed tab16.P fuel 26 x) → ∃ l : List Dd, xs = l.map Dd.row ∧ wgt l ≤ LV.bulkss xs
  | [], _ => ⟨[], rfl, by simp [wgt]⟩
  | x :: xs, h => by
    obtain ⟨l, rfl, hl⟩ := deeds_of xs (fun y hy => h y (List.mem_cons_of_mem _ hy))
    obtain ⟨fuel, hx⟩ := h x (List.mem_cons_self ..)
    obtain ⟨d, rfl, hd⟩ := deed_of hx
    refine ⟨d :: l, rfl, ?_⟩
    simp only [wgt, List.map_cons, List.sum_cons, LV.bulkss] at *
    omega
theorem deedsL_of {lv : LV} (h : ShOk tab16.P (.sl 26) lv) : ∃ (l : List Dd) (sp : List (List LV)), lv = .sl false 0 4 (l.map Dd.row) sp ∧ wgt l ≤ lv.bulk := by
  obtain ⟨xs, sp, rfl, h1, h2⟩ := h
  obtain ⟨l, rfl, hl⟩ := deeds_of xs (fun x hx => (h1 x (List.mem_append_left _ hx)).2)
  have hc : tab16.P.cellsOf 26 = 4 := by kernel_rfl
  refine ⟨l, sp, by rw [hc], ?_⟩
  rw [LV.bulk]; omega
end Tree.R16
