/- Layer 11: arguments that are terms. -/
import Derived.Test.YtoofpbdalgopgaaDoorTY
import Derived.Test.YtoofpbdalgopgaaDoorL11D0
import Derived.Test.YtoofpbdalgopgaaDoorL11Chk
set_option autoImplicit false
set_option linter.unusedVariables false
namespace Tree.W11
open Go Go.Proofs
theorem ty11 : TermTy tab11.P 43 26 := ⟨by kernel_rfl, by kernel_rfl, by kernel_rfl, by kernel_rfl, by kernel_rfl, by kernel_rfl⟩
theorem ints_of11 : ∀ (xs : List (List LV)), (∀ x ∈ xs, ∃ fuel, Typed tab11.P fuel 3 x) → ∃ l : List Int, xs = l.map zr
  | [], _ => ⟨[], rfl⟩
  | x :: xs, h => by
    obtain ⟨l, rfl⟩ := ints_of11 xs (fun y hy => h y (List.mem_cons_of_mem _ hy))
    obtain ⟨fuel, hx⟩ := h x (List.mem_cons_self ..)
    obtain ⟨_, _, rfl, ⟨a, rfl, _⟩, h1⟩ := (sh_ok 8 fuel 3 [.i .i64] x (by kernel_rfl) hx).cons
    obtain rfl := h1.nil
    exact ⟨a :: l, rfl⟩
theorem bulkR : ∀ l : List Int, l.length ≤ LV.bulkss (l.map zr)
  | [] => by simp [LV.bulkss]
  | a :: l => by
    have := bulkR l
    have e : LV.bulks (zr a) ≥ 1 := by show LV.bulks [LV.int .i64 a] ≥ 1; simp only [LV.bulks, LV.bulk]; omega
    simp only [List.map_cons, LV.bulkss, List.length_cons]; omega
theorem msg_of {lv : LV} (h : ArgTy tab11.P 31 lv) (hb : lv.bulk ≤ 1048576) : ∃ (m : M) (s1 s2 : List (List LV)), lv = m.lv 0 s1 0 s2 ∧ m.cs.length ≤ 1048576 ∧ (∀ c ∈ m.cs, c.fine) ∧ m.bits.length ≤ 1048576 ∧ (∀ n, LV.noRefss n s1 = true) ∧ ∀ n, LV.noRefss n s2 = true := by
  obtain ⟨cc, rfl, h4⟩ := arg_struct (sh := [.i .u8, .i .i64, .i .i64, .i .i64, .i .i64, .sl 43, .i .i64, .i .i64, .i .i64, .sl 3]) (n := 8) (by kernel_rfl) (by kernel_rfl) h
  obtain ⟨_, _, rfl, ⟨tg, rfl, _⟩, q0⟩ := h4.cons
  obtain ⟨_, _, rfl, ⟨v1, rfl, _⟩, q1⟩ := q0.cons
  obtain ⟨_, _, rfl, ⟨v2, rfl, _⟩, q2⟩ := q1.cons
  obtain ⟨_, _, rfl, ⟨g1, rfl, _⟩, q3⟩ := q2.cons
  obtain ⟨_, _, rfl, ⟨g2, rfl, _⟩, q4⟩ := q3.cons
  obtain ⟨_, _, rfl, w5, q5⟩ := q4.cons
  obtain ⟨_, _, rfl, ⟨cn, rfl, _⟩, q6⟩ := q5.cons
  obtain ⟨_, _, rfl, ⟨fl, rfl, _⟩, q7⟩ := q6.cons
  obtain ⟨_, _, rfl, ⟨w, rfl, _⟩, q8⟩ := q7.cons
  obtain ⟨_, _, rfl, w9, q9⟩ := q8.cons
  obtain rfl := q9.nil
  obtain ⟨cs, ds, rfl, m1, m2⟩ := term_ofP ty11 w5
  obtain ⟨xs, sp, rfl, x1, _⟩ := w9
  obtain ⟨l, rfl⟩ := ints_of11 xs (fun x hx => (x1 x (List.mem_append_left _ hx)).2)
  obtain ⟨u, rfl⟩ := ints_of11 sp (fun x hx => (x1 x (List.mem_append_right _ hx)).2)
  have hc3 : tab11.P.cellsOf 3 = 1 := by kernel_rfl
  rw [hc3] at hb ⊢
  have b1 := bulk5 false 0 cs (ds.map C.row)
  have b2 := bulkR l
  simp only [LV.bulk, LV.bulks] at hb b1
  have hz : ∀ n (l : List Int), LV.noRefss n (l.map zr) = true := by
    intro n l; induction l with
    | nil => rfl
    | cons a l ih => simp [LV.noRefss, zr, LV.noRefs, LV.noRef, ih]
  exact ⟨⟨tg, v1, v2, g1, g2, cs, cn, fl, w, l⟩, ds.map C.row, u.map zr, rfl, by simp only; omega, m1, by simp only; omega, fun n => noRef_rows n ds, fun n => hz n u⟩
end Tree.W11
