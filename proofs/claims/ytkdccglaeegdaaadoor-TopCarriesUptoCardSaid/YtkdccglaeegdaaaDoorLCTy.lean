/- TopCarries: arguments that are rows of messages, of numbers. -/
import Derived.Test.YtkdccglaeegdaaaDoorTY
import Derived.Test.YtkdccglaeegdaaaDoorLC5
import Derived.Test.YtkdccglaeegdaaaDoorLCChk
set_option autoImplicit false
set_option linter.unusedVariables false
set_option linter.unusedSimpArgs false
namespace Tree.C12
open Go Go.Proofs Tree Tree.W11
theorem tyC : TermTy tabC.P 80 33 := ⟨by kernel_rfl, by kernel_rfl, by kernel_rfl, by kernel_rfl, by kernel_rfl, by kernel_rfl⟩
theorem zs_ofC : ∀ (xs : List (List LV)), (∀ x ∈ xs, ∃ fuel, Typed tabC.P fuel 3 x) → ∃ l : List Int, xs = l.map zr ∧ ∀ z ∈ l, -9223372036854775808 ≤ z ∧ z ≤ 9223372036854775807
  | [], _ => ⟨[], rfl, fun z h => (nomatch h)⟩
  | x :: xs, h => by
    obtain ⟨l, rfl, hl⟩ := zs_ofC xs (fun y hy => h y (List.mem_cons_of_mem _ hy))
    obtain ⟨fuel, hx⟩ := h x (List.mem_cons_self ..)
    obtain ⟨_, _, rfl, ⟨a, rfl, hn⟩, h1⟩ := (sh_ok 8 fuel 3 [.i .i64] x (by kernel_rfl) hx).cons
    obtain rfl := h1.nil
    refine ⟨a :: l, rfl, fun z hz => ?_⟩
    rcases List.mem_cons.1 hz with rfl | hz
    · simp only [Lit.wf, Bool.and_eq_true, decide_eq_true_eq] at hn
      have e1 : IntKind.min .i64 = -9223372036854775808 := by decide
      have e2 : IntKind.max .i64 = 9223372036854775807 := by decide
      rw [e1, e2] at hn
      exact hn
    · exact hl z hz
theorem bulkRC : ∀ l : List Int, l.length ≤ LV.bulkss (l.map zr)
  | [] => by simp [LV.bulkss]
  | a :: l => by
    have := bulkRC l
    have e : LV.bulks (zr a) ≥ 1 := by show LV.bulks [LV.int .i64 a] ≥ 1; simp only [LV.bulks, LV.bulk]; omega
    simp only [List.map_cons, LV.bulkss, List.length_cons]; omega
theorem noRefZ (n : Nat) (l : List Int) : LV.noRefss n (l.map zr) = true := by
  induction l with
  | nil => rfl
  | cons a l ih => simp [LV.noRefss, zr, LV.noRefs, LV.noRef, ih]
theorem row_ofC {fuel : Nat} {x : List LV} (hx : Typed tabC.P fuel 37 x) (hb : LV.bulks x ≤ 1048576) : ∃ q : MQ, x = rowM q ∧ okQ q := by
  have h4 := sh_ok 8 fuel 37 [.i .u8, .i .i64, .i .i64, .i .i64, .i .i64, .sl 80, .i .i64, .i .i64, .i .i64, .sl 3] x (by kernel_rfl) hx
  obtain ⟨_, _, rfl, ⟨tg, rfl, _⟩, q0⟩ := h4.cons
  obtain ⟨_, _, rfl, ⟨v1, rfl, _⟩, q1⟩ := q0.cons
  obtain ⟨_, _, rfl, ⟨v2, rfl, _⟩, q2⟩ := q1.cons
  obtain ⟨_, _, rfl, ⟨g1, rfl, _⟩, q3⟩ := q2.cons
  obtain ⟨_, _, rfl, ⟨g2, rfl, _⟩, q4⟩ := q3.cons
  obtain ⟨_, _, rfl, w5, q5⟩ := q4.cons
  obtain ⟨_, _, rfl, ⟨cn, rfl, _⟩, q6⟩ := q5.cons
  obtain ⟨_, _, rfl, ⟨fl, rfl, _⟩, q7⟩ := q6.cons
  obtain ⟨_, _, rfl, ⟨w, rfl, _⟩, q8⟩ := q7.cons
  obtain ⟨_, _, rfl, w9, q9⟩ := q8.cons
  obtain rfl := q9.nil
  obtain ⟨cs, ds, rfl, m1, m2⟩ := term_ofP tyC w5
  obtain ⟨xs, sp, rfl, x1, _⟩ := w9
  obtain ⟨l, rfl, _⟩ := zs_ofC xs (fun x hx => (x1 x (List.mem_append_left _ hx)).2)
  obtain ⟨u, rfl, _⟩ := zs_ofC sp (fun x hx => (x1 x (List.mem_append_right _ hx)).2)
  have hc3 : tabC.P.cellsOf 3 = 1 := by kernel_rfl
  rw [hc3] at hb ⊢
  have b1 := bulk5 false 0 cs (ds.map C.row)
  have b2 := bulkRC l
  simp only [LV.bulk, LV.bulks] at hb b1
  refine ⟨(⟨tg, v1, v2, g1, g2, cs, cn, fl, w, l⟩, ds.map C.row, u.map zr), rfl, ?_⟩
  exact ⟨by simp only; omega, m1, by simp only; omega, fun n => noRef_rows n ds, fun n => noRefZ n u⟩
theorem rows_ofC : ∀ (xs : List (List LV)), (∀ x ∈ xs, ∃ fuel, Typed tabC.P fuel 37 x) → LV.bulkss xs ≤ 1048576 → ∃ L : List MQ, xs = L.map rowM ∧ ∀ q ∈ L, okQ q
  | [], _, _ => ⟨[], rfl, fun q h => (nomatch h)⟩
  | x :: xs, h, hb => by
    rw [LV.bulkss] at hb
    obtain ⟨L, rfl, hL⟩ := rows_ofC xs (fun y hy => h y (List.mem_cons_of_mem _ hy)) (by omega)
    obtain ⟨fuel, hx⟩ := h x (List.mem_cons_self ..)
    obtain ⟨q, rfl, hq⟩ := row_ofC hx (by omega)
    refine ⟨q :: L, rfl, fun y hy => ?_⟩
    rcases List.mem_cons.1 hy with rfl | hy
    · exact hq
    · exact hL y hy
theorem reachC : reachBytes ≤ 4611686018427387904 := by decide
theorem msgs_ofC {lv : LV} (h : ShOk tabC.P (.sl 37) lv) (hb : lv.bulk ≤ 1048576) : ∃ (L : List MQ) (sp : List (List LV)), lv = .sl false 0 10 (L.map rowM) sp ∧ L.length ≤ 4611686018427387904 ∧ ∀ q ∈ L, okQ q := by
  obtain ⟨xs, sp, rfl, h1, h2⟩ := h
  rw [LV.bulk] at hb
  obtain ⟨L, rfl, hL⟩ := rows_ofC xs (fun x hx => (h1 x (List.mem_append_left _ hx)).2) (by omega)
  have hc : tabC.P.cellsOf 37 = 10 := by kernel_rfl
  have hbb : 1 ≤ tabC.P.bytesOf 37 := by decide +kernel
  have hre := reachC
  rw [List.length_map] at h2
  have h3 := Nat.le_trans (Nat.mul_le_mul_left (L.length + sp.length) hbb) h2
  exact ⟨L, sp, by rw [hc], by omega, hL⟩
theorem picks_ofC {lv : LV} (h : ShOk tabC.P (.sl 3) lv) : ∃ (Z : List Int) (sp : List (List LV)), lv = .sl false 0 1 (Z.map zr) sp ∧ Z.length ≤ 4611686018427387904 ∧ ∀ z ∈ Z, -9223372036854775808 ≤ z ∧ z ≤ 9223372036854775807 := by
  obtain ⟨xs, sp, rfl, h1, h2⟩ := h
  obtain ⟨Z, rfl, hZ⟩ := zs_ofC xs (fun x hx => (h1 x (List.mem_append_left _ hx)).2)
  have hc : tabC.P.cellsOf 3 = 1 := by kernel_rfl
  have hbb : 1 ≤ tabC.P.bytesOf 3 := by decide +kernel
  have hre := reachC
  rw [List.length_map] at h2
  have h3 := Nat.le_trans (Nat.mul_le_mul_left (Z.length + sp.length) hbb) h2
  exact ⟨Z, sp, by rw [hc], by omega, hZ⟩
end Tree.C12
