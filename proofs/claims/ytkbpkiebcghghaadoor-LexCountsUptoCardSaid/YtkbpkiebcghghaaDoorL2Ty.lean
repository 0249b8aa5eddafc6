/- Layer 2: arguments that are lists of texts, of small numbers. -/
import Derived.Test.YtkbpkiebcghghaaDoorTF
import Derived.Test.YtkbpkiebcghghaaDoorL2CP
set_option autoImplicit false
set_option linter.unusedVariables false
set_option linter.unusedSimpArgs false
namespace Tree.X02
open Go Tree
def strs (l : List ByteArray) : List (List LV) := l.map fun s => [.str s]
theorem strs_ofP {P : Program} {ti : TypeId} (hs : shOf P 8 ti = some [.s]) : ∀ (xs : List (List LV)), (∀ x ∈ xs, ∃ fuel, Typed P fuel ti x) → ∃ l : List ByteArray, xs = strs l
  | [], _ => ⟨[], rfl⟩
  | x :: xs, h => by
    obtain ⟨l, rfl⟩ := strs_ofP hs xs (fun y hy => h y (List.mem_cons_of_mem _ hy))
    obtain ⟨fuel, hx⟩ := h x (List.mem_cons_self ..)
    obtain ⟨_, _, rfl, ⟨n, rfl, _⟩, h1⟩ := (sh_ok 8 fuel ti _ x hs hx).cons
    obtain rfl := h1.nil
    exact ⟨n :: l, rfl⟩
theorem strsL_ofP {P : Program} {ti : TypeId} (hs : shOf P 8 ti = some [.s]) (hc : P.cellsOf ti = 1) {lv : LV} (h : ShOk P (.sl ti) lv) : ∃ (l : List ByteArray) (sp : List (List LV)), lv = .sl false 0 1 (strs l) sp := by
  obtain ⟨xs, sp, rfl, h1, h2⟩ := h
  obtain ⟨l, rfl⟩ := strs_ofP hs xs (fun x hx => (h1 x (List.mem_append_left _ hx)).2)
  exact ⟨l, sp, by rw [hc]⟩
theorem wt_bulk (l : List ByteArray) : wt (l.map sgT) = LV.bulkss (strs l) := by
  induction l with
  | nil => rfl
  | cons s l ih =>
    have e : wt ((s :: l).map sgT) = (s.size + 1) + wt (l.map sgT) := by unfold wt; rw [List.map_cons, List.map_cons, List.sum_cons]; rfl
    rw [e, ih]; simp [strs, LV.bulkss, LV.bulks, LV.bulk]
theorem u8s_ofP {P : Program} {ti : TypeId} (hs : shOf P 8 ti = some [.i .u8]) : ∀ (xs : List (List LV)), (∀ x ∈ xs, ∃ fuel, Typed P fuel ti x) → ∃ l : List Int, xs = l.map u8r ∧ ∀ x ∈ l, 0 ≤ x ∧ x ≤ 255
  | [], _ => ⟨[], rfl, fun x h => (nomatch h)⟩
  | x :: xs, h => by
    obtain ⟨l, rfl, hl⟩ := u8s_ofP hs xs (fun y hy => h y (List.mem_cons_of_mem _ hy))
    obtain ⟨fuel, hx⟩ := h x (List.mem_cons_self ..)
    obtain ⟨_, _, rfl, ⟨n, rfl, hn⟩, h1⟩ := (sh_ok 8 fuel ti _ x hs hx).cons
    obtain rfl := h1.nil
    simp only [Lit.wf, Bool.and_eq_true, decide_eq_true_eq] at hn
    have e1 : IntKind.min .u8 = 0 := by decide
    have e2 : IntKind.max .u8 = 255 := by decide
    rw [e1, e2] at hn
    refine ⟨n :: l, rfl, fun x hx => ?_⟩
    rcases List.mem_cons.1 hx with rfl | hx
    · exact hn
    · exact hl x hx
theorem u8sL_ofP {P : Program} {ti : TypeId} (hs : shOf P 8 ti = some [.i .u8]) (hc : P.cellsOf ti = 1) {lv : LV} (h : ShOk P (.sl ti) lv) : ∃ (l : List Int) (sp : List (List LV)), lv = .sl false 0 1 (l.map u8r) sp ∧ ∀ x ∈ l, 0 ≤ x ∧ x ≤ 255 := by
  obtain ⟨xs, sp, rfl, h1, h2⟩ := h
  obtain ⟨l, rfl, hl⟩ := u8s_ofP hs xs (fun x hx => (h1 x (List.mem_append_left _ hx)).2)
  exact ⟨l, sp, by rw [hc], hl⟩
theorem bulk_u8 (l : List Int) : LV.bulkss (l.map u8r) = l.length := by
  induction l with
  | nil => rfl
  | cons a l ih => simp [u8r, LV.bulkss, LV.bulks, LV.bulk] at ih ⊢; omega
theorem i64_wf {n : Int} (hn : (Lit.int .i64 n).wf = true) : -9223372036854775808 ≤ n ∧ n ≤ 9223372036854775807 := by
  simp only [Lit.wf, Bool.and_eq_true, decide_eq_true_eq] at hn
  have e1 : IntKind.min .i64 = -9223372036854775808 := by decide
  have e2 : IntKind.max .i64 = 9223372036854775807 := by decide
  rw [e1, e2] at hn
  exact hn
end Tree.X02
