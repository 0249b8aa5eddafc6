/- Layer 1: arguments that are cells and terms. -/
import Derived.Test.YtfcmmgldkanliaaDoorL1Law
import Derived.Test.YtfcmmgldkanliaaDoorL1Rows
set_option autoImplicit false
set_option linter.unusedVariables false
namespace Tree
open Go Go.Proofs
theorem sh48 : shOf tab1.P 8 48 = some [.i .u8, .s, .i .i64, .i .i64, .i .i64] := by kernel_rfl
theorem sh33 : shOf tab1.P 8 33 = some [.sl 48] := by kernel_rfl
theorem c48 : tab1.P.cellsOf 48 = 5 := by kernel_rfl
theorem b48 : tab1.P.bytesOf 48 = 48 := by kernel_rfl
theorem c33 : tab1.P.cellsOf 33 = 1 := by kernel_rfl
theorem b33 : tab1.P.bytesOf 33 = 24 := by kernel_rfl
theorem small_max {n : Nat} (h : n ≤ reachBytes) : n ≤ maxLen := by unfold reachBytes at h; unfold maxLen; omega
theorem cells_of : ∀ (xs : List (List LV)), (∀ x ∈ xs, ∃ fuel, Typed tab1.P fuel 48 x) → ∃ cs : List C, xs = cs.map C.row ∧ ∀ c ∈ cs, c.fine
  | [], _ => ⟨[], rfl, fun c hc => by cases hc⟩
  | x :: xs, h => by
    obtain ⟨cs, rfl, hf⟩ := cells_of xs (fun y hy => h y (List.mem_cons_of_mem _ hy))
    obtain ⟨fuel, hx⟩ := h x (List.mem_cons_self ..)
    obtain ⟨_, _, rfl, ⟨k, rfl, wk⟩, h1⟩ := (sh_ok 8 fuel 48 _ x sh48 hx).cons
    obtain ⟨_, _, rfl, ⟨s, rfl, ws⟩, h2⟩ := h1.cons
    obtain ⟨_, _, rfl, ⟨n, rfl, _⟩, h3⟩ := h2.cons
    obtain ⟨a, b, rfl⟩ := h3.ints2
    refine ⟨⟨k, s, n, a, b⟩ :: cs, rfl, fun c hc => ?_⟩
    rcases List.mem_cons.1 hc with rfl | hc
    · refine ⟨small_max ws, ?_, ?_⟩
      · simp only [Lit.wf, Bool.and_eq_true, decide_eq_true_eq] at wk
        have : IntKind.min .u8 = 0 := by decide
        rw [this] at wk; exact wk.1
      · simp only [Lit.wf, Bool.and_eq_true, decide_eq_true_eq] at wk
        have : IntKind.max .u8 = 255 := by decide
        rw [this] at wk; exact wk.2
    · exact hf c hc
/-- What a term's argument is. -/
theorem term_of {lv : LV} (h : ShOk tab1.P (.sl 48) lv) : ∃ cs sp, lv = sl5 false 0 cs sp ∧ (∀ c ∈ cs, c.fine) ∧ cs.length * 48 ≤ 140737488355328 := by
  obtain ⟨xs, sp, rfl, h1, h2⟩ := h
  obtain ⟨cs, rfl, hf⟩ := cells_of xs (fun x hx => (h1 x (List.mem_append_left _ hx)).2)
  refine ⟨cs, sp, by rw [c48], hf, ?_⟩
  rw [b48, List.length_map] at h2
  unfold reachBytes at h2; omega
theorem terms_of : ∀ (xs : List (List LV)), (∀ x ∈ xs, ∃ fuel, Typed tab1.P fuel 33 x) → ∃ ts : List T1, xs = ts.map T1.row ∧ ∀ t ∈ ts, (∀ c ∈ t.cs, c.fine) ∧ t.cs.length * 48 ≤ 140737488355328
  | [], _ => ⟨[], rfl, fun c hc => by cases hc⟩
  | x :: xs, h => by
    obtain ⟨ts, rfl, hf⟩ := terms_of xs (fun y hy => h y (List.mem_cons_of_mem _ hy))
    obtain ⟨fuel, hx⟩ := h x (List.mem_cons_self ..)
    obtain ⟨_, _, rfl, h0, h1⟩ := (sh_ok 8 fuel 33 _ x sh33 hx).cons
    obtain rfl := h1.nil
    obtain ⟨cs, sp, rfl, h2, h3⟩ := term_of h0
    refine ⟨⟨0, cs, sp⟩ :: ts, rfl, fun t ht => ?_⟩
    rcases List.mem_cons.1 ht with rfl | ht
    · exact ⟨h2, h3⟩
    · exact hf t ht
theorem termsL_of {lv : LV} (h : ShOk tab1.P (.sl 33) lv) : ∃ ts sp, lv = sl1 false 0 ts sp ∧ (∀ t ∈ ts, (∀ c ∈ t.cs, c.fine) ∧ t.cs.length * 48 ≤ 140737488355328) ∧ ts.length * 24 ≤ 140737488355328 := by
  obtain ⟨xs, sp, rfl, h1, h2⟩ := h
  obtain ⟨ts, rfl, hf⟩ := terms_of xs (fun x hx => (h1 x (List.mem_append_left _ hx)).2)
  refine ⟨ts, sp, by rw [c33], hf, ?_⟩
  rw [b33, List.length_map] at h2
  unfold reachBytes at h2; omega
end Tree
