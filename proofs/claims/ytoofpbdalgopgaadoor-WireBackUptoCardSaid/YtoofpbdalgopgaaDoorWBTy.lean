/- Layer 11: arguments that are rows of bytes. -/
import Derived.Test.YtoofpbdalgopgaaDoorTF
import Derived.Test.YtoofpbdalgopgaaDoorTLy
set_option autoImplicit false
set_option linter.unusedVariables false
set_option linter.unusedSimpArgs false
namespace Tree.W11
open Go Tree
theorem bytes_ofP {P : Program} {ti : TypeId} (hs : shOf P 8 ti = some [.i .u8]) : ∀ (xs : List (List LV)), (∀ x ∈ xs, ∃ fuel, Typed P fuel ti x) → ∃ l : List Int, xs = l.map brw ∧ ∀ c ∈ l, 0 ≤ c ∧ c < 256
  | [], _ => ⟨[], rfl, fun x h => (nomatch h)⟩
  | x :: xs, h => by
    obtain ⟨l, rfl, hl⟩ := bytes_ofP hs xs (fun y hy => h y (List.mem_cons_of_mem _ hy))
    obtain ⟨fuel, hx⟩ := h x (List.mem_cons_self ..)
    obtain ⟨_, _, rfl, ⟨n, rfl, hn⟩, h1⟩ := (sh_ok 8 fuel ti _ x hs hx).cons
    obtain rfl := h1.nil
    simp only [Lit.wf, Bool.and_eq_true, decide_eq_true_eq] at hn
    have e1 : IntKind.min .u8 = 0 := by decide
    have e2 : IntKind.max .u8 = 255 := by decide
    rw [e1, e2] at hn
    refine ⟨n :: l, rfl, fun x hx => ?_⟩
    rcases List.mem_cons.1 hx with rfl | hx
    · omega
    · exact hl x hx
theorem bulkB : ∀ l : List Int, l.length ≤ LV.bulkss (l.map brw)
  | [] => by simp [LV.bulkss]
  | a :: l => by
    have := bulkB l
    have e : LV.bulks (brw a) ≥ 1 := by show LV.bulks [LV.int .u8 a] ≥ 1; simp only [LV.bulks, LV.bulk]; omega
    simp only [List.map_cons, LV.bulkss, List.length_cons]; omega
theorem bytesL_ofP {P : Program} {t : TypeId} (hs : shOf P 8 t = some [.i .u8]) (hc : P.cellsOf t = 1) {lv : LV} (h : ShOk P (.sl t) lv) (hb : lv.bulk ≤ 1048576) : ∃ (l : List Int) (sp : List (List LV)), lv = .sl false 0 1 (l.map brw) sp ∧ (∀ c ∈ l, 0 ≤ c ∧ c < 256) ∧ l.length ≤ 1048576 := by
  obtain ⟨xs, sp, rfl, h1, h2⟩ := h
  obtain ⟨l, rfl, hl⟩ := bytes_ofP hs xs (fun x hx => (h1 x (List.mem_append_left _ hx)).2)
  have h3 := bulkB l
  rw [LV.bulk] at hb
  exact ⟨l, sp, by rw [hc], hl, by omega⟩
end Tree.W11
