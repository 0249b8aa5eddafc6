/- TopLast: arguments that are rows of bytes. -/
import Derived.Test.YtogeefachdlkiaaTF
import Derived.Test.YtogeefachdlkiaaLJ8
set_option autoImplicit false
set_option linter.unusedVariables false
set_option linter.unusedSimpArgs false
namespace Tree.J14
open Go Tree
theorem bytes_ofP {P : Program} {ti : TypeId} (hs : shOf P 8 ti = some [.i .u8]) : ∀ (xs : List (List LV)), (∀ x ∈ xs, ∃ fuel, Typed P fuel ti x) → ∃ l : List Int, xs = bts l ∧ okB l
  | [], _ => ⟨[], rfl, fun x h => (nomatch h)⟩
  | x :: xs, h => by
    obtain ⟨l, rfl, hl⟩ := bytes_ofP hs xs (fun y hy => h y (List.mem_cons_of_mem _ hy))
    obtain ⟨fuel, hx⟩ := h x (List.mem_cons_self ..)
    obtain ⟨_, _, rfl, ⟨n, rfl, hn⟩, h1⟩ := (sh_ok 8 fuel ti _ x hs hx).cons
    obtain rfl := h1.nil
    simp only [Lit.wf, Bool.and_eq_true, decide_eq_true_eq] at hn
    have e1 : IntKind.min .u8 = 0 := by decide
    have e2 : IntKind.max .u8 = 255 := by decide
    rw [e1, e2] at hn
    refine ⟨n :: l, rfl, fun x hx => ?_⟩
    rcases List.mem_cons.1 hx with rfl | hx
    · omega
    · exact hl x hx
theorem reach_le : reachBytes ≤ 4611686018427387904 := by decide
theorem pays_ofP {P : Program} {t e : TypeId} (hs : shOf P 8 t = some [.sl e]) (h5 : shOf P 8 e = some [.i .u8]) (hc : P.cellsOf e = 1) (hb : P.bytesOf e = 1) : ∀ (xs : List (List LV)), (∀ x ∈ xs, ∃ fuel, Typed P fuel t x) → ∃ L : List (List Int × List (List LV)), xs = L.map rowP ∧ ∀ q ∈ L, okB q.1 ∧ q.1.length ≤ 4611686018427387904
  | [], _ => ⟨[], rfl, fun x h => (nomatch h)⟩
  | x :: xs, h => by
    obtain ⟨L, rfl, hL⟩ := pays_ofP hs h5 hc hb xs (fun y hy => h y (List.mem_cons_of_mem _ hy))
    obtain ⟨fuel, hx⟩ := h x (List.mem_cons_self ..)
    obtain ⟨_, _, rfl, ⟨ys, sp, rfl, hy, hr⟩, h1⟩ := (sh_ok 8 fuel t _ x hs hx).cons
    obtain rfl := h1.nil
    obtain ⟨l, rfl, hl⟩ := bytes_ofP h5 ys (fun y hm => (hy y (List.mem_append_left _ hm)).2)
    have hre := reach_le
    rw [hb, bts_len] at hr
    refine ⟨(l, sp) :: L, by rw [hc]; rfl, fun q hq => ?_⟩
    rcases List.mem_cons.1 hq with rfl | hq
    · exact ⟨hl, by dsimp only; omega⟩
    · exact hL q hq
theorem paysL_ofP {P : Program} {t e : TypeId} (hs : shOf P 8 t = some [.sl e]) (h5 : shOf P 8 e = some [.i .u8]) (hc : P.cellsOf e = 1) (hb : P.bytesOf e = 1) (hct : P.cellsOf t = 1) (hbt : P.bytesOf t = 24) {lv : LV} (h : ShOk P (.sl t) lv) : ∃ (L : List (List Int × List (List LV))) (sp : List (List LV)), lv = .sl false 0 1 (L.map rowP) sp ∧ L.length ≤ 4611686018427387904 ∧ ∀ q ∈ L, okB q.1 ∧ q.1.length ≤ 4611686018427387904 := by
  obtain ⟨xs, sp, rfl, h1, h2⟩ := h
  obtain ⟨L, rfl, hL⟩ := pays_ofP hs h5 hc hb xs (fun x hx => (h1 x (List.mem_append_left _ hx)).2)
  have hre := reach_le
  rw [hbt, List.length_map] at h2
  exact ⟨L, sp, by rw [hct], by omega, hL⟩
theorem i64_wf {n : Int} (hn : (Lit.int .i64 n).wf = true) : -9223372036854775808 ≤ n ∧ n ≤ 9223372036854775807 := by
  simp only [Lit.wf, Bool.and_eq_true, decide_eq_true_eq] at hn
  have e1 : IntKind.min .i64 = -9223372036854775808 := by decide
  have e2 : IntKind.max .i64 = 9223372036854775807 := by decide
  rw [e1, e2] at hn
  exact hn
end Tree.J14
