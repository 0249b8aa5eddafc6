/- Package refs: whether a variable is exported, by a table's raw counts. -/
import Derived.Test.YtfdamolkgfcoiaaR16R
set_option autoImplicit false
set_option linter.unusedVariables false
set_option linter.unusedSimpArgs false
namespace Tree.R16
open Go Tree
def dX (y : Int) (E : Int → Int) : K3 → Int := fun k => if k.1 = 0 ∧ k.2.1 = y then E k.2.2 else 0
def upX (E : Int → Int) (j by_ : Int) : Int → Int := fun j' => if j' = j then E j' + by_ else E j'
theorem dX_up (y : Int) (E : Int → Int) (j by_ : Int) (k : K3) : upD (dX y E) (0, y, j) by_ k = dX y (upX E j by_) k := by
  obtain ⟨k1, k2, k3⟩ := k
  unfold upD dX upX
  simp only [Prod.mk.injEq]
  by_cases h1 : k1 = 0 ∧ k2 = y
  · rw [if_pos h1, if_pos h1]
    by_cases h2 : k3 = j
    · rw [if_pos ⟨h1.1, h1.2, h2⟩, if_pos h2]
    · rw [if_neg (fun q => h2 q.2.2), if_neg h2]; omega
  · rw [if_neg h1, if_neg h1, if_neg (fun q => h1 ⟨q.1, q.2.1⟩)]; omega
theorem TB.congX {n : Nat} {me : Int} {ob : Obs} {D G D' G' : K3 → Int} {L : Nat} (h : TB n me ob D G L) (h1 : ∀ k, D k = D' k) (h2 : ∀ k, G k = G' k) : TB n me ob D' G' L := by
  have e1 : D = D' := funext h1
  have e2 : G = G' := funext h2
  rw [← e1, ← e2]; exact h
theorem TB.frameX {n : Nat} {me : Int} {ob ob' : Obs} {D G : K3 → Int} {L : Nat} (h : TB n me ob D G L) (hf : ∀ j, n ≤ j → j ≤ n + 2 → ob'[j]? = ob[j]?) : TB n me ob' D G L := by
  obtain ⟨c, es, ci, is, h1, h2, h3, h4⟩ := h
  exact ⟨c, es, ci, is, by rw [hf n (by omega) (by omega)]; exact h1, by rw [hf (n + 1) (by omega) (by omega)]; exact h2, by rw [hf (n + 2) (by omega) (by omega)]; exact h3, h4⟩
theorem hasX_iff (x y : Int) : ∀ es : List En3, hasV x y es = true ↔ ∃ k, k ∈ es.map (·.1) ∧ k.1 = x ∧ k.2.1 = y
  | [] => by simp [hasV]
  | e :: r => by
    simp only [hasV, Bool.or_eq_true, hasX_iff x y r, Bool.and_eq_true, beq_iff_eq, List.map_cons, List.mem_cons]
    constructor
    · rintro (h | ⟨k, h1, h2⟩)
      · exact ⟨e.1, .inl rfl, h.1, h.2⟩
      · exact ⟨k, .inr h1, h2⟩
    · rintro ⟨k, rfl | h1, h2, h3⟩
      · exact .inl ⟨h2, h3⟩
      · exact .inr ⟨k, h1, h2, h3⟩
theorem exp_tbX {n : Nat} {y : Int} {ob : Obs} {E : Int → Int} {G : K3 → Int} {L : Nat} (h : TB n 0 ob (dX y E) G L) (hL : L ≤ 1099511627776) (hE : ∀ j, -9223372036854775808 ≤ E j ∧ E j ≤ 9223372036854775807) :
    ∃ q, (∀ pb, Gives env16z 401 [.optr (n + 2) 0, .agg (nr3 (0, y))] ob pb (.bool q, ob)) ∧ (q = false ↔ ∀ j, E j = 0) := by
  obtain ⟨c, es, ci, is, h1, h2, h3, h4, h5, h6, h7, h8, h9⟩ := h
  refine ⟨hasV 0 y es, fun pb => gives_ext (F := exportedF) rfl ?_, ?_⟩
  · simp only [exportedF, nr3, h3, h1, parseM3_m3, h4.ok (by omega), if_true]
  · have hw : ∀ j, IntKind.i64.wrap (E j) = E j := fun j => wrap64 (hE j).1 (hE j).2
    constructor
    · intro hq j
      have hk : ¬ ∃ k, k ∈ es.map (·.1) ∧ k.1 = 0 ∧ k.2.1 = y := by
        intro q; rw [(hasX_iff 0 y es).2 q] at hq; cases hq
      have := h6 (0, y, j)
      unfold dX at this
      rw [if_pos ⟨rfl, rfl⟩, hw] at this
      by_cases e0 : E j = 0
      · exact e0
      · exact absurd ⟨(0, y, j), (h4.mem_iff _).2 (by rw [this]; exact e0), rfl, rfl⟩ hk
    · intro hz
      cases hq : hasV 0 y es with
      | false => rfl
      | true =>
        obtain ⟨k, k1, k2, k3⟩ := (hasX_iff 0 y es).1 hq
        have := (h4.mem_iff k).1 k1
        rw [h6] at this
        unfold dX at this
        rw [if_pos ⟨k2, k3⟩, hz, wrap_0] at this
        exact absurd rfl this
theorem es_nilX {c : Int} {es : List En3} (h : W3 c es) (hz : ∀ k, lk3 es k = 0) : es = [] := by
  cases es with
  | nil => rfl
  | cons e r => exact absurd (hz e.1) ((h.mem_iff e.1).1 (List.mem_cons_self ..))
end Tree.R16
