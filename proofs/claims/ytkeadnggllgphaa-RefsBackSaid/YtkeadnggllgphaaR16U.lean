/- RefsSafe: a message comes. -/
import Derived.Test.YtkeadnggllgphaaR16T
set_option autoImplicit false
set_option linter.unusedVariables false
set_option linter.unusedSimpArgs false
namespace Tree.R16
open Go Tree
set_option maxHeartbeats 8000000
set_option maxRecDepth 100000
def dE (y : Int) (E : Int → Int) : K3 → Int := fun k => if k.1 = 0 ∧ k.2.1 = y then E k.2.2 else 0
def dH (y h : Int) : K3 → Int := fun k => if k = (0, y, 0) then h else 0
theorem TB.congr {n : Nat} {me : Int} {ob : Obs} {D G D' G' : K3 → Int} {L : Nat} (h : TB n me ob D G L) (h1 : ∀ k, D k = D' k) (h2 : ∀ k, G k = G' k) : TB n me ob D' G' L := by
  have e1 : D = D' := funext h1
  have e2 : G = G' := funext h2
  rw [← e1, ← e2]; exact h
theorem TB.frame {n : Nat} {me : Int} {ob ob' : Obs} {D G : K3 → Int} {L : Nat} (h : TB n me ob D G L) (hf : ∀ j, n ≤ j → j ≤ n + 2 → ob'[j]? = ob[j]?) : TB n me ob' D G L := by
  obtain ⟨c, es, ci, is, h1, h2, h3, h4⟩ := h
  exact ⟨c, es, ci, is, by rw [hf n (by omega) (by omega)]; exact h1, by rw [hf (n + 1) (by omega) (by omega)]; exact h2, by rw [hf (n + 2) (by omega) (by omega)]; exact h3, h4⟩
/-- Four nodes and their ways in the objects at a. -/
structure WI (a : Nat) (y : Int) (ob : Obs) (E : Int → Int) (H : Nat → Int) (w : Ways) (L : Nat) : Prop where
  cell : ∃ cs, ob[a]? = some cs ∧ WC cs a w
  t0 : TB (a + 1) 0 ob (dE y E) (fun _ => 0) L
  ti : ∀ i : Nat, 1 ≤ i → i < 4 → TB (a + 1 + 3 * i) i ob (fun _ => 0) (dH y (H i)) L
theorem WI.mono {a : Nat} {y : Int} {ob : Obs} {E : Int → Int} {H : Nat → Int} {w : Ways} {L L' : Nat} (h : WI a y ob E H w L) (hl : L ≤ L') : WI a y ob E H w L' :=
  ⟨h.cell, h.t0.mono hl, fun i h1 h2 => (h.ti i h1 h2).mono hl⟩
def upH (H : Nat → Int) (i : Nat) (h : Int) : Nat → Int := fun i' => if i' = i then h else H i'
def upE (E : Int → Int) (j by_ : Int) : Int → Int := fun j' => if j' = j then E j' + by_ else E j'
theorem dE_up (y : Int) (E : Int → Int) (j by_ : Int) (k : K3) : upD (dE y E) (0, y, j) by_ k = dE y (upE E j by_) k := by
  obtain ⟨k1, k2, k3⟩ := k
  unfold upD dE upE
  simp only [Prod.mk.injEq]
  by_cases h1 : k1 = 0 ∧ k2 = y
  · rw [if_pos h1, if_pos h1]
    by_cases h2 : k3 = j
    · rw [if_pos ⟨h1.1, h1.2, h2⟩, if_pos h2]
    · rw [if_neg (fun q => h2 q.2.2), if_neg h2]; omega
  · rw [if_neg h1, if_neg h1, if_neg (fun q => h1 ⟨q.1, q.2.1⟩)]; omega
/-- What a message makes. -/
def cE (E : Int → Int) (f t : Nat) (m : Nte) : Int → Int := if m.1 = 1 then upE E m.2.1 1 else if m.1 = 2 then upE E f (-m.2.2) else E
def cH (H : Nat → Int) (f t : Nat) (m : Nte) : Nat → Int := if m.1 = 0 ∧ t ≠ 0 then upH H t (H t + 1) else H
/-- A message that may be on a way. -/
def okN (f t : Nat) (m : Nte) : Prop := m.1 = 0 ∨ (t = 0 ∧ m.1 = 1 ∧ 1 ≤ m.2.1 ∧ m.2.1 < 4) ∨ (t = 0 ∧ f ≠ 0 ∧ m.1 = 2 ∧ 1 ≤ m.2.2 ∧ m.2.2 ≤ 2147483647)
end Tree.R16
