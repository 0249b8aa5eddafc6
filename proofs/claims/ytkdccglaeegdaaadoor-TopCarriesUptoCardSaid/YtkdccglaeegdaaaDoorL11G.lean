/- Layer 11: no message's bytes begin with another one's: the plain law. -/
import Derived.Test.YtkdccglaeegdaaaDoorL11E
import Derived.Test.YtkdccglaeegdaaaDoorL11G1
set_option autoImplicit false
set_option linter.unusedVariables false
set_option linter.unusedSimpArgs false
namespace Tree.W11
open Go
theorem msgB_inj {m n : M} {r s : List Int} (hm : RightM m) (hn : RightM n) (h : msgB m ++ r = msgB n ++ s) : m = n ∧ r = s := by
  obtain ⟨t, v1, v2, g1, g2, cs, cn, fl, w, bits⟩ := m
  obtain ⟨t', v1', v2', g1', g2', cs', cn', fl', w', bits'⟩ := n
  unfold msgB at h
  simp only [List.cons_append, List.cons.injEq] at h
  obtain ⟨ht, h⟩ := h
  subst ht
  unfold RightM at hm hn
  simp only at hm hn
  have hz : ∀ {α : Type} {l : List α}, l.length = 0 → l = [] := fun h => List.eq_nil_of_length_eq_zero h
  rcases hm with ⟨rfl, a1, a2, a3, a4, a5, a6⟩ | ⟨rfl, a1, a2, a3, a4, a5, a6⟩ | ⟨rfl, a1, a2, a3, a4, a5, a6⟩ | ⟨rfl, a1, a2, a3, a4, a5, a6, a7⟩ | ⟨rfl, a1, a2, a3, a4, a5, a6, a7⟩ | ⟨rfl, a1, a2, a3, a4, a5, a6⟩
  all_goals
    simp only [Int.reduceEq, false_and, false_or, or_false, true_and] at hn
    simp only [hdB, midB, crB, Int.reduceEq, if_true, if_false, or_false, false_or, or_true, true_or, List.append_assoc, List.nil_append, List.append_nil] at h
  · obtain ⟨b1, b2, b3, b4, b5, b6⟩ := hn
    obtain ⟨⟨rfl, rfl⟩, k1⟩ := nameB_inj a1 b1 h
    obtain ⟨⟨rfl, rfl⟩, k2⟩ := amtB_inj a6.1 b6.1 k1
    obtain ⟨rfl, rfl⟩ := a2; obtain ⟨rfl, rfl⟩ := b2
    rw [hz a3, hz b3, a4, a5, b4, b5]
    exact ⟨rfl, k2⟩
  · obtain ⟨b1, b2, b3, b4, b5, b6⟩ := hn
    obtain ⟨⟨rfl, rfl⟩, k1⟩ := nameB_inj a1 b1 h
    obtain ⟨rfl, k2⟩ := termB_inj a3 b3 k1
    obtain ⟨⟨rfl, rfl⟩, k3⟩ := amtB_inj a6.1 b6.1 k2
    obtain ⟨rfl, rfl⟩ := a2; obtain ⟨rfl, rfl⟩ := b2
    rw [a4, a5, b4, b5]
    exact ⟨rfl, k3⟩
  · obtain ⟨b1, b2, b3, b4, b5, b6⟩ := hn
    obtain ⟨⟨rfl, rfl⟩, k1⟩ := nameB_inj a2 b2 h
    obtain ⟨rfl, k2⟩ := termB_inj a3 b3 k1
    obtain ⟨⟨rfl, rfl⟩, k3⟩ := amtB_inj a6.1 b6.1 k2
    obtain ⟨rfl, rfl⟩ := a1; obtain ⟨rfl, rfl⟩ := b1
    rw [a4, a5, b4, b5]
    exact ⟨rfl, k3⟩
  · obtain ⟨b1, b2, b3, b4, b5, b6, b7⟩ := hn
    obtain ⟨⟨rfl, rfl⟩, k1⟩ := nameB_inj a1 b1 h
    obtain ⟨e, k2⟩ := numB_inj _ _ _ _ k1
    obtain ⟨rfl, rfl⟩ := a2; obtain ⟨rfl, rfl⟩ := b2
    have : cn = cn' := by omega
    rw [hz a3, hz b3, this, a5, b5, a6, b6, hz a7, hz b7]
    exact ⟨rfl, k2⟩
  · obtain ⟨b1, b2, b3, b4, b5, b6, b7⟩ := hn
    obtain ⟨⟨rfl, rfl⟩, k1⟩ := nameB_inj a1 b1 h
    obtain ⟨e, k2⟩ := numB_inj _ _ _ _ k1
    obtain ⟨rfl, rfl⟩ := a2; obtain ⟨rfl, rfl⟩ := b2
    have : cn = cn' := by omega
    rw [hz a3, hz b3, this, a5, b5, a6, b6, hz a7, hz b7]
    exact ⟨rfl, k2⟩
  · obtain ⟨b1, b2, b3, b4, b5, b6⟩ := hn
    obtain ⟨e, k1⟩ := numB_inj _ _ _ _ h
    obtain ⟨e', k2⟩ := numB_inj _ _ _ _ k1
    obtain ⟨⟨rfl, rfl⟩, k3⟩ := amtB_inj a6.1 b6.1 k2
    obtain ⟨rfl, rfl⟩ := a1; obtain ⟨rfl, rfl⟩ := b1
    obtain ⟨rfl, rfl⟩ := a2; obtain ⟨rfl, rfl⟩ := b2
    have : cn = cn' := by omega
    have e2 : fl = fl' := by omega
    rw [hz a3, hz b3, this, e2]
    exact ⟨rfl, k3⟩
end Tree.W11
