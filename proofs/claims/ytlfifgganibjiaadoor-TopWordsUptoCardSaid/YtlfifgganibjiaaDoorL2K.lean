/- purlinlaw02.LexPlaces: what E answers. -/
import Derived.Test.YtlfifgganibjiaaDoorL2J
set_option autoImplicit false
set_option linter.unusedVariables false
set_option linter.unusedSimpArgs false
namespace Tree.X02
open Go
set_option maxHeartbeats 8000000
set_option maxRecDepth 100000
theorem ext_size2 (s : ByteArray) (a b : Nat) (h : b ≤ s.size) : (s.extract a b).size = b - a := by
  rw [← len_eq, ext_list, List.length_take, List.length_drop, len_eq]; omega
theorem preB_eq {s : ByteArray} {a : Nat} {t : ByteArray} (h : preB s a t = true) : s.extract a (a + t.size) = t := by
  unfold preB at h
  simp only [Bool.and_eq_true, decide_eq_true_eq, beq_iff_eq] at h
  apply ba_ext
  have := h.2
  rwa [Go.ByteArray.toList_eq, Go.ByteArray.toList_eq] at this
/-- What stands where a token is. -/
theorem next_facts (s : ByteArray) (a : Nat) (ha : a ≤ s.size) (he : (nextN s a).2.2 = 0) : (nextN s a).1.at_ = (skipL s.data.toList a : Int) ∧ (nextN s a).2.1 = skipL s.data.toList a + (nextN s a).1.text.size ∧ s.extract (skipL s.data.toList a) (nextN s a).2.1 = (nextN s a).1.text ∧ ((nextN s a).1.k = 0 → (nextN s a).2.1 = s.size) := by
  have hlen := len_eq s
  have q1 := skip_le (l := s.data.toList) (i := a) (by omega)
  have hpr := (next_prog s a ha he).1
  obtain ⟨r, hr⟩ : ∃ r, r = nextN s a := ⟨_, rfl⟩
  rw [← hr] at he hpr ⊢
  unfold nextN at hr
  dsimp only at hr
  generalize skipL s.data.toList a = b at q1 hr ⊢
  have q3 := span_le (p := dig) (l := s.data.toList) (i := b)
  have q4 := span_le (p := wrd) (l := s.data.toList) (i := b)
  have key : ∀ (k : Nat) (n nd : Int) (j : Nat), b ≤ j → k ≠ 0 → r = (⟨k, s.extract b j, n, nd, b⟩, j, 0) → r.1.at_ = (b : Int) ∧ r.2.1 = b + r.1.text.size ∧ s.extract b r.2.1 = r.1.text ∧ (r.1.k = 0 → r.2.1 = s.size) := by
    intro k n nd j hj hk h
    subst h
    dsimp only at hpr ⊢
    refine ⟨rfl, ?_, rfl, fun h => absurd h hk⟩
    rw [ext_size2 s b j hpr]; omega
  split at hr
  · rename_i hc
    subst hr
    have hb : b = s.size := by rw [List.getElem?_eq_none_iff] at hc; omega
    refine ⟨rfl, rfl, ?_, fun _ => hb⟩
    apply ba_ext
    rw [ext_list, Nat.sub_self]; rfl
  · rename_i c hc
    split at hr
    · unfold globS at hr
      dsimp only at hr
      split at hr
      · subst hr; simp at he
      · split at hr
        · subst hr; simp at he
        · split at hr
          · subst hr; simp at he
          · have z1 := span_le (p := dig) (l := s.data.toList) (i := b + 1)
            have z2 := span_le (p := dig) (l := s.data.toList) (i := spanL dig s.data.toList (b + 1) + 1)
            exact key 4 _ _ _ (by omega) (by omega) hr
    · split at hr
      · split at hr
        · exact key 3 _ _ _ (by omega) (by omega) hr
        · subst hr; simp at he
      · split at hr
        · split at hr
          · subst hr; simp at he
          · exact key 2 _ _ _ (by omega) (by omega) hr
        · split at hr
          · split at hr
            · subst hr; simp at he
            · exact key 1 _ _ _ (by omega) (by omega) hr
          · unfold sgnS at hr
            split at hr
            · rename_i t ht
              subst hr
              exact ⟨rfl, rfl, preB_eq (List.find?_some ht), fun h => by cases h⟩
            · subst hr; simp at he
theorem lx_inv {s : ByteArray} {a : Nat} {ts : List Tk} {e p : Nat} (h : Lx s a ts e p) (he : e = 0) : (nextN s a).2.2 = 0 ∧ (((nextN s a).1.k = 0 ∧ ts = [(nextN s a).1]) ∨ ((nextN s a).1.k ≠ 0 ∧ ∃ ts', ts = (nextN s a).1 :: ts' ∧ Lx s (nextN s a).2.1 ts' e p)) := by
  cases h with
  | @bad _ r h he' => exact absurd he he'
  | @stop _ r h he' hk => rw [h]; exact ⟨he', .inl ⟨hk, rfl⟩⟩
  | @go _ r ts' _ _ h he' hk ht => rw [h]; exact ⟨he', .inr ⟨hk, ts', rfl, ht⟩⟩
end Tree.X02
