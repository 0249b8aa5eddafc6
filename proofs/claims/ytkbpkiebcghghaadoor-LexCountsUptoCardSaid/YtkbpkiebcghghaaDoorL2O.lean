/- Layer 2: a token in another text that is alike up to its end. -/
import Derived.Test.YtkbpkiebcghghaaDoorL2N
set_option autoImplicit false
set_option linter.unusedVariables false
set_option linter.unusedSimpArgs false
namespace Tree.X02
open Go
set_option maxHeartbeats 2000000
set_option maxRecDepth 100000
theorem next_gt (s : ByteArray) (a : Nat) (ha : a ≤ s.size) (he : (nextN s a).2.2 = 0) (hk : (nextN s a).1.k ≠ 0) : skipL s.data.toList a < (nextN s a).2.1 := by
  obtain ⟨r, hr⟩ : ∃ r, r = nextN s a := ⟨_, rfl⟩
  rw [← hr] at he hk ⊢
  unfold nextN at hr
  dsimp only at hr
  generalize skipL s.data.toList a = b at hr ⊢
  have hstep : ∀ (p : UInt8 → Bool) c, s.data.toList[b]? = some c → p c = true → b < spanL p s.data.toList b := fun p c hc hd => by
    rw [span_step hc hd]; have := span_le (p := p) (l := s.data.toList) (i := b + 1); omega
  split at hr
  · subst hr; exact absurd rfl hk
  · rename_i c hc
    split at hr
    · unfold globS at hr
      dsimp only at hr
      have z1 := span_le (p := dig) (l := s.data.toList) (i := b + 1)
      have z2 := span_le (p := dig) (l := s.data.toList) (i := spanL dig s.data.toList (b + 1) + 1)
      (repeat' split at hr) <;> subst hr <;> first | exact absurd rfl hk | (dsimp only; omega)
    · split at hr
      · rename_i hd
        have := hstep dig c hc hd
        split at hr <;> subst hr <;> first | exact absurd rfl hk | (dsimp only; omega)
      · split at hr
        · rename_i hd
          have := hstep wrd c hc (by unfold wrd; rw [hd]; simp)
          split at hr <;> subst hr <;> first | exact absurd rfl hk | (dsimp only; omega)
        · split at hr
          · rename_i hd
            have := hstep wrd c hc (by unfold wrd; rw [hd]; simp)
            split at hr <;> subst hr <;> first | exact absurd rfl hk | (dsimp only; omega)
          · unfold sgnS at hr
            split at hr
            · rename_i t ht
              subst hr
              have h2 := sg_small t (List.mem_of_find?_eq_some ht)
              dsimp only; omega
            · subst hr; exact absurd rfl hk
section
variable {s s' : ByteArray} {b : Nat} (h : s.data.toList.take b = s'.data.toList.take b) (hb : ∀ c, s'.data.toList[b]? = some c → c = 32)
include h hb
theorem glob_local (x : Nat) (he : (globS s x).2.2 = 0) (hn : (globS s x).2.1 ≤ b) (hx : x < b) : globS s' x = globS s x := by
  obtain ⟨r, hr⟩ : ∃ r, r = globS s x := ⟨_, rfl⟩
  rw [← hr] at he hn ⊢
  unfold globS at hr ⊢
  dsimp only at hr ⊢
  have z1 := span_le (p := dig) (l := s.data.toList) (i := x + 1)
  have z2 := span_le (p := dig) (l := s.data.toList) (i := spanL dig s.data.toList (x + 1) + 1)
  split at hr
  · subst hr; simp at he
  · rename_i c1
    split at hr
    · subst hr; simp at he
    · rename_i c2
      split at hr
      · subst hr; simp at he
      · rename_i c3
        subst hr
        dsimp only at hn
        have h32 : ∀ c, s'.data.toList[b]? = some c → dig c = false := fun c hc => by rw [hb c hc]; rfl
        have e1 := span_local h b (x + 1) (by omega) (by omega) (p := dig) (by omega) (fun _ => h32)
        have e2 := span_local h b (spanL dig s.data.toList (x + 1) + 1) (by omega) (by omega) (p := dig) (by omega) (fun _ => h32)
        have d1 : digs s'.data.toList (x + 1) = digs s.data.toList (x + 1) := by
          rw [digs_part, digs_part, e1]; exact part_local h (by omega)
        have d2 : digs s'.data.toList (spanL dig s.data.toList (x + 1) + 1) = digs s.data.toList (spanL dig s.data.toList (x + 1) + 1) := by
          rw [digs_part, digs_part, e2]; exact part_local h (by omega)
        rw [e1, e2, d1, d2, agree_get h (by omega), if_neg c1, if_neg c2, if_neg c3, ext_local h hn]
theorem pre_local (x : Nat) (hx : x < b) (hbs : b ≤ s.size) (u : ByteArray) (hu : u ∈ sgL) : (preB s' x u = true → preB s x u = true) ∧ (preB s x u = true → x + u.size ≤ b → preB s' x u = true) := by
  have hl' : b ≤ s'.size := by
    have h1 := congrArg List.length h
    rw [List.length_take, List.length_take, len_eq, len_eq] at h1; omega
  constructor
  · intro hp
    have h1 := pre_le hp
    have h2 := preB_eq hp
    by_cases hub : x + u.size ≤ b
    · unfold preB at hp ⊢
      rw [ext_local h hub] at hp
      rw [decide_eq_true (by omega)] at hp ⊢
      exact hp
    · exfalso
      have h3 : u.data.toList[b - x]? = some 32 := by
        rw [← h2, ext_list, List.getElem?_take, if_pos (by omega), List.getElem?_drop]
        have hlt : b < s'.data.toList.length := by rw [len_eq]; omega
        rw [show x + (b - x) = b by omega, List.getElem?_eq_getElem hlt, hb _ (List.getElem?_eq_getElem hlt)]
      have : ∀ t ∈ sgL, (32 : UInt8) ∉ t.data.toList := by decide
      exact this u hu (List.mem_of_getElem? h3)
  · intro hp hub
    unfold preB at hp ⊢
    rw [ext_local h hub]
    rw [decide_eq_true (by omega)] at hp ⊢
    exact hp
end
end Tree.X02
