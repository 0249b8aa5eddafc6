/- Layer 2: the next token in another text that is alike up to its end; tokens farther on. -/
import Derived.Test.YtkbpkiebcghghaaDoorL2O
set_option autoImplicit false
set_option linter.unusedVariables false
set_option linter.unusedSimpArgs false
namespace Tree.X02
open Go
set_option maxHeartbeats 2000000
set_option maxRecDepth 100000
section
variable {s s' : ByteArray} {b : Nat} (h : s.data.toList.take b = s'.data.toList.take b) (hb : ∀ c, s'.data.toList[b]? = some c → c = 32)
include h hb
theorem next_local (a : Nat) (hab : a ≤ b) (hbs : b ≤ s.size) (he : (nextN s a).2.2 = 0) (hk : (nextN s a).1.k ≠ 0) (hn : (nextN s a).2.1 ≤ b) : nextN s' a = nextN s a := by
  have hgt := next_gt s a (by omega) he hk
  have hx := skip_local h b a (by omega) hab (by omega)
  obtain ⟨r, hr⟩ : ∃ r, r = nextN s a := ⟨_, rfl⟩
  rw [← hr] at he hk hn hgt ⊢
  unfold nextN at hr ⊢
  dsimp only at hr ⊢
  rw [hx]
  generalize skipL s.data.toList a = x at hr hgt ⊢
  have hxb : x < b := by omega
  have q3 := span_le (p := dig) (l := s.data.toList) (i := x)
  have q4 := span_le (p := wrd) (l := s.data.toList) (i := x)
  have hd32 : ∀ c, s'.data.toList[b]? = some c → dig c = false := fun c hc => by rw [hb c hc]; rfl
  have hw32 : ∀ c, s'.data.toList[b]? = some c → wrd c = false := fun c hc => by rw [hb c hc]; rfl
  rw [agree_get h hxb]
  split at hr
  · subst hr; exact absurd rfl hk
  · rename_i c hc
    split at hr
    · rename_i c1
      rw [if_pos c1]
      subst hr
      exact glob_local h hb x he hn hxb
    · rename_i c1
      rw [if_neg c1]
      split at hr
      · rename_i c2
        rw [if_pos c2]
        split at hr
        · rename_i c3
          subst hr
          dsimp only at hn
          have e1 := span_local h b x (by omega) (by omega) (p := dig) hn (fun _ => hd32)
          have d1 : digs s'.data.toList x = digs s.data.toList x := by
            rw [digs_part, digs_part, e1]; exact part_local h hn
          rw [e1, d1, if_pos c3, ext_local h hn]
        · subst hr; exact absurd rfl hk
      · rename_i c2
        rw [if_neg c2]
        split at hr
        · rename_i c3
          rw [if_pos c3]
          split at hr
          · subst hr; exact absurd rfl hk
          · rename_i c4
            subst hr
            dsimp only at hn
            have e1 := span_local h b x (by omega) (by omega) (p := wrd) hn (fun _ => hw32)
            rw [e1, if_neg c4, ext_local h hn]
        · rename_i c3
          rw [if_neg c3]
          split at hr
          · rename_i c5
            rw [if_pos c5]
            split at hr
            · subst hr; exact absurd rfl hk
            · rename_i c4
              subst hr
              dsimp only at hn
              have e1 := span_local h b x (by omega) (by omega) (p := wrd) hn (fun _ => hw32)
              rw [e1, if_neg c4, ext_local h hn]
          · rename_i c5
            rw [if_neg c5]
            unfold sgnS at hr ⊢
            split at hr
            · rename_i t ht
              subst hr
              dsimp only at hn
              have hf : sgL.find? (preB s' x) = some t := by
                rw [List.find?_eq_some_iff_getElem] at ht ⊢
                obtain ⟨p1, i, hi, p2, p3⟩ := ht
                have hm : t ∈ sgL := by rw [← p2]; exact List.getElem_mem hi
                refine ⟨(pre_local h hb x hxb hbs t hm).2 p1 hn, i, hi, p2, fun j hj => ?_⟩
                have hjm : sgL[j] ∈ sgL := List.getElem_mem _
                have := p3 j hj
                cases hq : preB s' x sgL[j] with
                | false => rfl
                | true => rw [(pre_local h hb x hxb hbs _ hjm).1 hq] at this; exact this
              rw [hf]
            · subst hr; exact absurd rfl hk
end
end Tree.X02
