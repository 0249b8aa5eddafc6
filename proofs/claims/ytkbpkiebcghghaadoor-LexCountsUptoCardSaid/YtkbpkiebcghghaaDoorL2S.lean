/- Layer 2: all tokens farther on; more blanks and a remark. -/
import Derived.Test.YtkbpkiebcghghaaDoorL2R
set_option autoImplicit false
set_option linter.unusedVariables false
set_option linter.unusedSimpArgs false
namespace Tree.X02
open Go
set_option maxHeartbeats 2000000
set_option maxRecDepth 100000
section
variable {s s' : ByteArray} {b D : Nat} (h : s'.data.toList.drop (b + D) = s.data.toList.drop b) (hb : b ≤ s.size) (hb' : b + D ≤ s'.size)
include h hb hb'
/-- The token at the place where it begins. -/
theorem next_shift {x y : Nat} (hy : b ≤ skipL s.data.toList x) (hyx : skipL s'.data.toList y = skipL s.data.toList x + D) (he : (nextN s x).2.2 = 0) : nextN s' y = (shT D (nextN s x).1, (nextN s x).2.1 + D, 0) := by
  obtain ⟨r, hr⟩ : ∃ r, r = nextN s x := ⟨_, rfl⟩
  rw [← hr] at he ⊢
  unfold nextN at hr ⊢
  dsimp only at hr ⊢
  rw [hyx]
  generalize skipL s.data.toList x = z at hr hy ⊢
  rw [get_shift h hy, span_shift h dig hy, span_shift h wrd hy, digs_shift h hy, ext_shift h hy, ext_shift h hy]
  have e1 : spanL wrd s.data.toList z + D - (z + D) = spanL wrd s.data.toList z - z := by omega
  rw [e1]
  split at hr
  · subst hr; simp [shT]
  · rename_i c hc
    split at hr
    · rename_i c1
      rw [if_pos c1]
      subst hr
      exact glob_shift h hy he
    · rename_i c1
      rw [if_neg c1]
      split at hr
      · rename_i c2
        rw [if_pos c2]
        split at hr
        · rename_i c3
          rw [if_pos c3]; subst hr; simp [shT]
        · subst hr; simp at he
      · rename_i c2
        rw [if_neg c2]
        split at hr
        · rename_i c3
          rw [if_pos c3]
          split at hr
          · subst hr; simp at he
          · rename_i c4
            rw [if_neg c4]; subst hr; simp [shT]
        · rename_i c3
          rw [if_neg c3]
          split at hr
          · rename_i c5
            rw [if_pos c5]
            split at hr
            · subst hr; simp at he
            · rename_i c4
              rw [if_neg c4]; subst hr; simp [shT]
          · rename_i c5
            rw [if_neg c5]
            unfold sgnS at hr ⊢
            have ef : sgL.find? (preB s' (z + D)) = sgL.find? (preB s z) := by
              congr 1; funext t; exact pre_shift h hb hb' hy t
            rw [ef]
            split at hr
            · rename_i t ht
              subst hr; simp [shT]; omega
            · subst hr; simp at he
end
end Tree.X02
