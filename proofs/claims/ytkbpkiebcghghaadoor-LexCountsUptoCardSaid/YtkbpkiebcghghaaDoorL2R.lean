/- Layer 2: tokens farther on. -/
import Derived.Test.YtkbpkiebcghghaaDoorL2Q
set_option autoImplicit false
set_option linter.unusedVariables false
set_option linter.unusedSimpArgs false
namespace Tree.X02
open Go
set_option maxHeartbeats 2000000
set_option maxRecDepth 100000
def shT (D : Nat) (t : Tk) : Tk := { t with at_ := t.at_ + D }
section
variable {s s' : ByteArray} {b D : Nat} (h : s'.data.toList.drop (b + D) = s.data.toList.drop b)
include h
theorem drop_shift {x : Nat} (hx : b ≤ x) : s'.data.toList.drop (x + D) = s.data.toList.drop x := by
  have e1 : x + D = (b + D) + (x - b) := by omega
  have e2 : x = b + (x - b) := by omega
  rw [e1, ← List.drop_drop, h, List.drop_drop, ← e2]
theorem get_shift {x : Nat} (hx : b ≤ x) : s'.data.toList[x + D]? = s.data.toList[x]? := by
  have := congrArg (fun m : List UInt8 => m[0]?) (drop_shift h hx)
  simpa [List.getElem?_drop] using this
theorem span_shift (p : UInt8 → Bool) {x : Nat} (hx : b ≤ x) : spanL p s'.data.toList (x + D) = spanL p s.data.toList x + D := by
  unfold spanL; rw [drop_shift h hx]; omega
theorem digs_shift {x : Nat} (hx : b ≤ x) : digs s'.data.toList (x + D) = digs s.data.toList x := by
  unfold digs; rw [drop_shift h hx]
theorem ext_shift {x : Nat} (hx : b ≤ x) (y : Nat) : s'.extract (x + D) (y + D) = s.extract x y := by
  apply ba_ext
  rw [ext_list, ext_list, drop_shift h hx]
  congr 1; omega
theorem size_shift (hb : b ≤ s.size) (hb' : b + D ≤ s'.size) : s'.size = s.size + D := by
  have := congrArg List.length h
  rw [List.length_drop, List.length_drop, len_eq, len_eq] at this; omega
theorem pre_shift (hb : b ≤ s.size) (hb' : b + D ≤ s'.size) {x : Nat} (hx : b ≤ x) (t : ByteArray) : preB s' (x + D) t = preB s x t := by
  have hs := size_shift h hb hb'
  unfold preB
  have e : x + D + t.size = (x + t.size) + D := by omega
  rw [e, ext_shift h hx, hs]
  congr 1
  by_cases hq : x + t.size ≤ s.size
  · rw [decide_eq_true hq, decide_eq_true (by omega)]
  · rw [decide_eq_false hq, decide_eq_false (by omega)]
theorem glob_shift {x : Nat} (hx : b ≤ x) (he : (globS s x).2.2 = 0) : globS s' (x + D) = (shT D (globS s x).1, (globS s x).2.1 + D, 0) := by
  obtain ⟨r, hr⟩ : ∃ r, r = globS s x := ⟨_, rfl⟩
  rw [← hr] at he ⊢
  unfold globS at hr ⊢
  dsimp only at hr ⊢
  have z1 := span_le (p := dig) (l := s.data.toList) (i := x + 1)
  have e0 : x + D + 1 = (x + 1) + D := by omega
  rw [e0, span_shift h dig (by omega)]
  have e1 : spanL dig s.data.toList (x + 1) + D + 1 = (spanL dig s.data.toList (x + 1) + 1) + D := by omega
  rw [e1, span_shift h dig (by omega), digs_shift h (by omega), digs_shift h (by omega), get_shift h (by omega), ext_shift h hx]
  split at hr
  · subst hr; simp at he
  · rename_i c1
    rw [if_neg (by intro hc; apply c1; rcases hc with hc | hc; exact .inl (by omega); exact .inr hc)]
    split at hr
    · subst hr; simp at he
    · rename_i c2
      rw [if_neg (by omega)]
      split at hr
      · subst hr; simp at he
      · rename_i c3
        rw [if_neg c3]
        subst hr
        simp [shT]
end
end Tree.X02
