/- Layer 2: blanks and a remark more ahead of a token change places alone. -/
import Derived.Test.YtkbpkiebcghghaaDoorL2U
set_option autoImplicit false
set_option linter.unusedVariables false
set_option linter.unusedSimpArgs false
namespace Tree.X02
open Go
set_option maxHeartbeats 2000000
set_option maxRecDepth 100000
theorem skip_idem : ∀ (m : List UInt8) (q : Bool), skipS false (m.drop (skipS q m)) = 0
  | [], q => by cases q <;> rfl
  | c :: r, q => by
    cases q
    · by_cases hb : blk c = true
      · have e : skipS false (c :: r) = skipS false r + 1 := by rw [skipS, if_pos hb]
        rw [e, List.drop_succ_cons]; exact skip_idem r false
      · by_cases h37 : c.toNat = 37
        · have e : skipS false (c :: r) = skipS true r + 1 := by rw [skipS, if_neg hb, if_pos h37]
          rw [e, List.drop_succ_cons]; exact skip_idem r true
        · have e : skipS false (c :: r) = 0 := by rw [skipS, if_neg hb, if_neg h37]
          rw [e, List.drop_zero, e]
    · by_cases hb : lne c = true
      · have e : skipS true (c :: r) = skipS true r + 1 := by rw [skipS, if_pos hb]
        rw [e, List.drop_succ_cons]; exact skip_idem r true
      · have e : skipS true (c :: r) = skipS false r + 1 := by rw [skipS, if_neg hb]
        rw [e, List.drop_succ_cons]; exact skip_idem r false
section
variable {s s' : ByteArray} {b : Nat} {r : List UInt8} (hl : s'.data.toList = s.data.toList.take b ++ (moreL r ++ s.data.toList.drop b)) (hr : ∀ c ∈ r, lne c = true) (hb : b ≤ s.size)
include hl hr hb
end
end Tree.X02
