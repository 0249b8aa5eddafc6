/- Layer 2: blanks and a remark more are skipped. -/
import Derived.Test.YtkbpkiebcghghaaDoorL2S
set_option autoImplicit false
set_option linter.unusedVariables false
set_option linter.unusedSimpArgs false
namespace Tree.X02
open Go
set_option maxHeartbeats 2000000
set_option maxRecDepth 100000
theorem skip_app : ∀ (m : List UInt8) (q : Bool) (Y : List UInt8), skipS q m = m.length → ∃ q', skipS q (m ++ Y) = m.length + skipS q' Y
  | [], q, Y, _ => ⟨q, by simp⟩
  | c :: r, q, Y, h => by
    cases q
    · by_cases hb : blk c = true
      · rw [skipS, if_pos hb, List.length_cons] at h
        obtain ⟨q', hq⟩ := skip_app r false Y (by omega)
        exact ⟨q', by rw [List.cons_append, skipS, if_pos hb, hq, List.length_cons]; omega⟩
      · by_cases h37 : c.toNat = 37
        · rw [skipS, if_neg hb, if_pos h37, List.length_cons] at h
          obtain ⟨q', hq⟩ := skip_app r true Y (by omega)
          exact ⟨q', by rw [List.cons_append, skipS, if_neg hb, if_pos h37, hq, List.length_cons]; omega⟩
        · rw [skipS, if_neg hb, if_neg h37, List.length_cons] at h; omega
    · by_cases hb : lne c = true
      · rw [skipS, if_pos hb, List.length_cons] at h
        obtain ⟨q', hq⟩ := skip_app r true Y (by omega)
        exact ⟨q', by rw [List.cons_append, skipS, if_pos hb, hq, List.length_cons]; omega⟩
      · rw [skipS, if_neg hb, List.length_cons] at h
        obtain ⟨q', hq⟩ := skip_app r false Y (by omega)
        exact ⟨q', by rw [List.cons_append, skipS, if_neg hb, hq, List.length_cons]; omega⟩
theorem skip_line : ∀ (r Y : List UInt8), (∀ c ∈ r, lne c = true) → skipS true (r ++ 10 :: 9 :: Y) = r.length + 2 + skipS false Y
  | [], Y, _ => by
    have h1 : lne 10 = false := by decide
    have h2 : blk 9 = true := by decide
    rw [List.nil_append, skipS, if_neg (by rw [h1]; simp), skipS, if_pos h2]
    simp; omega
  | c :: r, Y, h => by
    rw [List.cons_append, skipS, if_pos (h c (List.mem_cons_self ..)), skip_line r Y (fun d hd => h d (List.mem_cons_of_mem _ hd)), List.length_cons]; omega
/-- " %", a remark, a new line, a tab. -/
def moreL (r : List UInt8) : List UInt8 := 32 :: 37 :: (r ++ [10, 9])
theorem skip_more (r Y : List UInt8) (hr : ∀ c ∈ r, lne c = true) (q : Bool) : skipS q (moreL r ++ Y) = (moreL r).length + skipS false Y := by
  have h1 : lne 32 = true := by decide
  have h2 : lne 37 = true := by decide
  have h3 : blk 32 = true := by decide
  have h4 : ¬ blk 37 = true := by decide
  have h5 : (37 : UInt8).toNat = 37 := rfl
  have e : moreL r ++ Y = 32 :: 37 :: (r ++ 10 :: 9 :: Y) := by simp [moreL]
  have el : (moreL r).length = r.length + 4 := by simp [moreL]
  rw [e, el]
  cases q
  · rw [skipS, if_pos h3, skipS, if_neg h4, if_pos h5, skip_line r Y hr]; omega
  · rw [skipS, if_pos h1, skipS, if_pos h2, skip_line r Y hr]; omega
end Tree.X02
