/- Layer 1: IsName, what E answers. -/
import Derived.Test.YtjbdicceeocgeaaL1Env
import Derived.Laws.Strings
set_option autoImplicit false
set_option linter.unusedVariables false
set_option linter.unusedSimpArgs false
namespace Tree
open Go
set_option maxHeartbeats 4000000
set_option maxRecDepth 100000
def S1 (s : ByteArray) (ob : Obs) (x : Int) : WSt := ⟨.val (.str s) :: (List.replicate 6 (.val .undef)) ++ .val (.int .i64 s.size) :: .val (.int .i64 x) :: List.replicate 45 (.val .undef), ob, []⟩
theorem strList (s : ByteArray) : s.toList = s.data.toList := by
  exact Go.ByteArray.toList_eq s
end Tree

set_option autoImplicit false
set_option linter.unusedVariables false
set_option linter.unusedSimpArgs false
namespace Tree
open Go
set_option maxHeartbeats 4000000
set_option maxRecDepth 100000
structure C where
  k : Int
  text : ByteArray
  n : Int
  node : Int
  num : Int
def C.row (c : C) : List LV := [.int .u8 c.k, .str c.text, .int .i64 c.n, .int .i64 c.node, .int .i64 c.num]
def C.lv (c : C) : LV := .agg c.row
theorem idx_row {cs : List C} {i : Nat} {c : C} (h : cs[i]? = some c) : (cs.map C.row)[i]? = some [.int .u8 c.k, .str c.text, .int .i64 c.n, .int .i64 c.node, .int .i64 c.num] := by
  rw [List.getElem?_map, h]; rfl
end Tree

set_option autoImplicit false
set_option linter.unusedVariables false
set_option linter.unusedSimpArgs false
namespace Tree
open Go
set_option maxHeartbeats 4000000
set_option maxRecDepth 100000
theorem bool_of {a r : Bool} {P : Prop} (hr : r = true ↔ P) (h : a = true ↔ P) : LV.bool a = LV.bool r := by
  congr 1; rw [Bool.eq_iff_iff, h, hr]
theorem bytes_eq {a b : ByteArray} : a.toList = b.toList ↔ a = b := by
  rw [strList, strList]
  constructor
  · intro h; obtain ⟨⟨l⟩⟩ := a; obtain ⟨⟨m⟩⟩ := b; simp at h; subst h; rfl
  · intro h; rw [h]
theorem C.ext_iff' {c d : C} : c = d ↔ c.k = d.k ∧ c.text = d.text ∧ c.n = d.n ∧ c.node = d.node ∧ c.num = d.num := by
  cases c; cases d; simp
theorem boolOf (P : Prop) : ∃ r : Bool, r = true ↔ P := ⟨@decide P (Classical.propDecidable _), @decide_eq_true_iff _ (Classical.propDecidable _)⟩
end Tree

set_option autoImplicit false
set_option linter.unusedVariables false
set_option linter.unusedSimpArgs false
namespace Tree
open Go
set_option maxHeartbeats 4000000
set_option maxRecDepth 100000
end Tree

set_option autoImplicit false
set_option linter.unusedVariables false
set_option linter.unusedSimpArgs false
namespace Tree
open Go
set_option maxHeartbeats 4000000
set_option maxRecDepth 100000
def C.fine (c : C) : Prop := c.text.size ≤ maxLen ∧ 0 ≤ c.k ∧ c.k ≤ 255
end Tree

set_option autoImplicit false
set_option linter.unusedVariables false
set_option linter.unusedSimpArgs false
namespace Tree
open Go
set_option maxHeartbeats 4000000
set_option maxRecDepth 100000
end Tree

set_option autoImplicit false
set_option linter.unusedVariables false
set_option linter.unusedSimpArgs false
namespace Tree
open Go
set_option maxHeartbeats 4000000
set_option maxRecDepth 100000
end Tree
