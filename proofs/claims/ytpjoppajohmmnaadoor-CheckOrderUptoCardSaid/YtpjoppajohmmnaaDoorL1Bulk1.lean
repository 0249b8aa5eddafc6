/- The bulk of terms bounds their cells. -/
import Derived.Test.YtpjoppajohmmnaaDoorTF
import Derived.Test.YtpjoppajohmmnaaDoorL1Rows
set_option autoImplicit false
set_option linter.unusedVariables false
namespace Tree
open Go
theorem bulk_cells : ∀ cs : List C, cs.length ≤ LV.bulkss (cs.map C.row)
  | [] => by simp [LV.bulkss]
  | c :: cs => by
    have := bulk_cells cs
    simp only [List.map_cons, LV.bulkss, List.length_cons]
    have h : 1 ≤ LV.bulks c.row := by simp [C.row, LV.bulks, LV.bulk]
    omega
theorem bulk5 (o : Bool) (l : Nat) (cs : List C) (sp : List (List LV)) : cs.length + 1 ≤ (sl5 o l cs sp).bulk := by
  have := bulk_cells cs
  show _ ≤ LV.bulk (.sl o l 5 (cs.map C.row) sp)
  rw [LV.bulk]; omega
theorem bulk_terms : ∀ ts : List T1, ts.length + (ts.flatMap T1.cs).length ≤ LV.bulkss (ts.map T1.row)
  | [] => by simp [LV.bulkss]
  | t :: ts => by
    have := bulk_terms ts
    have h := bulk5 false t.lab t.cs t.sp
    simp only [List.map_cons, LV.bulkss, List.length_cons, List.flatMap_cons, List.length_append]
    have e : LV.bulks t.row = (sl5 false t.lab t.cs t.sp).bulk := by
      show LV.bulks [_] = _
      rw [LV.bulks, LV.bulks]; rfl
    rw [e]; omega
theorem bulk1 (o : Bool) (l : Nat) (ts : List T1) (sp : List (List LV)) : ts.length + (ts.flatMap T1.cs).length ≤ (sl1 o l ts sp).bulk := by
  have := bulk_terms ts
  show _ ≤ LV.bulk (.sl o l 1 (ts.map T1.row) sp)
  rw [LV.bulk]; omega
theorem mem_flat {t : T1} : ∀ {ts : List T1}, t ∈ ts → t.cs.length ≤ (ts.flatMap T1.cs).length
  | u :: ts, h => by
    rw [List.flatMap_cons, List.length_append]
    rcases List.mem_cons.1 h with rfl | h
    · omega
    · have := mem_flat h; omega
end Tree
