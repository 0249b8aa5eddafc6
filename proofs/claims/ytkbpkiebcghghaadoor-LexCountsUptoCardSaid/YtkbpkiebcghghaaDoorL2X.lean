/- purlinlaw02.LexBlanks: what E answers. -/
import Derived.Test.YtkbpkiebcghghaaDoorL2V
set_option autoImplicit false
set_option linter.unusedVariables false
set_option linter.unusedSimpArgs false
namespace Tree.X02
open Go
set_option maxHeartbeats 8000000
set_option maxRecDepth 100000
theorem app_list (a b : ByteArray) : (a ++ b).data.toList = a.data.toList ++ b.data.toList := by
  rw [ByteArray.data_append, Array.toList_append]
theorem app_size (a b : ByteArray) : (a ++ b).size = a.size + b.size := by
  rw [← len_eq, app_list, List.length_append, len_eq, len_eq]
theorem row_cs {kk : IntKind} {ts : List Tk} {i : Nat} {t : Tk} (h : ts[i]? = some t) : (ts.map (Tk.cells kk))[((i : Nat) : Int).toNat]? = some [.int kk t.k, .str t.text, .int .i64 t.n, .int .i64 t.node, .int .i64 t.at_] := row_tk h
