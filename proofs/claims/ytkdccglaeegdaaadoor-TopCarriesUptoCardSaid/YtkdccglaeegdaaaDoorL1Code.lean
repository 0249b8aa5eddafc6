/- The E-code of layer 1's functions. -/
import Derived.Test.YtkdccglaeegdaaaDoorTE
set_option autoImplicit false
namespace Tree
open Go
/-- purlin/term.IsName -/
def tf1 : TFn := { ntmps := 54, results := [.tmp 2], body :=
 (.seq
 (.region false [
 ⟨some 2, .assign (.const (.bool false)), none⟩])
 (.seq
 (.seq
 (.region false [
 ⟨some 6, .move (.tmp 0), none⟩,
 ⟨some 7, .len true (.tmp 6), none⟩,
 ⟨some 8, .move (.const (.int .i64 0)), none⟩])
 (.block 0
 (.loop [0, 7, 8]
 (.seq
 (.region false [
 ⟨some 9, .bin 0 .lss (.tmp 8) (.tmp 7), none⟩])
 (.seq
 (.cond (.tmp 9)
 .skip
 (.exit 0))
 (.seq
 (.block 1
 (.seq
 (.region false [
 ⟨some 10, .move (.tmp 8), none⟩,
 ⟨some 3, .assign (.tmp 10), none⟩])
 (.seq
 (.region false [
 ⟨some 11, .move (.tmp 0), none⟩,
 ⟨some 12, .move (.tmp 3), none⟩,
 ⟨some 13, .idxStr (.tmp 11) (.tmp 12), none⟩,
 ⟨some 4, .assign (.tmp 13), none⟩])
 (.seq
 (.region false [
 ⟨some 14, .move (.tmp 4), none⟩,
 ⟨some 15, .bin 0 .geq (.tmp 14) (.const (.int .u8 97)), none⟩,
 ⟨some 16, .move (.tmp 15), none⟩,
 ⟨some 17, .move (.tmp 4), (some (16, true))⟩,
 ⟨some 18, .bin 0 .leq (.tmp 17) (.const (.int .u8 122)), (some (16, true))⟩,
 ⟨some 19, .pick (.tmp 16) (.tmp 18) (.const (.bool false)), none⟩,
 ⟨some 5, .assign (.tmp 19), none⟩])
 (.seq
 (.region false [
 ⟨some 20, .move (.tmp 5), none⟩,
 ⟨some 21, .un .not (.tmp 20), none⟩,
 ⟨some 22, .move (.tmp 21), none⟩,
 ⟨some 23, .move (.tmp 3), (some (22, true))⟩,
 ⟨some 24, .bin 0 .eql (.tmp 23) (.const (.int .i64 0)), (some (22, true))⟩,
 ⟨some 25, .move (.tmp 24), (some (22, true))⟩,
 ⟨some 26, .move (.tmp 4), (some (25, false))⟩,
 ⟨some 27, .bin 0 .lss (.tmp 26) (.const (.int .u8 65)), (some (25, false))⟩,
 ⟨some 28, .move (.tmp 27), (some (25, false))⟩,
 ⟨some 29, .move (.tmp 4), (some (28, false))⟩,
 ⟨some 30, .bin 0 .gtr (.tmp 29) (.const (.int .u8 90)), (some (28, false))⟩,
 ⟨some 31, .pick (.tmp 28) (.const (.bool true)) (.tmp 30), (some (25, false))⟩,
 ⟨some 32, .move (.tmp 31), (some (25, false))⟩,
 ⟨some 33, .move (.tmp 4), (some (32, true))⟩,
 ⟨some 34, .bin 0 .lss (.tmp 33) (.const (.int .u8 48)), (some (32, true))⟩,
 ⟨some 35, .move (.tmp 34), (some (32, true))⟩,
 ⟨some 36, .move (.tmp 4), (some (35, false))⟩,
 ⟨some 37, .bin 0 .gtr (.tmp 36) (.const (.int .u8 57)), (some (35, false))⟩,
 ⟨some 38, .pick (.tmp 35) (.const (.bool true)) (.tmp 37), (some (32, true))⟩,
 ⟨some 39, .pick (.tmp 32) (.tmp 38) (.const (.bool false)), (some (25, false))⟩,
 ⟨some 40, .move (.tmp 39), (some (25, false))⟩,
 ⟨some 41, .move (.tmp 4), (some (40, true))⟩,
 ⟨some 42, .bin 0 .neq (.tmp 41) (.const (.int .u8 95)), (some (40, true))⟩,
 ⟨some 43, .pick (.tmp 40) (.tmp 42) (.const (.bool false)), (some (25, false))⟩,
 ⟨some 44, .pick (.tmp 25) (.const (.bool true)) (.tmp 43), (some (22, true))⟩,
 ⟨some 45, .pick (.tmp 22) (.tmp 44) (.const (.bool false)), none⟩])
 (.cond (.tmp 45)
 (.seq
 (.region false [
 ⟨some 2, .assign (.const (.bool false)), none⟩])
 .ret)
 .skip))))))
 (.region false [
 ⟨some 46, .bin 0 .add (.tmp 8) (.const (.int .i64 1)), none⟩,
 ⟨some 8, .move (.tmp 46), none⟩])))))))
 (.seq
 (.region false [
 ⟨some 47, .move (.tmp 0), none⟩,
 ⟨some 48, .bin 0 .neq (.tmp 47) (.const (.str ⟨#[]⟩)), none⟩,
 ⟨some 49, .move (.tmp 48), none⟩,
 ⟨some 50, .move (.tmp 0), (some (49, true))⟩,
 ⟨some 51, .len true (.tmp 50), (some (49, true))⟩,
 ⟨some 52, .bin 0 .leq (.tmp 51) (.const (.int .i64 16)), (some (49, true))⟩,
 ⟨some 53, .pick (.tmp 49) (.tmp 52) (.const (.bool false)), none⟩,
 ⟨some 2, .assign (.tmp 53), none⟩])
 .ret))) }
/-- purlin/term.Make -/
def tf7 : TFn := { ntmps := 32, results := [.tmp 4, .tmp 5], body :=
 (.seq
 (.region false [
 ⟨some 4, .assign (.const (.sl true 0 5 [] [])), none⟩,
 ⟨some 5, .assign (.const (.int .i64 0)), none⟩])
 (.seq
 (.region false [
 ⟨some 8, .move (.tmp 0), none⟩,
 ⟨some 9, .move (.tmp 1), none⟩,
 ⟨some 10, .len false (.tmp 9), none⟩,
 ⟨some 11, .build [.int .u8 0, .str ⟨#[]⟩, .int .i64 0, .int .i64 0, .int .i64 0] [(0, 1, (.const (.int .u8 3))), (1, 1, (.tmp 8)), (2, 1, (.tmp 10))], none⟩,
 ⟨some 6, .box 5 (.const (.agg [.int .u8 0, .str ⟨#[]⟩, .int .i64 0, .int .i64 0, .int .i64 0])), none⟩,
 ⟨none, .store 5 (.tmp 6) (.tmp 11), none⟩])
 (.seq
 (.seq
 (.region true [
 ⟨some 12, .faddr (.tmp 6) 0, none⟩,
 ⟨some 13, .load false 1 (.tmp 12), none⟩,
 ⟨some 14, .call true (.const (.fn 32 [])) [(.tmp 13)] [], none⟩,
 ⟨some 15, .field (.tmp 14) false 0 1, none⟩,
 ⟨some 16, .load true 5 (.tmp 6), none⟩,
 ⟨some 17, .call true (.tmp 15) [(.tmp 16)] [], none⟩,
 ⟨some 18, .un .not (.tmp 17), none⟩,
 ⟨some 19, .move (.tmp 18), none⟩,
 ⟨some 20, .move (.tmp 1), (some (19, false))⟩,
 ⟨some 21, .call true (.const (.fn 33 [])) [(.tmp 20), (.const (.fn 34 []))] [], (some (19, false))⟩,
 ⟨some 22, .pick (.tmp 19) (.const (.bool true)) (.tmp 21), none⟩])
 (.cond (.tmp 22)
 (.seq
 (.region false [
 ⟨some 4, .assign (.const (.sl true 0 5 [] [])), none⟩,
 ⟨some 5, .assign (.const (.int .i64 6)), none⟩])
 .ret)
 .skip))
 (.seq
 (.region true [
 ⟨some 23, .load true 5 (.tmp 6), none⟩,
 ⟨some 24, .buildSlice 1 5 [.int .u8 0, .str ⟨#[]⟩, .int .i64 0, .int .i64 0, .int .i64 0] [(0, (.tmp 23))], none⟩,
 ⟨some 25, .move (.tmp 1), none⟩,
 ⟨some 26, .call true (.const (.fn 35 [])) [(.tmp 25)] [], none⟩,
 ⟨some 27, .append 5 48 (.tmp 24) (.tmp 26), none⟩,
 ⟨some 7, .move (.tmp 27), none⟩])
 (.seq
 (.seq
 (.region false [
 ⟨some 28, .move (.tmp 7), none⟩,
 ⟨some 29, .len false (.tmp 28), none⟩,
 ⟨some 30, .bin 0 .gtr (.tmp 29) (.const (.int .i64 256)), none⟩])
 (.cond (.tmp 30)
 (.seq
 (.region false [
 ⟨some 4, .assign (.const (.sl true 0 5 [] [])), none⟩,
 ⟨some 5, .assign (.const (.int .i64 5)), none⟩])
 .ret)
 .skip))
 (.seq
 (.region false [
 ⟨some 31, .move (.tmp 7), none⟩,
 ⟨some 4, .assign (.tmp 31), none⟩,
 ⟨some 5, .assign (.const (.int .i64 0)), none⟩])
 .ret)))))) }
/-- purlin/term.OfInt -/
def tf9 : TFn := { ntmps := 6, results := [.tmp 2], body :=
 (.seq
 (.region false [
 ⟨some 2, .assign (.const (.sl true 0 5 [] [])), none⟩])
 (.seq
 (.region false [
 ⟨some 3, .move (.tmp 0), none⟩,
 ⟨some 4, .build [.int .u8 0, .str ⟨#[]⟩, .int .i64 0, .int .i64 0, .int .i64 0] [(0, 1, (.const (.int .u8 1))), (2, 1, (.tmp 3))], none⟩,
 ⟨some 5, .call true (.const (.fn 37 [])) [(.tmp 4)] [], none⟩,
 ⟨some 2, .assign (.tmp 5), none⟩])
 .ret)) }
/-- purlin/term.Global -/
def tf25 : TFn := { ntmps := 10, results := [.tmp 2], body :=
 (.seq
 (.region false [
 ⟨some 2, .assign (.const (.bool false)), none⟩])
 (.seq
 (.region false [
 ⟨some 3, .move (.tmp 0), none⟩,
 ⟨some 4, .call true (.const (.fn 30 [])) [(.tmp 3)] [], none⟩,
 ⟨some 5, .move (.tmp 4), none⟩,
 ⟨some 6, .move (.tmp 0), (some (5, true))⟩,
 ⟨some 7, .call true (.const (.fn 43 [])) [(.tmp 6), (.const (.fn 44 []))] [], (some (5, true))⟩,
 ⟨some 8, .un .not (.tmp 7), (some (5, true))⟩,
 ⟨some 9, .pick (.tmp 5) (.tmp 8) (.const (.bool false)), none⟩,
 ⟨some 2, .assign (.tmp 9), none⟩])
 .ret)) }
/-- purlin/term.Right -/
def tf30 : TFn := { ntmps := 21, results := [.tmp 2], body :=
 (.seq
 (.region false [
 ⟨some 2, .assign (.const (.bool false)), none⟩])
 (.seq
 (.seq
 (.region false [
 ⟨some 3, .move (.tmp 0), none⟩,
 ⟨some 4, .len false (.tmp 3), none⟩,
 ⟨some 5, .bin 0 .eql (.tmp 4) (.const (.int .i64 0)), none⟩,
 ⟨some 6, .move (.tmp 5), none⟩,
 ⟨some 7, .move (.tmp 0), (some (6, false))⟩,
 ⟨some 8, .len false (.tmp 7), (some (6, false))⟩,
 ⟨some 9, .bin 0 .gtr (.tmp 8) (.const (.int .i64 256)), (some (6, false))⟩,
 ⟨some 10, .pick (.tmp 6) (.const (.bool true)) (.tmp 9), none⟩,
 ⟨some 11, .move (.tmp 10), none⟩,
 ⟨some 12, .move (.tmp 0), (some (11, false))⟩,
 ⟨some 13, .call true (.const (.fn 31 [])) [(.tmp 12), (.const (.int .i64 0))] [], (some (11, false))⟩,
 ⟨some 14, .move (.tmp 0), (some (11, false))⟩,
 ⟨some 15, .len false (.tmp 14), (some (11, false))⟩,
 ⟨some 16, .bin 0 .neq (.tmp 13) (.tmp 15), (some (11, false))⟩,
 ⟨some 17, .pick (.tmp 11) (.const (.bool true)) (.tmp 16), none⟩])
 (.cond (.tmp 17)
 (.seq
 (.region false [
 ⟨some 2, .assign (.const (.bool false)), none⟩])
 .ret)
 .skip))
 (.seq
 (.region false [
 ⟨some 18, .move (.tmp 0), none⟩,
 ⟨some 19, .call true (.const (.fn 43 [])) [(.tmp 18), (.const (.fn 46 []))] [], none⟩,
 ⟨some 20, .un .not (.tmp 19), none⟩,
 ⟨some 2, .assign (.tmp 20), none⟩])
 .ret))) }
/-- purlin/term.End -/
def tf31 : TFn := { ntmps := 41, results := [.tmp 4], body :=
 (.seq
 (.region false [
 ⟨some 4, .assign (.const (.int .i64 0)), none⟩])
 (.seq
 (.seq
 (.region false [
 ⟨some 6, .move (.tmp 1), none⟩,
 ⟨some 7, .bin 0 .lss (.tmp 6) (.const (.int .i64 0)), none⟩,
 ⟨some 8, .move (.tmp 7), none⟩,
 ⟨some 9, .move (.tmp 1), (some (8, false))⟩,
 ⟨some 10, .move (.tmp 0), (some (8, false))⟩,
 ⟨some 11, .len false (.tmp 10), (some (8, false))⟩,
 ⟨some 12, .bin 0 .geq (.tmp 9) (.tmp 11), (some (8, false))⟩,
 ⟨some 13, .pick (.tmp 8) (.const (.bool true)) (.tmp 12), none⟩])
 (.cond (.tmp 13)
 (.seq
 (.region false [
 ⟨some 4, .assign (.const (.int .i64 0)), none⟩])
 .ret)
 .skip))
 (.seq
 (.seq
 (.region false [
 ⟨some 5, .assign (.const (.int .i64 1)), none⟩])
 (.block 0
 (.loop [0, 1, 5]
 (.seq
 (.seq
 (.region false [
 ⟨some 14, .move (.tmp 5), none⟩,
 ⟨some 15, .bin 0 .gtr (.tmp 14) (.const (.int .i64 0)), none⟩])
 (.cond (.tmp 15)
 .skip
 (.exit 0)))
 (.seq
 (.block 1
 (.seq
 (.seq
 (.region false [
 ⟨some 18, .move (.tmp 1), none⟩,
 ⟨some 19, .move (.tmp 0), none⟩,
 ⟨some 20, .len false (.tmp 19), none⟩,
 ⟨some 21, .bin 0 .eql (.tmp 18) (.tmp 20), none⟩,
 ⟨some 22, .move (.tmp 21), none⟩,
 ⟨some 23, .move (.tmp 0), (some (22, false))⟩,
 ⟨some 24, .move (.tmp 1), (some (22, false))⟩,
 ⟨some 25, .idxAddr (.tmp 23) (.tmp 24) 5, (some (22, false))⟩,
 ⟨some 26, .load true 5 (.tmp 25), (some (22, false))⟩,
 ⟨some 27, .call true (.const (.fn 47 [])) [(.tmp 26)] [], (some (22, false))⟩,
 ⟨some 28, .move (.tmp 0), (some (22, false))⟩,
 ⟨some 29, .len false (.tmp 28), (some (22, false))⟩,
 ⟨some 30, .bin 0 .gtr (.tmp 27) (.tmp 29), (some (22, false))⟩,
 ⟨some 31, .pick (.tmp 22) (.const (.bool true)) (.tmp 30), none⟩])
 (.cond (.tmp 31)
 (.seq
 (.region false [
 ⟨some 4, .assign (.const (.int .i64 0)), none⟩])
 .ret)
 .skip))
 (.region false [
 ⟨some 32, .move (.tmp 5), none⟩,
 ⟨some 33, .move (.tmp 0), none⟩,
 ⟨some 34, .move (.tmp 1), none⟩,
 ⟨some 35, .idxAddr (.tmp 33) (.tmp 34) 5, none⟩,
 ⟨some 36, .load true 5 (.tmp 35), none⟩,
 ⟨some 37, .call true (.const (.fn 47 [])) [(.tmp 36)] [], none⟩,
 ⟨some 38, .bin 0 .sub (.tmp 37) (.const (.int .i64 1)), none⟩,
 ⟨some 39, .bin 0 .add (.tmp 32) (.tmp 38), none⟩,
 ⟨some 5, .assign (.tmp 39), none⟩])))
 (.region false [
 ⟨some 16, .move (.tmp 1), none⟩,
 ⟨some 17, .bin 0 .add (.tmp 16) (.const (.int .i64 1)), none⟩,
 ⟨some 1, .assign (.tmp 17), none⟩]))))))
 (.seq
 (.region false [
 ⟨some 40, .move (.tmp 1), none⟩,
 ⟨some 4, .assign (.tmp 40), none⟩])
 .ret)))) }
/-- purlin/term.rule -/
def tf32 : TFn := { ntmps := 20, results := [.cell 2 true 1], body :=
 (.seq
 (.region false [
 ⟨some 2, .box 1 (.const (.agg [.nilfn])), none⟩])
 (.seq
 (.region false [
 ⟨some 4, .build [.nilfn] [(0, 1, (.const (.fn 48 [])))], none⟩,
 ⟨some 5, .build [.nilfn] [(0, 1, (.const (.fn 49 [])))], none⟩,
 ⟨some 6, .build [.nilfn] [(0, 1, (.const (.fn 50 [])))], none⟩,
 ⟨some 7, .build [.nilfn] [(0, 1, (.const (.fn 51 [])))], none⟩,
 ⟨some 8, .build [.nilfn, .nilfn, .nilfn, .nilfn, .nilfn] [(1, 1, (.tmp 4)), (2, 1, (.tmp 5)), (3, 1, (.tmp 6)), (4, 1, (.tmp 7))], none⟩,
 ⟨some 3, .box 5 (.const (.agg [.nilfn, .nilfn, .nilfn, .nilfn, .nilfn])), none⟩,
 ⟨none, .store 5 (.tmp 3) (.tmp 8), none⟩])
 (.seq
 (.seq
 (.region false [
 ⟨some 9, .move (.tmp 0), none⟩,
 ⟨some 10, .bin 0 .lss (.tmp 9) (.const (.int .u8 1)), none⟩,
 ⟨some 11, .move (.tmp 10), none⟩,
 ⟨some 12, .move (.tmp 0), (some (11, false))⟩,
 ⟨some 13, .conv .i64 (.tmp 12), (some (11, false))⟩,
 ⟨some 14, .bin 0 .geq (.tmp 13) (.const (.int .i64 5)), (some (11, false))⟩,
 ⟨some 15, .pick (.tmp 11) (.const (.bool true)) (.tmp 14), none⟩])
 (.cond (.tmp 15)
 (.seq
 (.region false [
 ⟨some 16, .build [.nilfn] [(0, 1, (.const (.fn 52 [])))], none⟩,
 ⟨none, .store 1 (.tmp 2) (.tmp 16), none⟩])
 .ret)
 .skip))
 (.seq
 (.region false [
 ⟨some 17, .move (.tmp 0), none⟩,
 ⟨some 18, .idxArr (.tmp 3) (.tmp 17) 5 1, none⟩,
 ⟨some 19, .load true 1 (.tmp 18), none⟩,
 ⟨none, .store 1 (.tmp 2) (.tmp 19), none⟩])
 .ret)))) }
/-- slices.ContainsFunc[[]purlin/api.Term,purlin/api.Term] -/
def tf33 : TFn := { ntmps := 9, results := [.tmp 4], body :=
 (.seq
 (.region false [
 ⟨some 4, .assign (.const (.bool false)), none⟩])
 (.seq
 (.region false [
 ⟨some 5, .move (.tmp 0), none⟩,
 ⟨some 6, .move (.tmp 1), none⟩,
 ⟨some 7, .call true (.const (.fn 53 [])) [(.tmp 5), (.tmp 6)] [], none⟩,
 ⟨some 8, .bin 0 .geq (.tmp 7) (.const (.int .i64 0)), none⟩,
 ⟨some 4, .assign (.tmp 8), none⟩])
 .ret)) }
/-- purlin/term.Make$1 -/
def tf34 : TFn := { ntmps := 6, results := [.tmp 2], body :=
 (.seq
 (.region false [
 ⟨some 2, .assign (.const (.bool false)), none⟩])
 (.seq
 (.region false [
 ⟨some 3, .move (.tmp 0), none⟩,
 ⟨some 4, .call true (.const (.fn 30 [])) [(.tmp 3)] [], none⟩,
 ⟨some 5, .un .not (.tmp 4), none⟩,
 ⟨some 2, .assign (.tmp 5), none⟩])
 .ret)) }
/-- slices.Concat[purlin/api.Term,purlin/api.Cell] -/
def tf35 : TFn := { ntmps := 36, results := [.tmp 2], body :=
 (.seq
 (.region false [
 ⟨some 2, .assign (.const (.sl true 0 5 [] [])), none⟩])
 (.seq
 (.region false [
 ⟨some 3, .assign (.const (.int .i64 0)), none⟩])
 (.seq
 (.seq
 (.region false [
 ⟨some 9, .move (.tmp 0), none⟩,
 ⟨some 10, .len false (.tmp 9), none⟩,
 ⟨some 11, .move (.const (.int .i64 0)), none⟩])
 (.block 0
 (.loop [0, 3, 9, 10, 11]
 (.seq
 (.region false [
 ⟨some 12, .bin 0 .lss (.tmp 11) (.tmp 10), none⟩])
 (.seq
 (.cond (.tmp 12)
 .skip
 (.exit 0))
 (.seq
 (.block 1
 (.seq
 (.region false [
 ⟨some 13, .idxAddr (.tmp 9) (.tmp 11) 1, none⟩,
 ⟨some 14, .load false 1 (.tmp 13), none⟩,
 ⟨some 5, .assign (.tmp 14), none⟩])
 (.seq
 (.region false [
 ⟨some 15, .move (.tmp 3), none⟩,
 ⟨some 16, .move (.tmp 5), none⟩,
 ⟨some 17, .len false (.tmp 16), none⟩,
 ⟨some 18, .bin 0 .add (.tmp 15) (.tmp 17), none⟩,
 ⟨some 3, .assign (.tmp 18), none⟩])
 (.seq
 (.region false [
 ⟨some 19, .move (.tmp 3), none⟩,
 ⟨some 20, .bin 0 .lss (.tmp 19) (.const (.int .i64 0)), none⟩])
 (.cond (.tmp 20)
 (.region false [
 ⟨some 21, .fail, none⟩,
 ⟨none, .fail, none⟩])
 .skip)))))
 (.region false [
 ⟨some 22, .bin 0 .add (.tmp 11) (.const (.int .i64 1)), none⟩,
 ⟨some 11, .move (.tmp 22), none⟩])))))))
 (.seq
 (.region false [
 ⟨some 23, .move (.tmp 3), none⟩,
 ⟨some 24, .call true (.const (.fn 564 [])) [(.const (.sl true 0 5 [] [])), (.tmp 23)] [], none⟩,
 ⟨some 6, .assign (.tmp 24), none⟩])
 (.seq
 (.seq
 (.region false [
 ⟨some 25, .move (.tmp 0), none⟩,
 ⟨some 26, .len false (.tmp 25), none⟩,
 ⟨some 27, .move (.const (.int .i64 0)), none⟩])
 (.block 2
 (.loop [6, 25, 26, 27]
 (.seq
 (.region false [
 ⟨some 28, .bin 0 .lss (.tmp 27) (.tmp 26), none⟩])
 (.seq
 (.cond (.tmp 28)
 .skip
 (.exit 2))
 (.seq
 (.block 3
 (.seq
 (.region false [
 ⟨some 29, .idxAddr (.tmp 25) (.tmp 27) 1, none⟩,
 ⟨some 30, .load false 1 (.tmp 29), none⟩,
 ⟨some 8, .assign (.tmp 30), none⟩])
 (.region false [
 ⟨some 31, .move (.tmp 6), none⟩,
 ⟨some 32, .move (.tmp 8), none⟩,
 ⟨some 33, .append 5 48 (.tmp 31) (.tmp 32), none⟩,
 ⟨some 6, .assign (.tmp 33), none⟩])))
 (.region false [
 ⟨some 34, .bin 0 .add (.tmp 27) (.const (.int .i64 1)), none⟩,
 ⟨some 27, .move (.tmp 34), none⟩])))))))
 (.seq
 (.region false [
 ⟨some 35, .move (.tmp 6), none⟩,
 ⟨some 2, .assign (.tmp 35), none⟩])
 .ret)))))) }
/-- purlin/term.single -/
def tf37 : TFn := { ntmps := 9, results := [.tmp 2], body :=
 (.seq
 (.region false [
 ⟨some 1, .box 5 (.tmp 0), none⟩,
 ⟨some 2, .assign (.const (.sl true 0 5 [] [])), none⟩])
 (.seq
 (.seq
 (.region false [
 ⟨some 4, .load true 5 (.tmp 1), none⟩,
 ⟨some 5, .buildSlice 1 5 [.int .u8 0, .str ⟨#[]⟩, .int .i64 0, .int .i64 0, .int .i64 0] [(0, (.tmp 4))], none⟩,
 ⟨some 3, .assign (.tmp 5), none⟩])
 (.seq
 (.region false [
 ⟨some 6, .move (.tmp 3), none⟩,
 ⟨some 7, .call true (.const (.fn 30 [])) [(.tmp 6)] [], none⟩])
 (.cond (.tmp 7)
 (.seq
 (.region false [
 ⟨some 8, .move (.tmp 3), none⟩,
 ⟨some 2, .assign (.tmp 8), none⟩])
 .ret)
 .skip)))
 (.seq
 (.region false [
 ⟨some 2, .assign (.const (.sl true 0 5 [] [])), none⟩])
 .ret))) }
/-- slices.ContainsFunc[purlin/api.Term,purlin/api.Cell] -/
def tf43 : TFn := { ntmps := 9, results := [.tmp 4], body :=
 (.seq
 (.region false [
 ⟨some 4, .assign (.const (.bool false)), none⟩])
 (.seq
 (.region false [
 ⟨some 5, .move (.tmp 0), none⟩,
 ⟨some 6, .move (.tmp 1), none⟩,
 ⟨some 7, .call true (.const (.fn 56 [])) [(.tmp 5), (.tmp 6)] [], none⟩,
 ⟨some 8, .bin 0 .geq (.tmp 7) (.const (.int .i64 0)), none⟩,
 ⟨some 4, .assign (.tmp 8), none⟩])
 .ret)) }
/-- purlin/term.Global$1 -/
def tf44 : TFn := { ntmps := 12, results := [.tmp 2], body :=
 (.seq
 (.region false [
 ⟨some 1, .box 5 (.tmp 0), none⟩,
 ⟨some 2, .assign (.const (.bool false)), none⟩])
 (.seq
 (.region false [
 ⟨some 3, .faddr (.tmp 1) 0, none⟩,
 ⟨some 4, .load false 1 (.tmp 3), none⟩,
 ⟨some 5, .bin 0 .eql (.tmp 4) (.const (.int .u8 4)), none⟩,
 ⟨some 6, .move (.tmp 5), none⟩,
 ⟨some 7, .faddr (.tmp 1) 3, (some (6, true))⟩,
 ⟨some 8, .faddr (.tmp 7) 0, (some (6, true))⟩,
 ⟨some 9, .load false 1 (.tmp 8), (some (6, true))⟩,
 ⟨some 10, .bin 0 .eql (.tmp 9) (.const (.int .i64 (-1))), (some (6, true))⟩,
 ⟨some 11, .pick (.tmp 6) (.tmp 10) (.const (.bool false)), none⟩,
 ⟨some 2, .assign (.tmp 11), none⟩])
 .ret)) }
/-- purlin/term.Right$1 -/
def tf46 : TFn := { ntmps := 10, results := [.tmp 2], body :=
 (.seq
 (.region false [
 ⟨some 1, .box 5 (.tmp 0), none⟩,
 ⟨some 2, .assign (.const (.bool false)), none⟩])
 (.seq
 (.region true [
 ⟨some 3, .faddr (.tmp 1) 0, none⟩,
 ⟨some 4, .load false 1 (.tmp 3), none⟩,
 ⟨some 5, .call true (.const (.fn 32 [])) [(.tmp 4)] [], none⟩,
 ⟨some 6, .field (.tmp 5) false 0 1, none⟩,
 ⟨some 7, .load true 5 (.tmp 1), none⟩,
 ⟨some 8, .call true (.tmp 6) [(.tmp 7)] [], none⟩,
 ⟨some 9, .un .not (.tmp 8), none⟩,
 ⟨some 2, .move (.tmp 9), none⟩])
 .ret)) }
/-- purlin/term.parts -/
def tf47 : TFn := { ntmps := 9, results := [.tmp 2], body :=
 (.seq
 (.region false [
 ⟨some 1, .box 5 (.tmp 0), none⟩,
 ⟨some 2, .assign (.const (.int .i64 0)), none⟩])
 (.seq
 (.seq
 (.region false [
 ⟨some 3, .faddr (.tmp 1) 0, none⟩,
 ⟨some 4, .load false 1 (.tmp 3), none⟩,
 ⟨some 5, .bin 0 .neq (.tmp 4) (.const (.int .u8 3)), none⟩])
 (.cond (.tmp 5)
 (.seq
 (.region false [
 ⟨some 2, .assign (.const (.int .i64 0)), none⟩])
 .ret)
 .skip))
 (.seq
 (.region false [
 ⟨some 6, .faddr (.tmp 1) 2, none⟩,
 ⟨some 7, .load false 1 (.tmp 6), none⟩,
 ⟨some 8, .minmax true (.tmp 7) (.const (.int .i64 0)), none⟩,
 ⟨some 2, .assign (.tmp 8), none⟩])
 .ret))) }
/-- purlin/term.rule$1 -/
def tf48 : TFn := { ntmps := 18, results := [.tmp 2], body :=
 (.seq
 (.region false [
 ⟨some 1, .box 5 (.tmp 0), none⟩,
 ⟨some 2, .assign (.const (.bool false)), none⟩])
 (.seq
 (.region false [
 ⟨some 3, .faddr (.tmp 1) 2, none⟩,
 ⟨some 4, .load false 1 (.tmp 3), none⟩,
 ⟨some 5, .bin 0 .geq (.tmp 4) (.const (.int .i64 (-2147483648))), none⟩,
 ⟨some 6, .move (.tmp 5), none⟩,
 ⟨some 7, .faddr (.tmp 1) 2, (some (6, true))⟩,
 ⟨some 8, .load false 1 (.tmp 7), (some (6, true))⟩,
 ⟨some 9, .bin 0 .leq (.tmp 8) (.const (.int .i64 2147483648)), (some (6, true))⟩,
 ⟨some 10, .pick (.tmp 6) (.tmp 9) (.const (.bool false)), none⟩,
 ⟨some 11, .move (.tmp 10), none⟩,
 ⟨some 12, .load true 5 (.tmp 1), (some (11, true))⟩,
 ⟨some 13, .faddr (.tmp 1) 2, (some (11, true))⟩,
 ⟨some 14, .load false 1 (.tmp 13), (some (11, true))⟩,
 ⟨some 15, .build [.int .u8 0, .str ⟨#[]⟩, .int .i64 0, .int .i64 0, .int .i64 0] [(0, 1, (.const (.int .u8 1))), (2, 1, (.tmp 14))], (some (11, true))⟩,
 ⟨some 16, .call true (.const (.fn 57 [])) [(.tmp 12), (.tmp 15)] [], (some (11, true))⟩,
 ⟨some 17, .pick (.tmp 11) (.tmp 16) (.const (.bool false)), none⟩,
 ⟨some 2, .assign (.tmp 17), none⟩])
 .ret)) }
/-- purlin/term.only -/
def tf57 : TFn := { ntmps := 8, results := [.tmp 4], body :=
 (.seq
 (.region false [
 ⟨some 2, .box 5 (.tmp 0), none⟩,
 ⟨some 3, .box 5 (.tmp 1), none⟩,
 ⟨some 4, .assign (.const (.bool false)), none⟩])
 (.seq
 (.region false [
 ⟨some 5, .load true 5 (.tmp 2), none⟩,
 ⟨some 6, .load true 5 (.tmp 3), none⟩,
 ⟨some 7, .eqAgg false 345048 (.tmp 5) (.tmp 6), none⟩,
 ⟨some 4, .assign (.tmp 7), none⟩])
 .ret)) }
/-- purlin/term.rule$2 -/
def tf49 : TFn := { ntmps := 13, results := [.tmp 2], body :=
 (.seq
 (.region false [
 ⟨some 1, .box 5 (.tmp 0), none⟩,
 ⟨some 2, .assign (.const (.bool false)), none⟩])
 (.seq
 (.region false [
 ⟨some 3, .faddr (.tmp 1) 1, none⟩,
 ⟨some 4, .load false 1 (.tmp 3), none⟩,
 ⟨some 5, .call true (.const (.fn 1 [])) [(.tmp 4)] [], none⟩,
 ⟨some 6, .move (.tmp 5), none⟩,
 ⟨some 7, .load true 5 (.tmp 1), (some (6, true))⟩,
 ⟨some 8, .faddr (.tmp 1) 1, (some (6, true))⟩,
 ⟨some 9, .load false 1 (.tmp 8), (some (6, true))⟩,
 ⟨some 10, .build [.int .u8 0, .str ⟨#[]⟩, .int .i64 0, .int .i64 0, .int .i64 0] [(0, 1, (.const (.int .u8 2))), (1, 1, (.tmp 9))], (some (6, true))⟩,
 ⟨some 11, .call true (.const (.fn 57 [])) [(.tmp 7), (.tmp 10)] [], (some (6, true))⟩,
 ⟨some 12, .pick (.tmp 6) (.tmp 11) (.const (.bool false)), none⟩,
 ⟨some 2, .assign (.tmp 12), none⟩])
 .ret)) }
/-- purlin/term.rule$3 -/
def tf50 : TFn := { ntmps := 38, results := [.tmp 2], body :=
 (.seq
 (.region false [
 ⟨some 1, .box 5 (.tmp 0), none⟩,
 ⟨some 2, .assign (.const (.bool false)), none⟩])
 (.seq
 (.region true [
 ⟨some 4, .faddr (.tmp 1) 1, none⟩,
 ⟨some 5, .load false 1 (.tmp 4), none⟩,
 ⟨some 6, .call true (.const (.fn 1 [])) [(.tmp 5)] [], none⟩,
 ⟨some 7, .move (.tmp 6), none⟩,
 ⟨some 8, .faddr (.tmp 1) 2, (some (7, true))⟩,
 ⟨some 9, .load false 1 (.tmp 8), (some (7, true))⟩,
 ⟨some 10, .bin 0 .geq (.tmp 9) (.const (.int .i64 1)), (some (7, true))⟩,
 ⟨some 11, .pick (.tmp 7) (.tmp 10) (.const (.bool false)), none⟩,
 ⟨some 12, .move (.tmp 11), none⟩,
 ⟨some 13, .faddr (.tmp 1) 2, (some (12, true))⟩,
 ⟨some 14, .load false 1 (.tmp 13), (some (12, true))⟩,
 ⟨some 15, .bin 0 .leq (.tmp 14) (.const (.int .i64 8)), (some (12, true))⟩,
 ⟨some 16, .pick (.tmp 12) (.tmp 15) (.const (.bool false)), none⟩,
 ⟨some 17, .move (.tmp 16), none⟩,
 ⟨some 18, .sliceArr (.glob 0) 12 1, (some (17, false))⟩,
 ⟨some 19, .faddr (.tmp 1) 1, (some (17, false))⟩,
 ⟨some 20, .load false 1 (.tmp 19), (some (17, false))⟩,
 ⟨some 21, .call true (.const (.fn 248 [])) [(.tmp 18), (.tmp 20)] [], (some (17, false))⟩,
 ⟨some 22, .move (.tmp 21), (some (17, false))⟩,
 ⟨some 23, .faddr (.tmp 1) 2, (some (22, true))⟩,
 ⟨some 24, .load false 1 (.tmp 23), (some (22, true))⟩,
 ⟨some 25, .bin 0 .eql (.tmp 24) (.const (.int .i64 2)), (some (22, true))⟩,
 ⟨some 26, .pick (.tmp 22) (.tmp 25) (.const (.bool false)), (some (17, false))⟩,
 ⟨some 27, .pick (.tmp 17) (.const (.bool true)) (.tmp 26), none⟩,
 ⟨some 3, .move (.tmp 27), none⟩])
 (.seq
 (.region false [
 ⟨some 28, .move (.tmp 3), none⟩,
 ⟨some 29, .move (.tmp 28), none⟩,
 ⟨some 30, .load true 5 (.tmp 1), (some (29, true))⟩,
 ⟨some 31, .faddr (.tmp 1) 1, (some (29, true))⟩,
 ⟨some 32, .load false 1 (.tmp 31), (some (29, true))⟩,
 ⟨some 33, .faddr (.tmp 1) 2, (some (29, true))⟩,
 ⟨some 34, .load false 1 (.tmp 33), (some (29, true))⟩,
 ⟨some 35, .build [.int .u8 0, .str ⟨#[]⟩, .int .i64 0, .int .i64 0, .int .i64 0] [(0, 1, (.const (.int .u8 3))), (1, 1, (.tmp 32)), (2, 1, (.tmp 34))], (some (29, true))⟩,
 ⟨some 36, .call true (.const (.fn 57 [])) [(.tmp 30), (.tmp 35)] [], (some (29, true))⟩,
 ⟨some 37, .pick (.tmp 29) (.tmp 36) (.const (.bool false)), none⟩,
 ⟨some 2, .assign (.tmp 37), none⟩])
 .ret))) }
/-- slices.Contains[[]string,string] -/
def tf248 : TFn := { ntmps := 9, results := [.tmp 4], body :=
 (.seq
 (.region false [
 ⟨some 4, .assign (.const (.bool false)), none⟩])
 (.seq
 (.region false [
 ⟨some 5, .move (.tmp 0), none⟩,
 ⟨some 6, .move (.tmp 1), none⟩,
 ⟨some 7, .call true (.const (.fn 58 [])) [(.tmp 5), (.tmp 6)] [], none⟩,
 ⟨some 8, .bin 0 .geq (.tmp 7) (.const (.int .i64 0)), none⟩,
 ⟨some 4, .assign (.tmp 8), none⟩])
 .ret)) }
/-- purlin/term.rule$4 -/
def tf51 : TFn := { ntmps := 26, results := [.tmp 2], body :=
 (.seq
 (.region false [
 ⟨some 1, .box 5 (.tmp 0), none⟩,
 ⟨some 2, .assign (.const (.bool false)), none⟩])
 (.seq
 (.region false [
 ⟨some 3, .faddr (.tmp 1) 3, none⟩,
 ⟨some 4, .faddr (.tmp 3) 0, none⟩,
 ⟨some 5, .load false 1 (.tmp 4), none⟩,
 ⟨some 6, .bin 0 .geq (.tmp 5) (.const (.int .i64 (-1))), none⟩,
 ⟨some 7, .move (.tmp 6), none⟩,
 ⟨some 8, .faddr (.tmp 1) 3, (some (7, true))⟩,
 ⟨some 9, .faddr (.tmp 8) 0, (some (7, true))⟩,
 ⟨some 10, .load false 1 (.tmp 9), (some (7, true))⟩,
 ⟨some 11, .bin 0 .lss (.tmp 10) (.const (.int .i64 4)), (some (7, true))⟩,
 ⟨some 12, .pick (.tmp 7) (.tmp 11) (.const (.bool false)), none⟩,
 ⟨some 13, .move (.tmp 12), none⟩,
 ⟨some 14, .faddr (.tmp 1) 3, (some (13, true))⟩,
 ⟨some 15, .faddr (.tmp 14) 1, (some (13, true))⟩,
 ⟨some 16, .load false 1 (.tmp 15), (some (13, true))⟩,
 ⟨some 17, .bin 0 .geq (.tmp 16) (.const (.int .i64 0)), (some (13, true))⟩,
 ⟨some 18, .pick (.tmp 13) (.tmp 17) (.const (.bool false)), none⟩,
 ⟨some 19, .move (.tmp 18), none⟩,
 ⟨some 20, .load true 5 (.tmp 1), (some (19, true))⟩,
 ⟨some 21, .faddr (.tmp 1) 3, (some (19, true))⟩,
 ⟨some 22, .load true 2 (.tmp 21), (some (19, true))⟩,
 ⟨some 23, .build [.int .u8 0, .str ⟨#[]⟩, .int .i64 0, .int .i64 0, .int .i64 0] [(0, 1, (.const (.int .u8 4))), (3, 2, (.tmp 22))], (some (19, true))⟩,
 ⟨some 24, .call true (.const (.fn 57 [])) [(.tmp 20), (.tmp 23)] [], (some (19, true))⟩,
 ⟨some 25, .pick (.tmp 19) (.tmp 24) (.const (.bool false)), none⟩,
 ⟨some 2, .assign (.tmp 25), none⟩])
 .ret)) }
/-- purlin/term.rule$5 -/
def tf52 : TFn := { ntmps := 3, results := [.tmp 2], body :=
 (.seq
 (.region false [
 ⟨some 1, .box 5 (.tmp 0), none⟩,
 ⟨some 2, .assign (.const (.bool false)), none⟩])
 (.seq
 (.region false [
 ⟨some 2, .assign (.const (.bool false)), none⟩])
 .ret)) }
/-- slices.IndexFunc[[]purlin/api.Term,purlin/api.Term] -/
def tf53 : TFn := { ntmps := 19, results := [.tmp 4], body :=
 (.seq
 (.region false [
 ⟨some 4, .assign (.const (.int .i64 0)), none⟩])
 (.seq
 (.seq
 (.region false [
 ⟨some 6, .move (.tmp 0), none⟩,
 ⟨some 7, .len false (.tmp 6), none⟩,
 ⟨some 8, .move (.const (.int .i64 0)), none⟩])
 (.block 0
 (.loop [0, 1, 7, 8]
 (.seq
 (.region false [
 ⟨some 9, .bin 0 .lss (.tmp 8) (.tmp 7), none⟩])
 (.seq
 (.cond (.tmp 9)
 .skip
 (.exit 0))
 (.seq
 (.block 1
 (.seq
 (.region false [
 ⟨some 10, .move (.tmp 8), none⟩,
 ⟨some 5, .assign (.tmp 10), none⟩])
 (.seq
 (.region false [
 ⟨some 11, .move (.tmp 1), none⟩,
 ⟨some 12, .move (.tmp 0), none⟩,
 ⟨some 13, .move (.tmp 5), none⟩,
 ⟨some 14, .idxAddr (.tmp 12) (.tmp 13) 1, none⟩,
 ⟨some 15, .load false 1 (.tmp 14), none⟩,
 ⟨some 16, .call true (.tmp 11) [(.tmp 15)] [], none⟩])
 (.cond (.tmp 16)
 (.seq
 (.region false [
 ⟨some 17, .move (.tmp 5), none⟩,
 ⟨some 4, .assign (.tmp 17), none⟩])
 .ret)
 .skip))))
 (.region false [
 ⟨some 18, .bin 0 .add (.tmp 8) (.const (.int .i64 1)), none⟩,
 ⟨some 8, .move (.tmp 18), none⟩])))))))
 (.seq
 (.region false [
 ⟨some 4, .assign (.const (.int .i64 (-1))), none⟩])
 .ret))) }
/-- slices.Grow[purlin/api.Term,purlin/api.Cell] -/
def tf564 : TFn := { ntmps := 27, results := [.tmp 4], body :=
 (.seq
 (.region false [
 ⟨some 4, .assign (.const (.sl true 0 5 [] [])), none⟩])
 (.seq
 (.seq
 (.region false [
 ⟨some 5, .move (.tmp 1), none⟩,
 ⟨some 6, .bin 0 .lss (.tmp 5) (.const (.int .i64 0)), none⟩])
 (.cond (.tmp 6)
 (.region false [
 ⟨some 7, .fail, none⟩,
 ⟨none, .fail, none⟩])
 .skip))
 (.seq
 (.seq
 (.region false [
 ⟨some 8, .move (.tmp 1), none⟩,
 ⟨some 9, .move (.tmp 0), none⟩,
 ⟨some 10, .fail, none⟩,
 ⟨some 11, .move (.tmp 0), none⟩,
 ⟨some 12, .len false (.tmp 11), none⟩,
 ⟨some 13, .bin 0 .sub (.tmp 10) (.tmp 12), none⟩,
 ⟨some 14, .bin 0 .sub (.tmp 8) (.tmp 13), none⟩,
 ⟨some 1, .assign (.tmp 14), none⟩])
 (.seq
 (.region false [
 ⟨some 15, .move (.tmp 1), none⟩,
 ⟨some 16, .bin 0 .gtr (.tmp 15) (.const (.int .i64 0)), none⟩])
 (.cond (.tmp 16)
 (.region false [
 ⟨some 17, .move (.tmp 0), none⟩,
 ⟨some 18, .move (.tmp 0), none⟩,
 ⟨some 19, .fail, none⟩,
 ⟨some 20, .slice 5 (.tmp 17) none (some (.tmp 19)), none⟩,
 ⟨some 21, .move (.tmp 1), none⟩,
 ⟨some 22, .append 5 48 (.tmp 20) (.tmp 21), none⟩,
 ⟨some 23, .move (.tmp 0), none⟩,
 ⟨some 24, .len false (.tmp 23), none⟩,
 ⟨some 25, .slice 5 (.tmp 22) none (some (.tmp 24)), none⟩,
 ⟨some 0, .assign (.tmp 25), none⟩])
 .skip)))
 (.seq
 (.region false [
 ⟨some 26, .move (.tmp 0), none⟩,
 ⟨some 4, .assign (.tmp 26), none⟩])
 .ret)))) }
/-- slices.IndexFunc[purlin/api.Term,purlin/api.Cell] -/
def tf56 : TFn := { ntmps := 19, results := [.tmp 4], body :=
 (.seq
 (.region false [
 ⟨some 4, .assign (.const (.int .i64 0)), none⟩])
 (.seq
 (.seq
 (.region false [
 ⟨some 6, .move (.tmp 0), none⟩,
 ⟨some 7, .len false (.tmp 6), none⟩,
 ⟨some 8, .move (.const (.int .i64 0)), none⟩])
 (.block 0
 (.loop [0, 1, 7, 8]
 (.seq
 (.region false [
 ⟨some 9, .bin 0 .lss (.tmp 8) (.tmp 7), none⟩])
 (.seq
 (.cond (.tmp 9)
 .skip
 (.exit 0))
 (.seq
 (.block 1
 (.seq
 (.region false [
 ⟨some 10, .move (.tmp 8), none⟩,
 ⟨some 5, .assign (.tmp 10), none⟩])
 (.seq
 (.region false [
 ⟨some 11, .move (.tmp 1), none⟩,
 ⟨some 12, .move (.tmp 0), none⟩,
 ⟨some 13, .move (.tmp 5), none⟩,
 ⟨some 14, .idxAddr (.tmp 12) (.tmp 13) 5, none⟩,
 ⟨some 15, .load true 5 (.tmp 14), none⟩,
 ⟨some 16, .call true (.tmp 11) [(.tmp 15)] [], none⟩])
 (.cond (.tmp 16)
 (.seq
 (.region false [
 ⟨some 17, .move (.tmp 5), none⟩,
 ⟨some 4, .assign (.tmp 17), none⟩])
 .ret)
 .skip))))
 (.region false [
 ⟨some 18, .bin 0 .add (.tmp 8) (.const (.int .i64 1)), none⟩,
 ⟨some 8, .move (.tmp 18), none⟩])))))))
 (.seq
 (.region false [
 ⟨some 4, .assign (.const (.int .i64 (-1))), none⟩])
 .ret))) }
/-- slices.Index[[]string,string] -/
def tf58 : TFn := { ntmps := 19, results := [.tmp 4], body :=
 (.seq
 (.region false [
 ⟨some 4, .assign (.const (.int .i64 0)), none⟩])
 (.seq
 (.seq
 (.region false [
 ⟨some 6, .move (.tmp 0), none⟩,
 ⟨some 7, .len false (.tmp 6), none⟩,
 ⟨some 8, .move (.const (.int .i64 0)), none⟩])
 (.block 0
 (.loop [0, 1, 7, 8]
 (.seq
 (.region false [
 ⟨some 9, .bin 0 .lss (.tmp 8) (.tmp 7), none⟩])
 (.seq
 (.cond (.tmp 9)
 .skip
 (.exit 0))
 (.seq
 (.block 1
 (.seq
 (.region false [
 ⟨some 10, .move (.tmp 8), none⟩,
 ⟨some 5, .assign (.tmp 10), none⟩])
 (.seq
 (.region false [
 ⟨some 11, .move (.tmp 1), none⟩,
 ⟨some 12, .move (.tmp 0), none⟩,
 ⟨some 13, .move (.tmp 5), none⟩,
 ⟨some 14, .idxAddr (.tmp 12) (.tmp 13) 1, none⟩,
 ⟨some 15, .load false 1 (.tmp 14), none⟩,
 ⟨some 16, .bin 0 .eql (.tmp 11) (.tmp 15), none⟩])
 (.cond (.tmp 16)
 (.seq
 (.region false [
 ⟨some 17, .move (.tmp 5), none⟩,
 ⟨some 4, .assign (.tmp 17), none⟩])
 .ret)
 .skip))))
 (.region false [
 ⟨some 18, .bin 0 .add (.tmp 8) (.const (.int .i64 1)), none⟩,
 ⟨some 8, .move (.tmp 18), none⟩])))))))
 (.seq
 (.region false [
 ⟨some 4, .assign (.const (.int .i64 (-1))), none⟩])
 .ret))) }
def fnTable : List (Nat × TFn) := [(1, tf1), (7, tf7), (9, tf9), (25, tf25), (30, tf30), (31, tf31), (32, tf32), (33, tf33), (34, tf34), (35, tf35), (37, tf37), (43, tf43), (44, tf44), (46, tf46), (47, tf47), (48, tf48), (57, tf57), (49, tf49), (50, tf50), (248, tf248), (51, tf51), (52, tf52), (53, tf53), (564, tf564), (56, tf56), (58, tf58)]
end Tree
