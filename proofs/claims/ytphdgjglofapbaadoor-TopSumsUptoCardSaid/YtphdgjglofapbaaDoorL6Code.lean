/- Layer 6: the program's functions as E-code. -/
import Derived.Test.YtphdgjglofapbaaDoorHCode
set_option autoImplicit false
namespace Tree
open Go
/-- purlin/arith.Value -/
def tf217 : TFn := { ntmps := 24, results := [.tmp 4, .tmp 5, .tmp 6], body :=
 (.seq
 (.region false [
 ⟨some 4, .assign (.const (.int .i64 0)), none⟩,
 ⟨some 5, .assign (.const (.int .u8 0)), none⟩,
 ⟨some 6, .assign (.const (.sl true 0 2 [] [])), none⟩])
 (.seq
 (.seq
 (.region false [
 ⟨some 8, .move (.tmp 1), none⟩,
 ⟨some 9, .call true (.const (.fn 30 [])) [(.tmp 8)] [], none⟩,
 ⟨some 10, .un .not (.tmp 9), none⟩])
 (.cond (.tmp 10)
 (.seq
 (.region false [
 ⟨some 4, .assign (.const (.int .i64 0)), none⟩,
 ⟨some 5, .assign (.const (.int .u8 2)), none⟩,
 ⟨some 6, .assign (.const (.sl true 0 2 [] [])), none⟩])
 .ret)
 .skip))
 (.seq
 (.region false [
 ⟨some 11, .move (.tmp 0), none⟩,
 ⟨some 12, .move (.tmp 1), none⟩,
 ⟨some 13, .call true (.const (.fn 238 [])) [(.tmp 11), (.tmp 12)] [], none⟩,
 ⟨some 7, .box 3 (.const (.agg [.int .i64 0, .bool false, .sl true 0 2 [] []])), none⟩,
 ⟨none, .store 3 (.tmp 7) (.tmp 13), none⟩])
 (.seq
 (.seq
 (.region false [
 ⟨some 14, .load true 3 (.tmp 7), none⟩,
 ⟨some 15, .call true (.const (.fn 239 [])) [(.tmp 14)] [], none⟩])
 (.block 0
 (.seq
 (.region false [
 ⟨some 17, .bin 0 .eql (.tmp 15) (.const (.int .u8 2)), none⟩,
 ⟨some 16, .assign (.tmp 17), none⟩])
 (.cond (.tmp 16)
 (.seq
 (.region false [
 ⟨some 4, .assign (.const (.int .i64 0)), none⟩,
 ⟨some 5, .assign (.const (.int .u8 2)), none⟩,
 ⟨some 6, .assign (.const (.sl true 0 2 [] [])), none⟩])
 .ret)
 (.seq
 (.region false [
 ⟨some 19, .bin 0 .eql (.tmp 15) (.const (.int .u8 3)), none⟩,
 ⟨some 18, .assign (.tmp 19), none⟩])
 (.cond (.tmp 18)
 (.seq
 (.region true [
 ⟨some 20, .faddr (.tmp 7) 2, none⟩,
 ⟨some 21, .load false 1 (.tmp 20), none⟩,
 ⟨some 4, .move (.const (.int .i64 0)), none⟩,
 ⟨some 5, .move (.const (.int .u8 3)), none⟩,
 ⟨some 6, .move (.tmp 21), none⟩])
 .ret)
 .skip))))))
 (.seq
 (.region false [
 ⟨some 22, .faddr (.tmp 7) 0, none⟩,
 ⟨some 23, .load false 1 (.tmp 22), none⟩,
 ⟨some 4, .assign (.tmp 23), none⟩,
 ⟨some 5, .assign (.const (.int .u8 1)), none⟩,
 ⟨some 6, .assign (.const (.sl true 0 2 [] [])), none⟩])
 .ret))))) }
/-- purlin/arith.Reckon -/
def tf222 : TFn := { ntmps := 131, results := [.tmp 4, .tmp 5], body :=
 (.seq
 (.region false [
 ⟨some 4, .assign (.const (.int .i64 0)), none⟩,
 ⟨some 5, .assign (.const (.bool false)), none⟩])
 (.seq
 (.seq
 (.region false [
 ⟨some 8, .move (.tmp 1), none⟩,
 ⟨some 9, .call true (.const (.fn 241 [])) [(.tmp 8), (.const (.fn 242 []))] [], none⟩])
 (.cond (.tmp 9)
 (.seq
 (.region false [
 ⟨some 4, .assign (.const (.int .i64 0)), none⟩,
 ⟨some 5, .assign (.const (.bool false)), none⟩])
 .ret)
 .skip))
 (.seq
 (.region false [
 ⟨some 6, .assign (.const (.int .i64 0)), none⟩,
 ⟨some 7, .assign (.const (.bool true)), none⟩])
 (.seq
 (.block 0
 (.seq
 (.region false [
 ⟨some 11, .move (.tmp 0), none⟩,
 ⟨some 12, .bin 0 .eql (.tmp 11) (.const (.str ⟨#[97, 98, 115]⟩)), none⟩,
 ⟨some 13, .move (.tmp 12), none⟩,
 ⟨some 14, .move (.tmp 1), (some (13, true))⟩,
 ⟨some 15, .len false (.tmp 14), (some (13, true))⟩,
 ⟨some 16, .bin 0 .eql (.tmp 15) (.const (.int .i64 1)), (some (13, true))⟩,
 ⟨some 17, .pick (.tmp 13) (.tmp 16) (.const (.bool false)), none⟩,
 ⟨some 10, .assign (.tmp 17), none⟩])
 (.cond (.tmp 10)
 (.region true [
 ⟨some 18, .move (.tmp 1), none⟩,
 ⟨some 19, .idxAddr (.tmp 18) (.const (.int .i64 0)) 1, none⟩,
 ⟨some 20, .load false 1 (.tmp 19), none⟩,
 ⟨some 21, .move (.tmp 1), none⟩,
 ⟨some 22, .idxAddr (.tmp 21) (.const (.int .i64 0)) 1, none⟩,
 ⟨some 23, .load false 1 (.tmp 22), none⟩,
 ⟨some 24, .un .neg (.tmp 23), none⟩,
 ⟨some 25, .minmax true (.tmp 20) (.tmp 24), none⟩,
 ⟨some 6, .move (.tmp 25), none⟩])
 (.seq
 (.region false [
 ⟨some 27, .move (.tmp 1), none⟩,
 ⟨some 28, .len false (.tmp 27), none⟩,
 ⟨some 29, .bin 0 .neq (.tmp 28) (.const (.int .i64 2)), none⟩,
 ⟨some 26, .assign (.tmp 29), none⟩])
 (.cond (.tmp 26)
 (.seq
 (.region false [
 ⟨some 4, .assign (.const (.int .i64 0)), none⟩,
 ⟨some 5, .assign (.const (.bool false)), none⟩])
 .ret)
 (.seq
 (.region false [
 ⟨some 31, .move (.tmp 0), none⟩,
 ⟨some 32, .bin 0 .eql (.tmp 31) (.const (.str ⟨#[43]⟩)), none⟩,
 ⟨some 30, .assign (.tmp 32), none⟩])
 (.cond (.tmp 30)
 (.region true [
 ⟨some 33, .move (.tmp 1), none⟩,
 ⟨some 34, .idxAddr (.tmp 33) (.const (.int .i64 0)) 1, none⟩,
 ⟨some 35, .load false 1 (.tmp 34), none⟩,
 ⟨some 36, .move (.tmp 1), none⟩,
 ⟨some 37, .idxAddr (.tmp 36) (.const (.int .i64 1)) 1, none⟩,
 ⟨some 38, .load false 1 (.tmp 37), none⟩,
 ⟨some 39, .bin 0 .add (.tmp 35) (.tmp 38), none⟩,
 ⟨some 6, .move (.tmp 39), none⟩])
 (.seq
 (.region false [
 ⟨some 41, .move (.tmp 0), none⟩,
 ⟨some 42, .bin 0 .eql (.tmp 41) (.const (.str ⟨#[45]⟩)), none⟩,
 ⟨some 40, .assign (.tmp 42), none⟩])
 (.cond (.tmp 40)
 (.region true [
 ⟨some 43, .move (.tmp 1), none⟩,
 ⟨some 44, .idxAddr (.tmp 43) (.const (.int .i64 0)) 1, none⟩,
 ⟨some 45, .load false 1 (.tmp 44), none⟩,
 ⟨some 46, .move (.tmp 1), none⟩,
 ⟨some 47, .idxAddr (.tmp 46) (.const (.int .i64 1)) 1, none⟩,
 ⟨some 48, .load false 1 (.tmp 47), none⟩,
 ⟨some 49, .bin 0 .sub (.tmp 45) (.tmp 48), none⟩,
 ⟨some 6, .move (.tmp 49), none⟩])
 (.seq
 (.region false [
 ⟨some 51, .move (.tmp 0), none⟩,
 ⟨some 52, .bin 0 .eql (.tmp 51) (.const (.str ⟨#[42]⟩)), none⟩,
 ⟨some 50, .assign (.tmp 52), none⟩])
 (.cond (.tmp 50)
 (.region true [
 ⟨some 54, .move (.tmp 1), none⟩,
 ⟨some 55, .idxAddr (.tmp 54) (.const (.int .i64 0)) 1, none⟩,
 ⟨some 56, .load false 1 (.tmp 55), none⟩,
 ⟨some 57, .move (.tmp 1), none⟩,
 ⟨some 58, .idxAddr (.tmp 57) (.const (.int .i64 1)) 1, none⟩,
 ⟨some 59, .load false 1 (.tmp 58), none⟩,
 ⟨some 60, .call true (.const (.fn 243 [])) [(.tmp 56), (.tmp 59)] [], none⟩,
 ⟨some 53, .move (.tmp 60), none⟩,
 ⟨some 61, .extract (.tmp 53) 0, none⟩,
 ⟨some 62, .extract (.tmp 53) 1, none⟩,
 ⟨some 6, .move (.tmp 61), none⟩,
 ⟨some 7, .move (.tmp 62), none⟩])
 (.seq
 (.region false [
 ⟨some 64, .move (.tmp 0), none⟩,
 ⟨some 65, .bin 0 .eql (.tmp 64) (.const (.str ⟨#[109, 105, 110]⟩)), none⟩,
 ⟨some 63, .assign (.tmp 65), none⟩])
 (.cond (.tmp 63)
 (.region true [
 ⟨some 66, .move (.tmp 1), none⟩,
 ⟨some 67, .idxAddr (.tmp 66) (.const (.int .i64 0)) 1, none⟩,
 ⟨some 68, .load false 1 (.tmp 67), none⟩,
 ⟨some 69, .move (.tmp 1), none⟩,
 ⟨some 70, .idxAddr (.tmp 69) (.const (.int .i64 1)) 1, none⟩,
 ⟨some 71, .load false 1 (.tmp 70), none⟩,
 ⟨some 72, .minmax false (.tmp 68) (.tmp 71), none⟩,
 ⟨some 6, .move (.tmp 72), none⟩])
 (.seq
 (.region false [
 ⟨some 74, .move (.tmp 0), none⟩,
 ⟨some 75, .bin 0 .eql (.tmp 74) (.const (.str ⟨#[109, 97, 120]⟩)), none⟩,
 ⟨some 73, .assign (.tmp 75), none⟩])
 (.cond (.tmp 73)
 (.region true [
 ⟨some 76, .move (.tmp 1), none⟩,
 ⟨some 77, .idxAddr (.tmp 76) (.const (.int .i64 0)) 1, none⟩,
 ⟨some 78, .load false 1 (.tmp 77), none⟩,
 ⟨some 79, .move (.tmp 1), none⟩,
 ⟨some 80, .idxAddr (.tmp 79) (.const (.int .i64 1)) 1, none⟩,
 ⟨some 81, .load false 1 (.tmp 80), none⟩,
 ⟨some 82, .minmax true (.tmp 78) (.tmp 81), none⟩,
 ⟨some 6, .move (.tmp 82), none⟩])
 (.seq
 (.region false [
 ⟨some 84, .move (.tmp 0), none⟩,
 ⟨some 85, .bin 0 .eql (.tmp 84) (.const (.str ⟨#[100, 105, 118]⟩)), none⟩,
 ⟨some 86, .move (.tmp 85), none⟩,
 ⟨some 87, .move (.tmp 1), (some (86, true))⟩,
 ⟨some 88, .idxAddr (.tmp 87) (.const (.int .i64 1)) 1, (some (86, true))⟩,
 ⟨some 89, .load false 1 (.tmp 88), (some (86, true))⟩,
 ⟨some 90, .bin 0 .neq (.tmp 89) (.const (.int .i64 0)), (some (86, true))⟩,
 ⟨some 91, .pick (.tmp 86) (.tmp 90) (.const (.bool false)), none⟩,
 ⟨some 83, .assign (.tmp 91), none⟩])
 (.cond (.tmp 83)
 (.region true [
 ⟨some 92, .move (.tmp 1), none⟩,
 ⟨some 93, .idxAddr (.tmp 92) (.const (.int .i64 0)) 1, none⟩,
 ⟨some 94, .load false 1 (.tmp 93), none⟩,
 ⟨some 95, .move (.tmp 1), none⟩,
 ⟨some 96, .idxAddr (.tmp 95) (.const (.int .i64 1)) 1, none⟩,
 ⟨some 97, .load false 1 (.tmp 96), none⟩,
 ⟨some 98, .call true (.const (.fn 244 [])) [(.tmp 94), (.tmp 97)] [], none⟩,
 ⟨some 6, .move (.tmp 98), none⟩])
 (.seq
 (.region false [
 ⟨some 100, .move (.tmp 0), none⟩,
 ⟨some 101, .bin 0 .eql (.tmp 100) (.const (.str ⟨#[109, 111, 100]⟩)), none⟩,
 ⟨some 102, .move (.tmp 101), none⟩,
 ⟨some 103, .move (.tmp 1), (some (102, true))⟩,
 ⟨some 104, .idxAddr (.tmp 103) (.const (.int .i64 1)) 1, (some (102, true))⟩,
 ⟨some 105, .load false 1 (.tmp 104), (some (102, true))⟩,
 ⟨some 106, .bin 0 .neq (.tmp 105) (.const (.int .i64 0)), (some (102, true))⟩,
 ⟨some 107, .pick (.tmp 102) (.tmp 106) (.const (.bool false)), none⟩,
 ⟨some 99, .assign (.tmp 107), none⟩])
 (.cond (.tmp 99)
 (.region true [
 ⟨some 108, .move (.tmp 1), none⟩,
 ⟨some 109, .idxAddr (.tmp 108) (.const (.int .i64 0)) 1, none⟩,
 ⟨some 110, .load false 1 (.tmp 109), none⟩,
 ⟨some 111, .move (.tmp 1), none⟩,
 ⟨some 112, .idxAddr (.tmp 111) (.const (.int .i64 1)) 1, none⟩,
 ⟨some 113, .load false 1 (.tmp 112), none⟩,
 ⟨some 114, .move (.tmp 1), none⟩,
 ⟨some 115, .idxAddr (.tmp 114) (.const (.int .i64 0)) 1, none⟩,
 ⟨some 116, .load false 1 (.tmp 115), none⟩,
 ⟨some 117, .move (.tmp 1), none⟩,
 ⟨some 118, .idxAddr (.tmp 117) (.const (.int .i64 1)) 1, none⟩,
 ⟨some 119, .load false 1 (.tmp 118), none⟩,
 ⟨some 120, .call true (.const (.fn 244 [])) [(.tmp 116), (.tmp 119)] [], none⟩,
 ⟨some 121, .bin 0 .mul (.tmp 113) (.tmp 120), none⟩,
 ⟨some 122, .bin 0 .sub (.tmp 110) (.tmp 121), none⟩,
 ⟨some 6, .move (.tmp 122), none⟩])
 (.seq
 (.region false [
 ⟨some 4, .assign (.const (.int .i64 0)), none⟩,
 ⟨some 5, .assign (.const (.bool false)), none⟩])
 .ret))))))))))))))))))))
 (.seq
 (.seq
 (.region false [
 ⟨some 123, .move (.tmp 7), none⟩,
 ⟨some 124, .un .not (.tmp 123), none⟩,
 ⟨some 125, .move (.tmp 124), none⟩,
 ⟨some 126, .move (.tmp 6), (some (125, false))⟩,
 ⟨some 127, .call true (.const (.fn 245 [])) [(.tmp 126)] [], (some (125, false))⟩,
 ⟨some 128, .un .not (.tmp 127), (some (125, false))⟩,
 ⟨some 129, .pick (.tmp 125) (.const (.bool true)) (.tmp 128), none⟩])
 (.cond (.tmp 129)
 (.seq
 (.region false [
 ⟨some 4, .assign (.const (.int .i64 0)), none⟩,
 ⟨some 5, .assign (.const (.bool false)), none⟩])
 .ret)
 .skip))
 (.seq
 (.region false [
 ⟨some 130, .move (.tmp 6), none⟩,
 ⟨some 4, .assign (.tmp 130), none⟩,
 ⟨some 5, .assign (.const (.bool true)), none⟩])
 .ret)))))) }
/-- purlin/heap.New -/
def tf234 : TFn := { ntmps := 4, results := [.tmp 0], body :=
 (.seq
 (.region false [
 ⟨some 0, .assign (.const .nilptr), none⟩])
 (.seq
 (.region false [
 ⟨some 1, .mkmap, none⟩,
 ⟨some 2, .build [.nilmap] [(0, 1, (.tmp 1))], none⟩,
 ⟨some 3, .new 1 (.tmp 2), none⟩,
 ⟨some 0, .assign (.tmp 3), none⟩])
 .ret)) }
/-- (*purlin/heap.Heap).Bind -/
def tf236 : TFn := { ntmps := 56, results := [.tmp 6], body :=
 (.seq
 (.region false [
 ⟨some 4, .box 2 (.tmp 1), none⟩,
 ⟨some 6, .assign (.const (.int .i64 0)), none⟩])
 (.seq
 (.seq
 (.region false [
 ⟨some 9, .move (.tmp 0), none⟩,
 ⟨some 10, .bin 2 .eql (.tmp 9) (.const .nilptr), none⟩])
 (.cond (.tmp 10)
 (.seq
 (.region false [
 ⟨some 6, .assign (.const (.int .i64 1)), none⟩])
 .ret)
 .skip))
 (.seq
 (.seq
 (.region false [
 ⟨some 11, .faddr (.tmp 4) 0, none⟩,
 ⟨some 12, .load false 1 (.tmp 11), none⟩,
 ⟨some 13, .bin 0 .lss (.tmp 12) (.const (.int .i64 0)), none⟩,
 ⟨some 14, .move (.tmp 13), none⟩,
 ⟨some 15, .load true 2 (.tmp 4), (some (14, false))⟩,
 ⟨some 16, .call true (.const (.fn 14 [])) [(.tmp 15)] [], (some (14, false))⟩,
 ⟨some 17, .len false (.tmp 16), (some (14, false))⟩,
 ⟨some 18, .bin 0 .eql (.tmp 17) (.const (.int .i64 0)), (some (14, false))⟩,
 ⟨some 19, .pick (.tmp 14) (.const (.bool true)) (.tmp 18), none⟩,
 ⟨some 20, .move (.tmp 19), none⟩,
 ⟨some 21, .move (.tmp 2), (some (20, false))⟩,
 ⟨some 22, .call true (.const (.fn 25 [])) [(.tmp 21)] [], (some (20, false))⟩,
 ⟨some 23, .un .not (.tmp 22), (some (20, false))⟩,
 ⟨some 24, .pick (.tmp 20) (.const (.bool true)) (.tmp 23), none⟩])
 (.cond (.tmp 24)
 (.seq
 (.region false [
 ⟨some 6, .assign (.const (.int .i64 6)), none⟩])
 .ret)
 .skip))
 (.seq
 (.seq
 (.region true [
 ⟨some 26, .move (.tmp 0), none⟩,
 ⟨some 27, .nilCheck (.tmp 26), none⟩,
 ⟨some 28, .faddr (.tmp 27) 0, none⟩,
 ⟨some 29, .load false 1 (.tmp 28), none⟩,
 ⟨some 30, .load true 2 (.tmp 4), none⟩,
 ⟨some 31, .lookup 5023 (.sl true 0 5 [] []) true (.tmp 29) (.tmp 30), none⟩,
 ⟨some 25, .move (.tmp 31), none⟩,
 ⟨some 32, .extract (.tmp 25) 0, none⟩,
 ⟨some 33, .extract (.tmp 25) 1, none⟩,
 ⟨some 7, .move (.tmp 32), none⟩,
 ⟨some 8, .move (.tmp 33), none⟩])
 (.seq
 (.region false [
 ⟨some 34, .move (.tmp 8), none⟩])
 (.cond (.tmp 34)
 (.seq
 (.region false [
 ⟨some 6, .assign (.const (.int .i64 70)), none⟩])
 .ret)
 .skip)))
 (.seq
 (.seq
 (.region true [
 ⟨some 35, .move (.tmp 2), none⟩,
 ⟨some 36, .idxAddr (.tmp 35) (.const (.int .i64 0)) 5, none⟩,
 ⟨some 37, .faddr (.tmp 36) 0, none⟩,
 ⟨some 38, .load false 1 (.tmp 37), none⟩,
 ⟨some 39, .bin 0 .eql (.tmp 38) (.const (.int .u8 4)), none⟩,
 ⟨some 40, .move (.tmp 39), none⟩,
 ⟨some 41, .move (.tmp 2), (some (40, true))⟩,
 ⟨some 42, .idxAddr (.tmp 41) (.const (.int .i64 0)) 5, (some (40, true))⟩,
 ⟨some 43, .faddr (.tmp 42) 3, (some (40, true))⟩,
 ⟨some 44, .load true 2 (.tmp 43), (some (40, true))⟩,
 ⟨some 45, .load true 2 (.tmp 4), (some (40, true))⟩,
 ⟨some 46, .call true (.const (.fn 0 [])) [(.tmp 44), (.tmp 45)] [], (some (40, true))⟩,
 ⟨some 47, .un .not (.tmp 46), (some (40, true))⟩,
 ⟨some 48, .pick (.tmp 40) (.tmp 47) (.const (.bool false)), none⟩])
 (.cond (.tmp 48)
 (.seq
 (.region false [
 ⟨some 6, .assign (.const (.int .i64 71)), none⟩])
 .ret)
 .skip))
 (.seq
 (.region true [
 ⟨some 49, .move (.tmp 0), none⟩,
 ⟨some 50, .nilCheck (.tmp 49), none⟩,
 ⟨some 51, .faddr (.tmp 50) 0, none⟩,
 ⟨some 52, .load false 1 (.tmp 51), none⟩,
 ⟨some 53, .load true 2 (.tmp 4), none⟩,
 ⟨some 54, .move (.tmp 2), none⟩,
 ⟨some 55, .call true (.const (.fn 39 [])) [(.tmp 54)] [], none⟩,
 ⟨none, .mapSet 5023 (.tmp 52) (.tmp 53) (.tmp 55), none⟩])
 (.seq
 (.region false [
 ⟨some 6, .assign (.const (.int .i64 0)), none⟩])
 .ret))))))) }
/-- purlin/arith.reckon -/
def tf238 : TFn := { ntmps := 102, results := [.cell 4 true 3], body :=
 (.seq
 (.region false [
 ⟨some 4, .box 3 (.const (.agg [.int .i64 0, .bool false, .sl true 0 2 [] []])), none⟩])
 (.seq
 (.seq
 (.region false [
 ⟨some 14, .move (.tmp 1), none⟩,
 ⟨some 15, .idxAddr (.tmp 14) (.const (.int .i64 0)) 5, none⟩,
 ⟨some 16, .load true 5 (.tmp 15), none⟩,
 ⟨some 5, .box 5 (.const (.agg [.int .u8 0, .str ⟨#[]⟩, .int .i64 0, .int .i64 0, .int .i64 0])), none⟩,
 ⟨none, .store 5 (.tmp 5) (.tmp 16), none⟩])
 (.block 0
 (.seq
 (.region false [
 ⟨some 18, .faddr (.tmp 5) 0, none⟩,
 ⟨some 19, .load false 1 (.tmp 18), none⟩,
 ⟨some 20, .bin 0 .eql (.tmp 19) (.const (.int .u8 1)), none⟩,
 ⟨some 17, .assign (.tmp 20), none⟩])
 (.cond (.tmp 17)
 (.seq
 (.region false [
 ⟨some 21, .faddr (.tmp 5) 2, none⟩,
 ⟨some 22, .load false 1 (.tmp 21), none⟩,
 ⟨some 23, .build [.int .i64 0, .bool false, .sl true 0 2 [] []] [(0, 1, (.tmp 22))], none⟩,
 ⟨none, .store 3 (.tmp 4) (.tmp 23), none⟩])
 .ret)
 (.seq
 (.region false [
 ⟨some 25, .faddr (.tmp 5) 0, none⟩,
 ⟨some 26, .load false 1 (.tmp 25), none⟩,
 ⟨some 27, .bin 0 .eql (.tmp 26) (.const (.int .u8 4)), none⟩,
 ⟨some 24, .assign (.tmp 27), none⟩])
 (.cond (.tmp 24)
 (.seq
 (.region false [
 ⟨some 28, .move (.tmp 0), none⟩,
 ⟨some 29, .move (.tmp 1), none⟩,
 ⟨some 30, .call true (.const (.fn 250 [])) [(.tmp 28), (.tmp 29)] [], none⟩,
 ⟨some 6, .assign (.tmp 30), none⟩])
 (.seq
 (.seq
 (.region false [
 ⟨some 31, .move (.tmp 6), none⟩,
 ⟨some 32, .idxAddr (.tmp 31) (.const (.int .i64 0)) 5, none⟩,
 ⟨some 33, .faddr (.tmp 32) 0, none⟩,
 ⟨some 34, .load false 1 (.tmp 33), none⟩])
 (.block 1
 (.seq
 (.region false [
 ⟨some 36, .bin 0 .eql (.tmp 34) (.const (.int .u8 1)), none⟩,
 ⟨some 35, .assign (.tmp 36), none⟩])
 (.cond (.tmp 35)
 (.seq
 (.region false [
 ⟨some 37, .move (.tmp 6), none⟩,
 ⟨some 38, .idxAddr (.tmp 37) (.const (.int .i64 0)) 5, none⟩,
 ⟨some 39, .faddr (.tmp 38) 2, none⟩,
 ⟨some 40, .load false 1 (.tmp 39), none⟩,
 ⟨some 41, .build [.int .i64 0, .bool false, .sl true 0 2 [] []] [(0, 1, (.tmp 40))], none⟩,
 ⟨none, .store 3 (.tmp 4) (.tmp 41), none⟩])
 .ret)
 (.seq
 (.region false [
 ⟨some 43, .bin 0 .eql (.tmp 34) (.const (.int .u8 4)), none⟩,
 ⟨some 42, .assign (.tmp 43), none⟩])
 (.cond (.tmp 42)
 (.seq
 (.region false [
 ⟨some 44, .move (.tmp 6), none⟩,
 ⟨some 45, .idxAddr (.tmp 44) (.const (.int .i64 0)) 5, none⟩,
 ⟨some 46, .faddr (.tmp 45) 3, none⟩,
 ⟨some 47, .load true 2 (.tmp 46), none⟩,
 ⟨some 48, .buildSlice 1 2 [.int .i64 0, .int .i64 0] [(0, (.tmp 47))], none⟩,
 ⟨some 49, .build [.int .i64 0, .bool false, .sl true 0 2 [] []] [(2, 1, (.tmp 48))], none⟩,
 ⟨none, .store 3 (.tmp 4) (.tmp 49), none⟩])
 .ret)
 .skip))))))
 (.seq
 (.region false [
 ⟨some 50, .build [.int .i64 0, .bool false, .sl true 0 2 [] []] [(1, 1, (.const (.bool true)))], none⟩,
 ⟨none, .store 3 (.tmp 4) (.tmp 50), none⟩])
 .ret)))
 (.seq
 (.region false [
 ⟨some 52, .load true 5 (.tmp 5), none⟩,
 ⟨some 53, .call true (.const (.fn 261 [])) [(.tmp 52)] [], none⟩,
 ⟨some 54, .un .not (.tmp 53), none⟩,
 ⟨some 51, .assign (.tmp 54), none⟩])
 (.cond (.tmp 51)
 (.seq
 (.region false [
 ⟨some 55, .build [.int .i64 0, .bool false, .sl true 0 2 [] []] [(1, 1, (.const (.bool true)))], none⟩,
 ⟨none, .store 3 (.tmp 4) (.tmp 55), none⟩])
 .ret)
 .skip))))))))
 (.seq
 (.region false [
 ⟨some 7, .box 3 (.const (.agg [.int .i64 0, .bool false, .sl true 0 2 [] []])), none⟩])
 (.seq
 (.region false [
 ⟨some 8, .assign (.const (.sl true 0 1 [] [])), none⟩])
 (.seq
 (.seq
 (.region false [
 ⟨some 56, .move (.tmp 1), none⟩,
 ⟨some 57, .call true (.const (.fn 17 [])) [(.tmp 56)] [], none⟩,
 ⟨some 58, .len false (.tmp 57), none⟩,
 ⟨some 59, .move (.const (.int .i64 0)), none⟩])
 (.block 2
 (.loop [0, 1, 4, 7, 8, 57, 58, 59]
 (.seq
 (.region false [
 ⟨some 60, .bin 0 .lss (.tmp 59) (.tmp 58), none⟩])
 (.seq
 (.cond (.tmp 60)
 .skip
 (.exit 2))
 (.seq
 (.block 3
 (.seq
 (.region false [
 ⟨some 61, .idxAddr (.tmp 57) (.tmp 59) 1, none⟩,
 ⟨some 62, .load false 1 (.tmp 61), none⟩,
 ⟨some 10, .assign (.tmp 62), none⟩])
 (.seq
 (.region false [
 ⟨some 63, .move (.tmp 0), none⟩,
 ⟨some 64, .move (.tmp 10), none⟩,
 ⟨some 65, .call true (.const (.fn 238 [])) [(.tmp 63), (.tmp 64)] [], none⟩,
 ⟨some 11, .box 3 (.const (.agg [.int .i64 0, .bool false, .sl true 0 2 [] []])), none⟩,
 ⟨none, .store 3 (.tmp 11) (.tmp 65), none⟩])
 (.seq
 (.region false [
 ⟨some 66, .faddr (.tmp 7) 1, none⟩,
 ⟨some 67, .load false 1 (.tmp 66), none⟩,
 ⟨some 68, .move (.tmp 67), none⟩,
 ⟨some 69, .faddr (.tmp 11) 1, (some (68, false))⟩,
 ⟨some 70, .load false 1 (.tmp 69), (some (68, false))⟩,
 ⟨some 71, .pick (.tmp 68) (.const (.bool true)) (.tmp 70), none⟩,
 ⟨some 72, .faddr (.tmp 7) 1, none⟩,
 ⟨none, .store 1 (.tmp 72) (.tmp 71), none⟩])
 (.seq
 (.region false [
 ⟨some 73, .faddr (.tmp 7) 2, none⟩,
 ⟨some 74, .load false 1 (.tmp 73), none⟩,
 ⟨some 75, .faddr (.tmp 11) 2, none⟩,
 ⟨some 76, .load false 1 (.tmp 75), none⟩,
 ⟨some 77, .call true (.const (.fn 254 [])) [(.tmp 74), (.tmp 76)] [0], none⟩,
 ⟨some 78, .faddr (.tmp 7) 2, none⟩,
 ⟨none, .store 1 (.tmp 78) (.tmp 77), none⟩])
 (.region false [
 ⟨some 79, .move (.tmp 8), none⟩,
 ⟨some 80, .faddr (.tmp 11) 0, none⟩,
 ⟨some 81, .load false 1 (.tmp 80), none⟩,
 ⟨some 82, .buildSlice 1 1 [.int .i64 0] [(0, (.tmp 81))], none⟩,
 ⟨some 83, .append 1 8 (.tmp 79) (.tmp 82), none⟩,
 ⟨some 8, .assign (.tmp 83), none⟩]))))))
 (.region false [
 ⟨some 84, .bin 0 .add (.tmp 59) (.const (.int .i64 1)), none⟩,
 ⟨some 59, .move (.tmp 84), none⟩])))))))
 (.seq
 (.seq
 (.region false [
 ⟨some 85, .load true 3 (.tmp 7), none⟩,
 ⟨some 86, .call true (.const (.fn 239 [])) [(.tmp 85)] [], none⟩,
 ⟨some 87, .bin 0 .neq (.tmp 86) (.const (.int .u8 1)), none⟩])
 (.cond (.tmp 87)
 (.seq
 (.region false [
 ⟨some 88, .load true 3 (.tmp 7), none⟩,
 ⟨none, .store 3 (.tmp 4) (.tmp 88), none⟩])
 .ret)
 .skip))
 (.seq
 (.region false [
 ⟨some 90, .move (.tmp 1), none⟩,
 ⟨some 91, .idxAddr (.tmp 90) (.const (.int .i64 0)) 5, none⟩,
 ⟨some 92, .faddr (.tmp 91) 1, none⟩,
 ⟨some 93, .load false 1 (.tmp 92), none⟩,
 ⟨some 94, .move (.tmp 8), none⟩,
 ⟨some 95, .call true (.const (.fn 222 [])) [(.tmp 93), (.tmp 94)] [], none⟩,
 ⟨some 89, .move (.tmp 95), none⟩,
 ⟨some 96, .extract (.tmp 89) 0, none⟩,
 ⟨some 97, .extract (.tmp 89) 1, none⟩,
 ⟨some 12, .assign (.tmp 96), none⟩,
 ⟨some 13, .assign (.tmp 97), none⟩])
 (.seq
 (.region false [
 ⟨some 98, .move (.tmp 12), none⟩,
 ⟨some 99, .move (.tmp 13), none⟩,
 ⟨some 100, .un .not (.tmp 99), none⟩,
 ⟨some 101, .build [.int .i64 0, .bool false, .sl true 0 2 [] []] [(0, 1, (.tmp 98)), (1, 1, (.tmp 100))], none⟩,
 ⟨none, .store 3 (.tmp 4) (.tmp 101), none⟩])
 .ret)))))))) }
/-- (purlin/arith.sum).outcome -/
def tf239 : TFn := { ntmps := 11, results := [.tmp 2], body :=
 (.seq
 (.region false [
 ⟨some 1, .box 3 (.tmp 0), none⟩,
 ⟨some 2, .assign (.const (.int .u8 0)), none⟩])
 (.seq
 (.block 0
 (.seq
 (.region false [
 ⟨some 4, .faddr (.tmp 1) 1, none⟩,
 ⟨some 5, .load false 1 (.tmp 4), none⟩,
 ⟨some 3, .assign (.tmp 5), none⟩])
 (.cond (.tmp 3)
 (.seq
 (.region false [
 ⟨some 2, .assign (.const (.int .u8 2)), none⟩])
 .ret)
 (.seq
 (.region false [
 ⟨some 7, .faddr (.tmp 1) 2, none⟩,
 ⟨some 8, .load false 1 (.tmp 7), none⟩,
 ⟨some 9, .len false (.tmp 8), none⟩,
 ⟨some 10, .bin 0 .gtr (.tmp 9) (.const (.int .i64 0)), none⟩,
 ⟨some 6, .assign (.tmp 10), none⟩])
 (.cond (.tmp 6)
 (.seq
 (.region false [
 ⟨some 2, .assign (.const (.int .u8 3)), none⟩])
 .ret)
 .skip)))))
 (.seq
 (.region false [
 ⟨some 2, .assign (.const (.int .u8 1)), none⟩])
 .ret))) }
/-- slices.ContainsFunc[[]int,int] -/
def tf241 : TFn := { ntmps := 9, results := [.tmp 4], body :=
 (.seq
 (.region false [
 ⟨some 4, .assign (.const (.bool false)), none⟩])
 (.seq
 (.region false [
 ⟨some 5, .move (.tmp 0), none⟩,
 ⟨some 6, .move (.tmp 1), none⟩,
 ⟨some 7, .call true (.const (.fn 263 [])) [(.tmp 5), (.tmp 6)] [], none⟩,
 ⟨some 8, .bin 0 .geq (.tmp 7) (.const (.int .i64 0)), none⟩,
 ⟨some 4, .assign (.tmp 8), none⟩])
 .ret)) }
/-- purlin/arith.Reckon$1 -/
def tf242 : TFn := { ntmps := 6, results := [.tmp 2], body :=
 (.seq
 (.region false [
 ⟨some 2, .assign (.const (.bool false)), none⟩])
 (.seq
 (.region false [
 ⟨some 3, .move (.tmp 0), none⟩,
 ⟨some 4, .call true (.const (.fn 245 [])) [(.tmp 3)] [], none⟩,
 ⟨some 5, .un .not (.tmp 4), none⟩,
 ⟨some 2, .assign (.tmp 5), none⟩])
 .ret)) }
/-- purlin/arith.product -/
def tf243 : TFn := { ntmps := 28, results := [.tmp 4, .tmp 5], body :=
 (.seq
 (.region false [
 ⟨some 4, .assign (.const (.int .i64 0)), none⟩,
 ⟨some 5, .assign (.const (.bool false)), none⟩])
 (.seq
 (.region false [
 ⟨some 6, .assign (.const (.fn 264 [])), none⟩])
 (.seq
 (.region false [
 ⟨some 10, .move (.tmp 6), none⟩,
 ⟨some 11, .move (.tmp 0), none⟩,
 ⟨some 12, .call true (.tmp 10) [(.tmp 11)] [], none⟩,
 ⟨some 13, .move (.tmp 6), none⟩,
 ⟨some 14, .move (.tmp 1), none⟩,
 ⟨some 15, .call true (.tmp 13) [(.tmp 14)] [], none⟩,
 ⟨some 16, .call true (.const (.fn 265 [])) [(.tmp 12), (.tmp 15)] [], none⟩,
 ⟨some 9, .move (.tmp 16), none⟩,
 ⟨some 17, .extract (.tmp 9) 0, none⟩,
 ⟨some 18, .extract (.tmp 9) 1, none⟩,
 ⟨some 7, .assign (.tmp 17), none⟩,
 ⟨some 8, .assign (.tmp 18), none⟩])
 (.seq
 (.seq
 (.region false [
 ⟨some 19, .move (.tmp 7), none⟩,
 ⟨some 20, .bin 0 .gtr (.tmp 19) (.const (.int .u64 0)), none⟩,
 ⟨some 21, .move (.tmp 20), none⟩,
 ⟨some 22, .move (.tmp 8), (some (21, false))⟩,
 ⟨some 23, .bin 0 .gtr (.tmp 22) (.const (.int .u64 2147483648)), (some (21, false))⟩,
 ⟨some 24, .pick (.tmp 21) (.const (.bool true)) (.tmp 23), none⟩])
 (.cond (.tmp 24)
 (.seq
 (.region false [
 ⟨some 4, .assign (.const (.int .i64 0)), none⟩,
 ⟨some 5, .assign (.const (.bool false)), none⟩])
 .ret)
 .skip))
 (.seq
 (.region false [
 ⟨some 25, .move (.tmp 0), none⟩,
 ⟨some 26, .move (.tmp 1), none⟩,
 ⟨some 27, .bin 0 .mul (.tmp 25) (.tmp 26), none⟩,
 ⟨some 4, .assign (.tmp 27), none⟩,
 ⟨some 5, .assign (.const (.bool true)), none⟩])
 .ret))))) }
/-- purlin/arith.floor -/
def tf244 : TFn := { ntmps := 23, results := [.tmp 4], body :=
 (.seq
 (.region false [
 ⟨some 4, .assign (.const (.int .i64 0)), none⟩])
 (.seq
 (.region false [
 ⟨some 6, .move (.tmp 0), none⟩,
 ⟨some 7, .move (.tmp 1), none⟩,
 ⟨some 8, .bin 0 .quo (.tmp 6) (.tmp 7), none⟩,
 ⟨some 5, .assign (.tmp 8), none⟩])
 (.seq
 (.seq
 (.region false [
 ⟨some 9, .move (.tmp 0), none⟩,
 ⟨some 10, .move (.tmp 1), none⟩,
 ⟨some 11, .bin 0 .rem (.tmp 9) (.tmp 10), none⟩,
 ⟨some 12, .bin 0 .neq (.tmp 11) (.const (.int .i64 0)), none⟩,
 ⟨some 13, .move (.tmp 12), none⟩,
 ⟨some 14, .move (.tmp 0), (some (13, true))⟩,
 ⟨some 15, .bin 0 .lss (.tmp 14) (.const (.int .i64 0)), (some (13, true))⟩,
 ⟨some 16, .move (.tmp 1), (some (13, true))⟩,
 ⟨some 17, .bin 0 .lss (.tmp 16) (.const (.int .i64 0)), (some (13, true))⟩,
 ⟨some 18, .bin 1 .neq (.tmp 15) (.tmp 17), (some (13, true))⟩,
 ⟨some 19, .pick (.tmp 13) (.tmp 18) (.const (.bool false)), none⟩])
 (.cond (.tmp 19)
 (.region false [
 ⟨some 20, .move (.tmp 5), none⟩,
 ⟨some 21, .bin 0 .sub (.tmp 20) (.const (.int .i64 1)), none⟩,
 ⟨some 5, .assign (.tmp 21), none⟩])
 .skip))
 (.seq
 (.region false [
 ⟨some 22, .move (.tmp 5), none⟩,
 ⟨some 4, .assign (.tmp 22), none⟩])
 .ret)))) }
/-- purlin/arith.may -/
def tf245 : TFn := { ntmps := 9, results := [.tmp 2], body :=
 (.seq
 (.region false [
 ⟨some 2, .assign (.const (.bool false)), none⟩])
 (.seq
 (.region false [
 ⟨some 3, .move (.tmp 0), none⟩,
 ⟨some 4, .bin 0 .geq (.tmp 3) (.const (.int .i64 (-2147483648))), none⟩,
 ⟨some 5, .move (.tmp 4), none⟩,
 ⟨some 6, .move (.tmp 0), (some (5, true))⟩,
 ⟨some 7, .bin 0 .leq (.tmp 6) (.const (.int .i64 2147483648)), (some (5, true))⟩,
 ⟨some 8, .pick (.tmp 5) (.tmp 7) (.const (.bool false)), none⟩,
 ⟨some 2, .assign (.tmp 8), none⟩])
 .ret)) }
/-- (*purlin/heap.Heap).Deref -/
def tf250 : TFn := { ntmps := 9, results := [.tmp 4], body :=
 (.seq
 (.region false [
 ⟨some 4, .assign (.const (.sl true 0 5 [] [])), none⟩])
 (.seq
 (.region false [
 ⟨some 5, .move (.tmp 0), none⟩,
 ⟨some 6, .move (.tmp 1), none⟩,
 ⟨some 7, .call true (.const (.fn 267 [])) [(.tmp 5), (.tmp 6)] [], none⟩,
 ⟨some 8, .call true (.const (.fn 39 [])) [(.tmp 7)] [], none⟩,
 ⟨some 4, .assign (.tmp 8), none⟩])
 .ret)) }
/-- (*purlin/heap.Heap).value -/
def tf253 : TFn := { ntmps := 21, results := [.tmp 4, .tmp 5], body :=
 (.seq
 (.region false [
 ⟨some 3, .box 2 (.tmp 1), none⟩,
 ⟨some 4, .assign (.const (.sl true 0 5 [] [])), none⟩,
 ⟨some 5, .assign (.const (.bool false)), none⟩])
 (.seq
 (.seq
 (.region false [
 ⟨some 8, .move (.tmp 0), none⟩,
 ⟨some 9, .bin 2 .eql (.tmp 8) (.const .nilptr), none⟩])
 (.cond (.tmp 9)
 (.seq
 (.region false [
 ⟨some 4, .assign (.const (.sl true 0 5 [] [])), none⟩,
 ⟨some 5, .assign (.const (.bool false)), none⟩])
 .ret)
 .skip))
 (.seq
 (.region true [
 ⟨some 11, .move (.tmp 0), none⟩,
 ⟨some 12, .nilCheck (.tmp 11), none⟩,
 ⟨some 13, .faddr (.tmp 12) 0, none⟩,
 ⟨some 14, .load false 1 (.tmp 13), none⟩,
 ⟨some 15, .load true 2 (.tmp 3), none⟩,
 ⟨some 16, .lookup 5023 (.sl true 0 5 [] []) true (.tmp 14) (.tmp 15), none⟩,
 ⟨some 10, .move (.tmp 16), none⟩,
 ⟨some 17, .extract (.tmp 10) 0, none⟩,
 ⟨some 18, .extract (.tmp 10) 1, none⟩,
 ⟨some 6, .move (.tmp 17), none⟩,
 ⟨some 7, .move (.tmp 18), none⟩])
 (.seq
 (.region false [
 ⟨some 19, .move (.tmp 6), none⟩,
 ⟨some 20, .move (.tmp 7), none⟩,
 ⟨some 4, .assign (.tmp 19), none⟩,
 ⟨some 5, .assign (.tmp 20), none⟩])
 .ret)))) }
/-- purlin/arith.more -/
def tf254 : TFn := { ntmps := 23, results := [.tmp 4], body :=
 (.seq
 (.region false [
 ⟨some 4, .assign (.const (.sl true 0 2 [] [])), none⟩])
 (.seq
 (.seq
 (.region false [
 ⟨some 7, .move (.tmp 1), none⟩,
 ⟨some 8, .len false (.tmp 7), none⟩,
 ⟨some 9, .move (.const (.int .i64 0)), none⟩])
 (.block 0
 (.loop [0, 7, 8, 9]
 (.seq
 (.region false [
 ⟨some 10, .bin 0 .lss (.tmp 9) (.tmp 8), none⟩])
 (.seq
 (.cond (.tmp 10)
 .skip
 (.exit 0))
 (.seq
 (.block 1
 (.seq
 (.region false [
 ⟨some 11, .idxAddr (.tmp 7) (.tmp 9) 2, none⟩,
 ⟨some 12, .load true 2 (.tmp 11), none⟩,
 ⟨some 6, .box 2 (.const (.agg [.int .i64 0, .int .i64 0])), none⟩,
 ⟨none, .store 2 (.tmp 6) (.tmp 12), none⟩])
 (.seq
 (.region false [
 ⟨some 13, .move (.tmp 0), none⟩,
 ⟨some 14, .load true 2 (.tmp 6), none⟩,
 ⟨some 15, .call true (.const (.fn 42 [])) [(.tmp 13), (.tmp 14)] [], none⟩,
 ⟨some 16, .un .not (.tmp 15), none⟩])
 (.cond (.tmp 16)
 (.region false [
 ⟨some 17, .move (.tmp 0), none⟩,
 ⟨some 18, .load true 2 (.tmp 6), none⟩,
 ⟨some 19, .buildSlice 1 2 [.int .i64 0, .int .i64 0] [(0, (.tmp 18))], none⟩,
 ⟨some 20, .append 2 16 (.tmp 17) (.tmp 19), none⟩,
 ⟨some 0, .assign (.tmp 20), none⟩])
 .skip))))
 (.region false [
 ⟨some 21, .bin 0 .add (.tmp 9) (.const (.int .i64 1)), none⟩,
 ⟨some 9, .move (.tmp 21), none⟩])))))))
 (.seq
 (.region false [
 ⟨some 22, .move (.tmp 0), none⟩,
 ⟨some 4, .assign (.tmp 22), none⟩])
 .ret))) }
/-- purlin/arith.isOp -/
def tf261 : TFn := { ntmps := 25, results := [.tmp 2], body :=
 (.seq
 (.region false [
 ⟨some 1, .box 5 (.tmp 0), none⟩,
 ⟨some 2, .assign (.const (.bool false)), none⟩])
 (.seq
 (.seq
 (.region false [
 ⟨some 3, .faddr (.tmp 1) 0, none⟩,
 ⟨some 4, .load false 1 (.tmp 3), none⟩,
 ⟨some 5, .bin 0 .neq (.tmp 4) (.const (.int .u8 3)), none⟩])
 (.cond (.tmp 5)
 (.seq
 (.region false [
 ⟨some 2, .assign (.const (.bool false)), none⟩])
 .ret)
 .skip))
 (.seq
 (.region false [
 ⟨some 6, .faddr (.tmp 1) 2, none⟩,
 ⟨some 7, .load false 1 (.tmp 6), none⟩,
 ⟨some 8, .bin 0 .eql (.tmp 7) (.const (.int .i64 1)), none⟩,
 ⟨some 9, .move (.tmp 8), none⟩,
 ⟨some 10, .faddr (.tmp 1) 1, (some (9, true))⟩,
 ⟨some 11, .load false 1 (.tmp 10), (some (9, true))⟩,
 ⟨some 12, .bin 0 .eql (.tmp 11) (.const (.str ⟨#[97, 98, 115]⟩)), (some (9, true))⟩,
 ⟨some 13, .pick (.tmp 9) (.tmp 12) (.const (.bool false)), none⟩,
 ⟨some 14, .move (.tmp 13), none⟩,
 ⟨some 15, .faddr (.tmp 1) 2, (some (14, false))⟩,
 ⟨some 16, .load false 1 (.tmp 15), (some (14, false))⟩,
 ⟨some 17, .bin 0 .eql (.tmp 16) (.const (.int .i64 2)), (some (14, false))⟩,
 ⟨some 18, .move (.tmp 17), (some (14, false))⟩,
 ⟨some 19, .buildSlice 7 1 [.str ⟨#[]⟩] [(0, (.const (.str ⟨#[43]⟩))), (1, (.const (.str ⟨#[45]⟩))), (2, (.const (.str ⟨#[42]⟩))), (3, (.const (.str ⟨#[100, 105, 118]⟩))), (4, (.const (.str ⟨#[109, 111, 100]⟩))), (5, (.const (.str ⟨#[109, 105, 110]⟩))), (6, (.const (.str ⟨#[109, 97, 120]⟩)))], (some (18, true))⟩,
 ⟨some 20, .faddr (.tmp 1) 1, (some (18, true))⟩,
 ⟨some 21, .load false 1 (.tmp 20), (some (18, true))⟩,
 ⟨some 22, .call true (.const (.fn 248 [])) [(.tmp 19), (.tmp 21)] [], (some (18, true))⟩,
 ⟨some 23, .pick (.tmp 18) (.tmp 22) (.const (.bool false)), (some (14, false))⟩,
 ⟨some 24, .pick (.tmp 14) (.const (.bool true)) (.tmp 23), none⟩,
 ⟨some 2, .assign (.tmp 24), none⟩])
 .ret))) }
/-- slices.IndexFunc[[]int,int] -/
def tf263 : TFn := { ntmps := 19, results := [.tmp 4], body :=
 (.seq
 (.region false [
 ⟨some 4, .assign (.const (.int .i64 0)), none⟩])
 (.seq
 (.seq
 (.region false [
 ⟨some 6, .move (.tmp 0), none⟩,
 ⟨some 7, .len false (.tmp 6), none⟩,
 ⟨some 8, .move (.const (.int .i64 0)), none⟩])
 (.block 0
 (.loop [0, 1, 7, 8]
 (.seq
 (.region false [
 ⟨some 9, .bin 0 .lss (.tmp 8) (.tmp 7), none⟩])
 (.seq
 (.cond (.tmp 9)
 .skip
 (.exit 0))
 (.seq
 (.block 1
 (.seq
 (.region false [
 ⟨some 10, .move (.tmp 8), none⟩,
 ⟨some 5, .assign (.tmp 10), none⟩])
 (.seq
 (.region false [
 ⟨some 11, .move (.tmp 1), none⟩,
 ⟨some 12, .move (.tmp 0), none⟩,
 ⟨some 13, .move (.tmp 5), none⟩,
 ⟨some 14, .idxAddr (.tmp 12) (.tmp 13) 1, none⟩,
 ⟨some 15, .load false 1 (.tmp 14), none⟩,
 ⟨some 16, .call true (.tmp 11) [(.tmp 15)] [], none⟩])
 (.cond (.tmp 16)
 (.seq
 (.region false [
 ⟨some 17, .move (.tmp 5), none⟩,
 ⟨some 4, .assign (.tmp 17), none⟩])
 .ret)
 .skip))))
 (.region false [
 ⟨some 18, .bin 0 .add (.tmp 8) (.const (.int .i64 1)), none⟩,
 ⟨some 8, .move (.tmp 18), none⟩])))))))
 (.seq
 (.region false [
 ⟨some 4, .assign (.const (.int .i64 (-1))), none⟩])
 .ret))) }
/-- purlin/arith.product$1 -/
def tf264 : TFn := { ntmps := 8, results := [.tmp 2], body :=
 (.seq
 (.region false [
 ⟨some 2, .assign (.const (.int .u64 0)), none⟩])
 (.seq
 (.region false [
 ⟨some 3, .move (.tmp 0), none⟩,
 ⟨some 4, .move (.tmp 0), none⟩,
 ⟨some 5, .un .neg (.tmp 4), none⟩,
 ⟨some 6, .minmax true (.tmp 3) (.tmp 5), none⟩,
 ⟨some 7, .conv .u64 (.tmp 6), none⟩,
 ⟨some 2, .assign (.tmp 7), none⟩])
 .ret)) }
/-- math/bits.Mul64 -/
def tf265 : TFn := { ntmps := 51, results := [.tmp 4, .tmp 5], body :=
 (.seq
 (.region false [
 ⟨some 4, .assign (.const (.int .u64 0)), none⟩,
 ⟨some 5, .assign (.const (.int .u64 0)), none⟩])
 (.seq
 (.region false [
 ⟨some 14, .move (.tmp 0), none⟩,
 ⟨some 15, .bin 0 .and (.tmp 14) (.const (.int .u64 4294967295)), none⟩,
 ⟨some 6, .assign (.tmp 15), none⟩])
 (.seq
 (.region false [
 ⟨some 16, .move (.tmp 0), none⟩,
 ⟨some 17, .bin 0 .shr (.tmp 16) (.const (.int .u64 32)), none⟩,
 ⟨some 7, .assign (.tmp 17), none⟩])
 (.seq
 (.region false [
 ⟨some 18, .move (.tmp 1), none⟩,
 ⟨some 19, .bin 0 .and (.tmp 18) (.const (.int .u64 4294967295)), none⟩,
 ⟨some 8, .assign (.tmp 19), none⟩])
 (.seq
 (.region false [
 ⟨some 20, .move (.tmp 1), none⟩,
 ⟨some 21, .bin 0 .shr (.tmp 20) (.const (.int .u64 32)), none⟩,
 ⟨some 9, .assign (.tmp 21), none⟩])
 (.seq
 (.region false [
 ⟨some 22, .move (.tmp 6), none⟩,
 ⟨some 23, .move (.tmp 8), none⟩,
 ⟨some 24, .bin 0 .mul (.tmp 22) (.tmp 23), none⟩,
 ⟨some 10, .assign (.tmp 24), none⟩])
 (.seq
 (.region false [
 ⟨some 25, .move (.tmp 7), none⟩,
 ⟨some 26, .move (.tmp 8), none⟩,
 ⟨some 27, .bin 0 .mul (.tmp 25) (.tmp 26), none⟩,
 ⟨some 28, .move (.tmp 10), none⟩,
 ⟨some 29, .bin 0 .shr (.tmp 28) (.const (.int .u64 32)), none⟩,
 ⟨some 30, .bin 0 .add (.tmp 27) (.tmp 29), none⟩,
 ⟨some 11, .assign (.tmp 30), none⟩])
 (.seq
 (.region false [
 ⟨some 31, .move (.tmp 11), none⟩,
 ⟨some 32, .bin 0 .and (.tmp 31) (.const (.int .u64 4294967295)), none⟩,
 ⟨some 12, .assign (.tmp 32), none⟩])
 (.seq
 (.region false [
 ⟨some 33, .move (.tmp 11), none⟩,
 ⟨some 34, .bin 0 .shr (.tmp 33) (.const (.int .u64 32)), none⟩,
 ⟨some 13, .assign (.tmp 34), none⟩])
 (.seq
 (.region false [
 ⟨some 35, .move (.tmp 12), none⟩,
 ⟨some 36, .move (.tmp 6), none⟩,
 ⟨some 37, .move (.tmp 9), none⟩,
 ⟨some 38, .bin 0 .mul (.tmp 36) (.tmp 37), none⟩,
 ⟨some 39, .bin 0 .add (.tmp 35) (.tmp 38), none⟩,
 ⟨some 12, .assign (.tmp 39), none⟩])
 (.seq
 (.region false [
 ⟨some 40, .move (.tmp 7), none⟩,
 ⟨some 41, .move (.tmp 9), none⟩,
 ⟨some 42, .bin 0 .mul (.tmp 40) (.tmp 41), none⟩,
 ⟨some 43, .move (.tmp 13), none⟩,
 ⟨some 44, .bin 0 .add (.tmp 42) (.tmp 43), none⟩,
 ⟨some 45, .move (.tmp 12), none⟩,
 ⟨some 46, .bin 0 .shr (.tmp 45) (.const (.int .u64 32)), none⟩,
 ⟨some 47, .bin 0 .add (.tmp 44) (.tmp 46), none⟩,
 ⟨some 4, .assign (.tmp 47), none⟩])
 (.seq
 (.region false [
 ⟨some 48, .move (.tmp 0), none⟩,
 ⟨some 49, .move (.tmp 1), none⟩,
 ⟨some 50, .bin 0 .mul (.tmp 48) (.tmp 49), none⟩,
 ⟨some 5, .assign (.tmp 50), none⟩])
 .ret)))))))))))) }
/-- (*purlin/heap.Heap).follow -/
def tf267 : TFn := { ntmps := 22, results := [.tmp 4], body :=
 (.seq
 (.region false [
 ⟨some 4, .assign (.const (.sl true 0 5 [] [])), none⟩])
 (.seq
 (.seq
 (.region false [
 ⟨some 8, .move (.tmp 0), none⟩,
 ⟨some 9, .move (.tmp 1), none⟩,
 ⟨some 10, .call true (.const (.fn 271 [])) [(.tmp 8), (.tmp 9)] [], none⟩,
 ⟨some 7, .move (.tmp 10), none⟩,
 ⟨some 11, .extract (.tmp 7) 0, none⟩,
 ⟨some 12, .extract (.tmp 7) 1, none⟩,
 ⟨some 5, .assign (.tmp 11), none⟩,
 ⟨some 6, .assign (.tmp 12), none⟩])
 (.block 0
 (.loop [0, 1, 5, 6]
 (.seq
 (.seq
 (.region false [
 ⟨some 13, .move (.tmp 6), none⟩])
 (.cond (.tmp 13)
 .skip
 (.exit 0)))
 (.seq
 (.block 1
 (.region false [
 ⟨some 20, .move (.tmp 5), none⟩,
 ⟨some 1, .assign (.tmp 20), none⟩]))
 (.region false [
 ⟨some 15, .move (.tmp 0), none⟩,
 ⟨some 16, .move (.tmp 1), none⟩,
 ⟨some 17, .call true (.const (.fn 271 [])) [(.tmp 15), (.tmp 16)] [], none⟩,
 ⟨some 14, .move (.tmp 17), none⟩,
 ⟨some 18, .extract (.tmp 14) 0, none⟩,
 ⟨some 19, .extract (.tmp 14) 1, none⟩,
 ⟨some 5, .assign (.tmp 18), none⟩,
 ⟨some 6, .assign (.tmp 19), none⟩]))))))
 (.seq
 (.region false [
 ⟨some 21, .move (.tmp 1), none⟩,
 ⟨some 4, .assign (.tmp 21), none⟩])
 .ret))) }
/-- (*purlin/heap.Heap).next -/
def tf271 : TFn := { ntmps := 24, results := [.tmp 4, .tmp 5], body :=
 (.seq
 (.region false [
 ⟨some 4, .assign (.const (.sl true 0 5 [] [])), none⟩,
 ⟨some 5, .assign (.const (.bool false)), none⟩])
 (.seq
 (.seq
 (.region false [
 ⟨some 6, .move (.tmp 1), none⟩,
 ⟨some 7, .len false (.tmp 6), none⟩,
 ⟨some 8, .bin 0 .neq (.tmp 7) (.const (.int .i64 1)), none⟩,
 ⟨some 9, .move (.tmp 8), none⟩,
 ⟨some 10, .move (.tmp 1), (some (9, false))⟩,
 ⟨some 11, .idxAddr (.tmp 10) (.const (.int .i64 0)) 5, (some (9, false))⟩,
 ⟨some 12, .faddr (.tmp 11) 0, (some (9, false))⟩,
 ⟨some 13, .load false 1 (.tmp 12), (some (9, false))⟩,
 ⟨some 14, .bin 0 .neq (.tmp 13) (.const (.int .u8 4)), (some (9, false))⟩,
 ⟨some 15, .pick (.tmp 9) (.const (.bool true)) (.tmp 14), none⟩])
 (.cond (.tmp 15)
 (.seq
 (.region false [
 ⟨some 4, .assign (.const (.sl true 0 5 [] [])), none⟩,
 ⟨some 5, .assign (.const (.bool false)), none⟩])
 .ret)
 .skip))
 (.seq
 (.region false [
 ⟨some 16, .move (.tmp 0), none⟩,
 ⟨some 17, .move (.tmp 1), none⟩,
 ⟨some 18, .idxAddr (.tmp 17) (.const (.int .i64 0)) 5, none⟩,
 ⟨some 19, .faddr (.tmp 18) 3, none⟩,
 ⟨some 20, .load true 2 (.tmp 19), none⟩,
 ⟨some 21, .call true (.const (.fn 253 [])) [(.tmp 16), (.tmp 20)] [], none⟩,
 ⟨some 22, .extract (.tmp 21) 0, none⟩,
 ⟨some 23, .extract (.tmp 21) 1, none⟩,
 ⟨some 4, .assign (.tmp 22), none⟩,
 ⟨some 5, .assign (.tmp 23), none⟩])
 .ret))) }
def fnTable6 : List (Nat × TFn) := [(217, tf217), (222, tf222), (234, tf234), (236, tf236), (238, tf238), (239, tf239), (241, tf241), (242, tf242), (243, tf243), (244, tf244), (245, tf245), (250, tf250), (253, tf253), (254, tf254), (261, tf261), (263, tf263), (264, tf264), (265, tf265), (267, tf267), (271, tf271)]
end Tree
