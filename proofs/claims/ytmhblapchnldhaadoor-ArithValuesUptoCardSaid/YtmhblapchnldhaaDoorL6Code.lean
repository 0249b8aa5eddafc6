/- Layer 6: the program's functions as E-code. -/
import Derived.Test.YtmhblapchnldhaaDoorHCode
set_option autoImplicit false
namespace Tree
open Go
/-- purlin/purlinmem.SameNames -/
def tf162 : TFn := { ntmps := 26, results := [.tmp 4], body :=
 (.seq
 (.region false [
 ⟨some 4, .assign (.const (.bool false)), none⟩])
 (.seq
 (.seq
 (.region false [
 ⟨some 6, .move (.tmp 0), none⟩,
 ⟨some 7, .len false (.tmp 6), none⟩,
 ⟨some 8, .move (.tmp 1), none⟩,
 ⟨some 9, .len false (.tmp 8), none⟩,
 ⟨some 10, .bin 0 .neq (.tmp 7) (.tmp 9), none⟩])
 (.cond (.tmp 10)
 (.seq
 (.region false [
 ⟨some 4, .assign (.const (.bool false)), none⟩])
 .ret)
 .skip))
 (.seq
 (.seq
 (.region false [
 ⟨some 5, .assign (.const (.int .i64 0)), none⟩])
 (.block 0
 (.loop [0, 1, 5]
 (.seq
 (.seq
 (.region false [
 ⟨some 11, .move (.tmp 5), none⟩,
 ⟨some 12, .move (.tmp 0), none⟩,
 ⟨some 13, .len false (.tmp 12), none⟩,
 ⟨some 14, .bin 0 .lss (.tmp 11) (.tmp 13), none⟩])
 (.cond (.tmp 14)
 .skip
 (.exit 0)))
 (.seq
 (.block 1
 (.seq
 (.region true [
 ⟨some 17, .move (.tmp 0), none⟩,
 ⟨some 18, .move (.tmp 5), none⟩,
 ⟨some 19, .idxAddr (.tmp 17) (.tmp 18) 2, none⟩,
 ⟨some 20, .load true 2 (.tmp 19), none⟩,
 ⟨some 21, .move (.tmp 1), none⟩,
 ⟨some 22, .move (.tmp 5), none⟩,
 ⟨some 23, .idxAddr (.tmp 21) (.tmp 22) 2, none⟩,
 ⟨some 24, .load true 2 (.tmp 23), none⟩,
 ⟨some 25, .eqAgg true 5023 (.tmp 20) (.tmp 24), none⟩])
 (.cond (.tmp 25)
 (.seq
 (.region false [
 ⟨some 4, .assign (.const (.bool false)), none⟩])
 .ret)
 .skip)))
 (.region false [
 ⟨some 15, .move (.tmp 5), none⟩,
 ⟨some 16, .bin 0 .add (.tmp 15) (.const (.int .i64 1)), none⟩,
 ⟨some 5, .assign (.tmp 16), none⟩]))))))
 (.seq
 (.region false [
 ⟨some 4, .assign (.const (.bool true)), none⟩])
 .ret)))) }
/-- purlin/purlinlaw06.maps -/
def tf215 : TFn := { ntmps := 41, results := [.tmp 2, .tmp 3], body :=
 (.seq
 (.region false [
 ⟨some 2, .assign (.const .nilptr), none⟩,
 ⟨some 3, .assign (.const .nilptr), none⟩])
 (.seq
 (.region false [
 ⟨some 7, .call false (.const (.fn 234 [])) [] [], none⟩,
 ⟨some 4, .assign (.tmp 7), none⟩])
 (.seq
 (.region false [
 ⟨some 8, .call false (.const (.fn 235 [])) [] [], none⟩,
 ⟨some 5, .assign (.tmp 8), none⟩])
 (.seq
 (.seq
 (.region false [
 ⟨some 6, .assign (.const (.int .i64 0)), none⟩])
 (.block 0
 (.loop [0, 4, 5, 6]
 (.seq
 (.seq
 (.region false [
 ⟨some 9, .move (.tmp 6), none⟩,
 ⟨some 10, .move (.tmp 0), none⟩,
 ⟨some 11, .len false (.tmp 10), none⟩,
 ⟨some 12, .bin 0 .lss (.tmp 9) (.tmp 11), none⟩])
 (.cond (.tmp 12)
 .skip
 (.exit 0)))
 (.seq
 (.block 1
 (.seq
 (.region true [
 ⟨some 15, .move (.tmp 4), none⟩,
 ⟨some 16, .move (.tmp 0), none⟩,
 ⟨some 17, .move (.tmp 6), none⟩,
 ⟨some 18, .idxAddr (.tmp 16) (.tmp 17) 3, none⟩,
 ⟨some 19, .faddr (.tmp 18) 0, none⟩,
 ⟨some 20, .load true 2 (.tmp 19), none⟩,
 ⟨some 21, .move (.tmp 0), none⟩,
 ⟨some 22, .move (.tmp 6), none⟩,
 ⟨some 23, .idxAddr (.tmp 21) (.tmp 22) 3, none⟩,
 ⟨some 24, .faddr (.tmp 23) 2, none⟩,
 ⟨some 25, .load false 1 (.tmp 24), none⟩,
 ⟨some 26, .call false (.const (.fn 236 [])) [(.tmp 15), (.tmp 20), (.tmp 25)] [], none⟩])
 (.region true [
 ⟨some 27, .move (.tmp 5), none⟩,
 ⟨some 28, .move (.tmp 0), none⟩,
 ⟨some 29, .move (.tmp 6), none⟩,
 ⟨some 30, .idxAddr (.tmp 28) (.tmp 29) 3, none⟩,
 ⟨some 31, .faddr (.tmp 30) 0, none⟩,
 ⟨some 32, .load true 2 (.tmp 31), none⟩,
 ⟨some 33, .move (.tmp 0), none⟩,
 ⟨some 34, .move (.tmp 6), none⟩,
 ⟨some 35, .idxAddr (.tmp 33) (.tmp 34) 3, none⟩,
 ⟨some 36, .faddr (.tmp 35) 2, none⟩,
 ⟨some 37, .load false 1 (.tmp 36), none⟩,
 ⟨some 38, .call false (.const (.fn 237 [])) [(.tmp 27), (.tmp 32), (.tmp 37)] [], none⟩])))
 (.region false [
 ⟨some 13, .move (.tmp 6), none⟩,
 ⟨some 14, .bin 0 .add (.tmp 13) (.const (.int .i64 1)), none⟩,
 ⟨some 6, .assign (.tmp 14), none⟩]))))))
 (.seq
 (.region false [
 ⟨some 39, .move (.tmp 4), none⟩,
 ⟨some 40, .move (.tmp 5), none⟩,
 ⟨some 2, .assign (.tmp 39), none⟩,
 ⟨some 3, .assign (.tmp 40), none⟩])
 .ret))))) }
/-- purlin/arith.Value -/
def tf217 : TFn := { ntmps := 24, results := [.tmp 4, .tmp 5, .tmp 6], body :=
 (.seq
 (.region false [
 ⟨some 4, .assign (.const (.int .i64 0)), none⟩,
 ⟨some 5, .assign (.const (.int .u8 0)), none⟩,
 ⟨some 6, .assign (.const (.sl true 0 2 [] [])), none⟩])
 (.seq
 (.seq
 (.region false [
 ⟨some 8, .move (.tmp 1), none⟩,
 ⟨some 9, .call true (.const (.fn 30 [])) [(.tmp 8)] [], none⟩,
 ⟨some 10, .un .not (.tmp 9), none⟩])
 (.cond (.tmp 10)
 (.seq
 (.region false [
 ⟨some 4, .assign (.const (.int .i64 0)), none⟩,
 ⟨some 5, .assign (.const (.int .u8 2)), none⟩,
 ⟨some 6, .assign (.const (.sl true 0 2 [] [])), none⟩])
 .ret)
 .skip))
 (.seq
 (.region false [
 ⟨some 11, .move (.tmp 0), none⟩,
 ⟨some 12, .move (.tmp 1), none⟩,
 ⟨some 13, .call true (.const (.fn 238 [])) [(.tmp 11), (.tmp 12)] [], none⟩,
 ⟨some 7, .box 3 (.const (.agg [.int .i64 0, .bool false, .sl true 0 2 [] []])), none⟩,
 ⟨none, .store 3 (.tmp 7) (.tmp 13), none⟩])
 (.seq
 (.seq
 (.region false [
 ⟨some 14, .load true 3 (.tmp 7), none⟩,
 ⟨some 15, .call true (.const (.fn 239 [])) [(.tmp 14)] [], none⟩])
 (.block 0
 (.seq
 (.region false [
 ⟨some 17, .bin 0 .eql (.tmp 15) (.const (.int .u8 2)), none⟩,
 ⟨some 16, .assign (.tmp 17), none⟩])
 (.cond (.tmp 16)
 (.seq
 (.region false [
 ⟨some 4, .assign (.const (.int .i64 0)), none⟩,
 ⟨some 5, .assign (.const (.int .u8 2)), none⟩,
 ⟨some 6, .assign (.const (.sl true 0 2 [] [])), none⟩])
 .ret)
 (.seq
 (.region false [
 ⟨some 19, .bin 0 .eql (.tmp 15) (.const (.int .u8 3)), none⟩,
 ⟨some 18, .assign (.tmp 19), none⟩])
 (.cond (.tmp 18)
 (.seq
 (.region true [
 ⟨some 20, .faddr (.tmp 7) 2, none⟩,
 ⟨some 21, .load false 1 (.tmp 20), none⟩,
 ⟨some 4, .move (.const (.int .i64 0)), none⟩,
 ⟨some 5, .move (.const (.int .u8 3)), none⟩,
 ⟨some 6, .move (.tmp 21), none⟩])
 .ret)
 .skip))))))
 (.seq
 (.region false [
 ⟨some 22, .faddr (.tmp 7) 0, none⟩,
 ⟨some 23, .load false 1 (.tmp 22), none⟩,
 ⟨some 4, .assign (.tmp 23), none⟩,
 ⟨some 5, .assign (.const (.int .u8 1)), none⟩,
 ⟨some 6, .assign (.const (.sl true 0 2 [] [])), none⟩])
 .ret))))) }
/-- purlin/purlinref06.Value -/
def tf218 : TFn := { ntmps := 16, results := [.tmp 4, .tmp 5, .tmp 6], body :=
 (.seq
 (.region false [
 ⟨some 4, .assign (.const (.int .i64 0)), none⟩,
 ⟨some 5, .assign (.const (.int .u8 0)), none⟩,
 ⟨some 6, .assign (.const (.sl true 0 2 [] [])), none⟩])
 (.seq
 (.seq
 (.region false [
 ⟨some 7, .move (.tmp 1), none⟩,
 ⟨some 8, .call true (.const (.fn 18 [])) [(.tmp 7)] [], none⟩,
 ⟨some 9, .un .not (.tmp 8), none⟩])
 (.cond (.tmp 9)
 (.seq
 (.region false [
 ⟨some 4, .assign (.const (.int .i64 0)), none⟩,
 ⟨some 5, .assign (.const (.int .u8 2)), none⟩,
 ⟨some 6, .assign (.const (.sl true 0 2 [] [])), none⟩])
 .ret)
 .skip))
 (.seq
 (.region false [
 ⟨some 10, .move (.tmp 0), none⟩,
 ⟨some 11, .move (.tmp 1), none⟩,
 ⟨some 12, .call true (.const (.fn 240 [])) [(.tmp 10), (.tmp 11)] [], none⟩,
 ⟨some 13, .extract (.tmp 12) 0, none⟩,
 ⟨some 14, .extract (.tmp 12) 1, none⟩,
 ⟨some 15, .extract (.tmp 12) 2, none⟩,
 ⟨some 4, .assign (.tmp 13), none⟩,
 ⟨some 5, .assign (.tmp 14), none⟩,
 ⟨some 6, .assign (.tmp 15), none⟩])
 .ret))) }
/-- purlin/purlinlaw06.live -/
def tf219 : TFn := { ntmps := 88, results := [.tmp 0], body :=
 (.seq
 (.region false [
 ⟨some 0, .assign (.const (.bool false)), none⟩])
 (.seq
 (.region false [
 ⟨some 12, .call false (.const (.fn 234 [])) [] [], none⟩,
 ⟨some 1, .assign (.tmp 12), none⟩])
 (.seq
 (.region false [
 ⟨some 13, .build [.int .i64 0, .int .i64 0] [(1, 1, (.const (.int .i64 1)))], none⟩,
 ⟨some 14, .build [.int .u8 0, .str ⟨#[]⟩, .int .i64 0, .int .i64 0, .int .i64 0] [(0, 1, (.const (.int .u8 4))), (3, 2, (.tmp 13))], none⟩,
 ⟨some 15, .buildSlice 1 5 [.int .u8 0, .str ⟨#[]⟩, .int .i64 0, .int .i64 0, .int .i64 0] [(0, (.tmp 14))], none⟩,
 ⟨some 2, .assign (.tmp 15), none⟩])
 (.seq
 (.region false [
 ⟨some 16, .move (.tmp 1), none⟩,
 ⟨some 17, .build [.int .i64 0, .int .i64 0] [(1, 1, (.const (.int .i64 1)))], none⟩,
 ⟨some 18, .build [.int .u8 0, .str ⟨#[]⟩, .int .i64 0, .int .i64 0, .int .i64 0] [(0, 1, (.const (.int .u8 1))), (2, 1, (.const (.int .i64 1)))], none⟩,
 ⟨some 19, .buildSlice 1 5 [.int .u8 0, .str ⟨#[]⟩, .int .i64 0, .int .i64 0, .int .i64 0] [(0, (.tmp 18))], none⟩,
 ⟨some 20, .call false (.const (.fn 236 [])) [(.tmp 16), (.tmp 17), (.tmp 19)] [], none⟩])
 (.seq
 (.region false [
 ⟨some 21, .build [.int .u8 0, .str ⟨#[]⟩, .int .i64 0, .int .i64 0, .int .i64 0] [(0, 1, (.const (.int .u8 3))), (1, 1, (.const (.str ⟨#[43]⟩))), (2, 1, (.const (.int .i64 2)))], none⟩,
 ⟨some 22, .move (.tmp 2), none⟩,
 ⟨some 23, .idxAddr (.tmp 22) (.const (.int .i64 0)) 5, none⟩,
 ⟨some 24, .load true 5 (.tmp 23), none⟩,
 ⟨some 25, .build [.int .u8 0, .str ⟨#[]⟩, .int .i64 0, .int .i64 0, .int .i64 0] [(0, 1, (.const (.int .u8 3))), (1, 1, (.const (.str ⟨#[42]⟩))), (2, 1, (.const (.int .i64 2)))], none⟩,
 ⟨some 26, .build [.int .u8 0, .str ⟨#[]⟩, .int .i64 0, .int .i64 0, .int .i64 0] [(0, 1, (.const (.int .u8 1))), (2, 1, (.const (.int .i64 2)))], none⟩,
 ⟨some 27, .build [.int .u8 0, .str ⟨#[]⟩, .int .i64 0, .int .i64 0, .int .i64 0] [(0, 1, (.const (.int .u8 1))), (2, 1, (.const (.int .i64 3)))], none⟩,
 ⟨some 28, .buildSlice 5 5 [.int .u8 0, .str ⟨#[]⟩, .int .i64 0, .int .i64 0, .int .i64 0] [(0, (.tmp 21)), (1, (.tmp 24)), (2, (.tmp 25)), (3, (.tmp 26)), (4, (.tmp 27))], none⟩,
 ⟨some 3, .assign (.tmp 28), none⟩])
 (.seq
 (.region false [
 ⟨some 30, .move (.tmp 1), none⟩,
 ⟨some 31, .move (.tmp 3), none⟩,
 ⟨some 32, .call true (.const (.fn 217 [])) [(.tmp 30), (.tmp 31)] [], none⟩,
 ⟨some 29, .move (.tmp 32), none⟩,
 ⟨some 33, .extract (.tmp 29) 0, none⟩,
 ⟨some 34, .extract (.tmp 29) 1, none⟩,
 ⟨some 35, .extract (.tmp 29) 2, none⟩,
 ⟨some 4, .assign (.tmp 33), none⟩,
 ⟨some 5, .assign (.tmp 34), none⟩,
 ⟨some 6, .assign (.tmp 35), none⟩])
 (.seq
 (.region false [
 ⟨some 37, .move (.tmp 3), none⟩,
 ⟨some 38, .call true (.const (.fn 217 [])) [(.const .nilptr), (.tmp 37)] [], none⟩,
 ⟨some 36, .move (.tmp 38), none⟩,
 ⟨some 39, .extract (.tmp 36) 0, none⟩,
 ⟨some 40, .extract (.tmp 36) 1, none⟩,
 ⟨some 41, .extract (.tmp 36) 2, none⟩,
 ⟨some 7, .assign (.tmp 39), none⟩,
 ⟨some 8, .assign (.tmp 40), none⟩,
 ⟨some 9, .assign (.tmp 41), none⟩])
 (.seq
 (.region false [
 ⟨some 43, .buildSlice 2 1 [.int .i64 0] [(0, (.const (.int .i64 (-7)))), (1, (.const (.int .i64 2)))], none⟩,
 ⟨some 44, .call true (.const (.fn 222 [])) [(.const (.str ⟨#[100, 105, 118]⟩)), (.tmp 43)] [], none⟩,
 ⟨some 42, .move (.tmp 44), none⟩,
 ⟨some 45, .extract (.tmp 42) 0, none⟩,
 ⟨some 46, .extract (.tmp 42) 1, none⟩,
 ⟨some 10, .assign (.tmp 45), none⟩,
 ⟨some 11, .assign (.tmp 46), none⟩])
 (.seq
 (.region true [
 ⟨some 47, .move (.tmp 4), none⟩,
 ⟨some 48, .bin 0 .eql (.tmp 47) (.const (.int .i64 7)), none⟩,
 ⟨some 49, .move (.tmp 48), none⟩,
 ⟨some 50, .move (.tmp 5), (some (49, true))⟩,
 ⟨some 51, .bin 0 .eql (.tmp 50) (.const (.int .u8 1)), (some (49, true))⟩,
 ⟨some 52, .pick (.tmp 49) (.tmp 51) (.const (.bool false)), none⟩,
 ⟨some 53, .move (.tmp 52), none⟩,
 ⟨some 54, .move (.tmp 6), (some (53, true))⟩,
 ⟨some 55, .len false (.tmp 54), (some (53, true))⟩,
 ⟨some 56, .bin 0 .eql (.tmp 55) (.const (.int .i64 0)), (some (53, true))⟩,
 ⟨some 57, .pick (.tmp 53) (.tmp 56) (.const (.bool false)), none⟩,
 ⟨some 58, .move (.tmp 57), none⟩,
 ⟨some 59, .move (.tmp 7), (some (58, true))⟩,
 ⟨some 60, .bin 0 .eql (.tmp 59) (.const (.int .i64 0)), (some (58, true))⟩,
 ⟨some 61, .pick (.tmp 58) (.tmp 60) (.const (.bool false)), none⟩,
 ⟨some 62, .move (.tmp 61), none⟩,
 ⟨some 63, .move (.tmp 8), (some (62, true))⟩,
 ⟨some 64, .bin 0 .eql (.tmp 63) (.const (.int .u8 3)), (some (62, true))⟩,
 ⟨some 65, .pick (.tmp 62) (.tmp 64) (.const (.bool false)), none⟩,
 ⟨some 66, .move (.tmp 65), none⟩,
 ⟨some 67, .move (.tmp 9), (some (66, true))⟩,
 ⟨some 68, .len false (.tmp 67), (some (66, true))⟩,
 ⟨some 69, .bin 0 .eql (.tmp 68) (.const (.int .i64 1)), (some (66, true))⟩,
 ⟨some 70, .pick (.tmp 66) (.tmp 69) (.const (.bool false)), none⟩,
 ⟨some 71, .move (.tmp 70), none⟩,
 ⟨some 72, .move (.tmp 9), (some (71, true))⟩,
 ⟨some 73, .idxAddr (.tmp 72) (.const (.int .i64 0)) 2, (some (71, true))⟩,
 ⟨some 74, .load true 2 (.tmp 73), (some (71, true))⟩,
 ⟨some 75, .move (.tmp 2), (some (71, true))⟩,
 ⟨some 76, .idxAddr (.tmp 75) (.const (.int .i64 0)) 5, (some (71, true))⟩,
 ⟨some 77, .faddr (.tmp 76) 3, (some (71, true))⟩,
 ⟨some 78, .load true 2 (.tmp 77), (some (71, true))⟩,
 ⟨some 79, .eqAgg false 5023 (.tmp 74) (.tmp 78), (some (71, true))⟩,
 ⟨some 80, .pick (.tmp 71) (.tmp 79) (.const (.bool false)), none⟩,
 ⟨some 81, .move (.tmp 80), none⟩,
 ⟨some 82, .move (.tmp 10), (some (81, true))⟩,
 ⟨some 83, .bin 0 .eql (.tmp 82) (.const (.int .i64 (-4))), (some (81, true))⟩,
 ⟨some 84, .pick (.tmp 81) (.tmp 83) (.const (.bool false)), none⟩,
 ⟨some 85, .move (.tmp 84), none⟩,
 ⟨some 86, .move (.tmp 11), (some (85, true))⟩,
 ⟨some 87, .pick (.tmp 85) (.tmp 86) (.const (.bool false)), none⟩,
 ⟨some 0, .move (.tmp 87), none⟩])
 .ret))))))))) }
/-- purlin/arith.Reckon -/
def tf222 : TFn := { ntmps := 131, results := [.tmp 4, .tmp 5], body :=
 (.seq
 (.region false [
 ⟨some 4, .assign (.const (.int .i64 0)), none⟩,
 ⟨some 5, .assign (.const (.bool false)), none⟩])
 (.seq
 (.seq
 (.region false [
 ⟨some 8, .move (.tmp 1), none⟩,
 ⟨some 9, .call true (.const (.fn 241 [])) [(.tmp 8), (.const (.fn 242 []))] [], none⟩])
 (.cond (.tmp 9)
 (.seq
 (.region false [
 ⟨some 4, .assign (.const (.int .i64 0)), none⟩,
 ⟨some 5, .assign (.const (.bool false)), none⟩])
 .ret)
 .skip))
 (.seq
 (.region false [
 ⟨some 6, .assign (.const (.int .i64 0)), none⟩,
 ⟨some 7, .assign (.const (.bool true)), none⟩])
 (.seq
 (.block 0
 (.seq
 (.region false [
 ⟨some 11, .move (.tmp 0), none⟩,
 ⟨some 12, .bin 0 .eql (.tmp 11) (.const (.str ⟨#[97, 98, 115]⟩)), none⟩,
 ⟨some 13, .move (.tmp 12), none⟩,
 ⟨some 14, .move (.tmp 1), (some (13, true))⟩,
 ⟨some 15, .len false (.tmp 14), (some (13, true))⟩,
 ⟨some 16, .bin 0 .eql (.tmp 15) (.const (.int .i64 1)), (some (13, true))⟩,
 ⟨some 17, .pick (.tmp 13) (.tmp 16) (.const (.bool false)), none⟩,
 ⟨some 10, .assign (.tmp 17), none⟩])
 (.cond (.tmp 10)
 (.region true [
 ⟨some 18, .move (.tmp 1), none⟩,
 ⟨some 19, .idxAddr (.tmp 18) (.const (.int .i64 0)) 1, none⟩,
 ⟨some 20, .load false 1 (.tmp 19), none⟩,
 ⟨some 21, .move (.tmp 1), none⟩,
 ⟨some 22, .idxAddr (.tmp 21) (.const (.int .i64 0)) 1, none⟩,
 ⟨some 23, .load false 1 (.tmp 22), none⟩,
 ⟨some 24, .un .neg (.tmp 23), none⟩,
 ⟨some 25, .minmax true (.tmp 20) (.tmp 24), none⟩,
 ⟨some 6, .move (.tmp 25), none⟩])
 (.seq
 (.region false [
 ⟨some 27, .move (.tmp 1), none⟩,
 ⟨some 28, .len false (.tmp 27), none⟩,
 ⟨some 29, .bin 0 .neq (.tmp 28) (.const (.int .i64 2)), none⟩,
 ⟨some 26, .assign (.tmp 29), none⟩])
 (.cond (.tmp 26)
 (.seq
 (.region false [
 ⟨some 4, .assign (.const (.int .i64 0)), none⟩,
 ⟨some 5, .assign (.const (.bool false)), none⟩])
 .ret)
 (.seq
 (.region false [
 ⟨some 31, .move (.tmp 0), none⟩,
 ⟨some 32, .bin 0 .eql (.tmp 31) (.const (.str ⟨#[43]⟩)), none⟩,
 ⟨some 30, .assign (.tmp 32), none⟩])
 (.cond (.tmp 30)
 (.region true [
 ⟨some 33, .move (.tmp 1), none⟩,
 ⟨some 34, .idxAddr (.tmp 33) (.const (.int .i64 0)) 1, none⟩,
 ⟨some 35, .load false 1 (.tmp 34), none⟩,
 ⟨some 36, .move (.tmp 1), none⟩,
 ⟨some 37, .idxAddr (.tmp 36) (.const (.int .i64 1)) 1, none⟩,
 ⟨some 38, .load false 1 (.tmp 37), none⟩,
 ⟨some 39, .bin 0 .add (.tmp 35) (.tmp 38), none⟩,
 ⟨some 6, .move (.tmp 39), none⟩])
 (.seq
 (.region false [
 ⟨some 41, .move (.tmp 0), none⟩,
 ⟨some 42, .bin 0 .eql (.tmp 41) (.const (.str ⟨#[45]⟩)), none⟩,
 ⟨some 40, .assign (.tmp 42), none⟩])
 (.cond (.tmp 40)
 (.region true [
 ⟨some 43, .move (.tmp 1), none⟩,
 ⟨some 44, .idxAddr (.tmp 43) (.const (.int .i64 0)) 1, none⟩,
 ⟨some 45, .load false 1 (.tmp 44), none⟩,
 ⟨some 46, .move (.tmp 1), none⟩,
 ⟨some 47, .idxAddr (.tmp 46) (.const (.int .i64 1)) 1, none⟩,
 ⟨some 48, .load false 1 (.tmp 47), none⟩,
 ⟨some 49, .bin 0 .sub (.tmp 45) (.tmp 48), none⟩,
 ⟨some 6, .move (.tmp 49), none⟩])
 (.seq
 (.region false [
 ⟨some 51, .move (.tmp 0), none⟩,
 ⟨some 52, .bin 0 .eql (.tmp 51) (.const (.str ⟨#[42]⟩)), none⟩,
 ⟨some 50, .assign (.tmp 52), none⟩])
 (.cond (.tmp 50)
 (.region true [
 ⟨some 54, .move (.tmp 1), none⟩,
 ⟨some 55, .idxAddr (.tmp 54) (.const (.int .i64 0)) 1, none⟩,
 ⟨some 56, .load false 1 (.tmp 55), none⟩,
 ⟨some 57, .move (.tmp 1), none⟩,
 ⟨some 58, .idxAddr (.tmp 57) (.const (.int .i64 1)) 1, none⟩,
 ⟨some 59, .load false 1 (.tmp 58), none⟩,
 ⟨some 60, .call true (.const (.fn 243 [])) [(.tmp 56), (.tmp 59)] [], none⟩,
 ⟨some 53, .move (.tmp 60), none⟩,
 ⟨some 61, .extract (.tmp 53) 0, none⟩,
 ⟨some 62, .extract (.tmp 53) 1, none⟩,
 ⟨some 6, .move (.tmp 61), none⟩,
 ⟨some 7, .move (.tmp 62), none⟩])
 (.seq
 (.region false [
 ⟨some 64, .move (.tmp 0), none⟩,
 ⟨some 65, .bin 0 .eql (.tmp 64) (.const (.str ⟨#[109, 105, 110]⟩)), none⟩,
 ⟨some 63, .assign (.tmp 65), none⟩])
 (.cond (.tmp 63)
 (.region true [
 ⟨some 66, .move (.tmp 1), none⟩,
 ⟨some 67, .idxAddr (.tmp 66) (.const (.int .i64 0)) 1, none⟩,
 ⟨some 68, .load false 1 (.tmp 67), none⟩,
 ⟨some 69, .move (.tmp 1), none⟩,
 ⟨some 70, .idxAddr (.tmp 69) (.const (.int .i64 1)) 1, none⟩,
 ⟨some 71, .load false 1 (.tmp 70), none⟩,
 ⟨some 72, .minmax false (.tmp 68) (.tmp 71), none⟩,
 ⟨some 6, .move (.tmp 72), none⟩])
 (.seq
 (.region false [
 ⟨some 74, .move (.tmp 0), none⟩,
 ⟨some 75, .bin 0 .eql (.tmp 74) (.const (.str ⟨#[109, 97, 120]⟩)), none⟩,
 ⟨some 73, .assign (.tmp 75), none⟩])
 (.cond (.tmp 73)
 (.region true [
 ⟨some 76, .move (.tmp 1), none⟩,
 ⟨some 77, .idxAddr (.tmp 76) (.const (.int .i64 0)) 1, none⟩,
 ⟨some 78, .load false 1 (.tmp 77), none⟩,
 ⟨some 79, .move (.tmp 1), none⟩,
 ⟨some 80, .idxAddr (.tmp 79) (.const (.int .i64 1)) 1, none⟩,
 ⟨some 81, .load false 1 (.tmp 80), none⟩,
 ⟨some 82, .minmax true (.tmp 78) (.tmp 81), none⟩,
 ⟨some 6, .move (.tmp 82), none⟩])
 (.seq
 (.region false [
 ⟨some 84, .move (.tmp 0), none⟩,
 ⟨some 85, .bin 0 .eql (.tmp 84) (.const (.str ⟨#[100, 105, 118]⟩)), none⟩,
 ⟨some 86, .move (.tmp 85), none⟩,
 ⟨some 87, .move (.tmp 1), (some (86, true))⟩,
 ⟨some 88, .idxAddr (.tmp 87) (.const (.int .i64 1)) 1, (some (86, true))⟩,
 ⟨some 89, .load false 1 (.tmp 88), (some (86, true))⟩,
 ⟨some 90, .bin 0 .neq (.tmp 89) (.const (.int .i64 0)), (some (86, true))⟩,
 ⟨some 91, .pick (.tmp 86) (.tmp 90) (.const (.bool false)), none⟩,
 ⟨some 83, .assign (.tmp 91), none⟩])
 (.cond (.tmp 83)
 (.region true [
 ⟨some 92, .move (.tmp 1), none⟩,
 ⟨some 93, .idxAddr (.tmp 92) (.const (.int .i64 0)) 1, none⟩,
 ⟨some 94, .load false 1 (.tmp 93), none⟩,
 ⟨some 95, .move (.tmp 1), none⟩,
 ⟨some 96, .idxAddr (.tmp 95) (.const (.int .i64 1)) 1, none⟩,
 ⟨some 97, .load false 1 (.tmp 96), none⟩,
 ⟨some 98, .call true (.const (.fn 244 [])) [(.tmp 94), (.tmp 97)] [], none⟩,
 ⟨some 6, .move (.tmp 98), none⟩])
 (.seq
 (.region false [
 ⟨some 100, .move (.tmp 0), none⟩,
 ⟨some 101, .bin 0 .eql (.tmp 100) (.const (.str ⟨#[109, 111, 100]⟩)), none⟩,
 ⟨some 102, .move (.tmp 101), none⟩,
 ⟨some 103, .move (.tmp 1), (some (102, true))⟩,
 ⟨some 104, .idxAddr (.tmp 103) (.const (.int .i64 1)) 1, (some (102, true))⟩,
 ⟨some 105, .load false 1 (.tmp 104), (some (102, true))⟩,
 ⟨some 106, .bin 0 .neq (.tmp 105) (.const (.int .i64 0)), (some (102, true))⟩,
 ⟨some 107, .pick (.tmp 102) (.tmp 106) (.const (.bool false)), none⟩,
 ⟨some 99, .assign (.tmp 107), none⟩])
 (.cond (.tmp 99)
 (.region true [
 ⟨some 108, .move (.tmp 1), none⟩,
 ⟨some 109, .idxAddr (.tmp 108) (.const (.int .i64 0)) 1, none⟩,
 ⟨some 110, .load false 1 (.tmp 109), none⟩,
 ⟨some 111, .move (.tmp 1), none⟩,
 ⟨some 112, .idxAddr (.tmp 111) (.const (.int .i64 1)) 1, none⟩,
 ⟨some 113, .load false 1 (.tmp 112), none⟩,
 ⟨some 114, .move (.tmp 1), none⟩,
 ⟨some 115, .idxAddr (.tmp 114) (.const (.int .i64 0)) 1, none⟩,
 ⟨some 116, .load false 1 (.tmp 115), none⟩,
 ⟨some 117, .move (.tmp 1), none⟩,
 ⟨some 118, .idxAddr (.tmp 117) (.const (.int .i64 1)) 1, none⟩,
 ⟨some 119, .load false 1 (.tmp 118), none⟩,
 ⟨some 120, .call true (.const (.fn 244 [])) [(.tmp 116), (.tmp 119)] [], none⟩,
 ⟨some 121, .bin 0 .mul (.tmp 113) (.tmp 120), none⟩,
 ⟨some 122, .bin 0 .sub (.tmp 110) (.tmp 121), none⟩,
 ⟨some 6, .move (.tmp 122), none⟩])
 (.seq
 (.region false [
 ⟨some 4, .assign (.const (.int .i64 0)), none⟩,
 ⟨some 5, .assign (.const (.bool false)), none⟩])
 .ret))))))))))))))))))))
 (.seq
 (.seq
 (.region false [
 ⟨some 123, .move (.tmp 7), none⟩,
 ⟨some 124, .un .not (.tmp 123), none⟩,
 ⟨some 125, .move (.tmp 124), none⟩,
 ⟨some 126, .move (.tmp 6), (some (125, false))⟩,
 ⟨some 127, .call true (.const (.fn 245 [])) [(.tmp 126)] [], (some (125, false))⟩,
 ⟨some 128, .un .not (.tmp 127), (some (125, false))⟩,
 ⟨some 129, .pick (.tmp 125) (.const (.bool true)) (.tmp 128), none⟩])
 (.cond (.tmp 129)
 (.seq
 (.region false [
 ⟨some 4, .assign (.const (.int .i64 0)), none⟩,
 ⟨some 5, .assign (.const (.bool false)), none⟩])
 .ret)
 .skip))
 (.seq
 (.region false [
 ⟨some 130, .move (.tmp 6), none⟩,
 ⟨some 4, .assign (.tmp 130), none⟩,
 ⟨some 5, .assign (.const (.bool true)), none⟩])
 .ret)))))) }
/-- purlin/purlinref06.Reckon -/
def tf223 : TFn := { ntmps := 114, results := [.tmp 4, .tmp 5], body :=
 (.seq
 (.region false [
 ⟨some 4, .assign (.const (.int .i64 0)), none⟩,
 ⟨some 5, .assign (.const (.bool false)), none⟩])
 (.seq
 (.seq
 (.region false [
 ⟨some 6, .assign (.const (.int .i64 0)), none⟩])
 (.block 0
 (.loop [0, 1, 6]
 (.seq
 (.seq
 (.region false [
 ⟨some 12, .move (.tmp 6), none⟩,
 ⟨some 13, .move (.tmp 1), none⟩,
 ⟨some 14, .len false (.tmp 13), none⟩,
 ⟨some 15, .bin 0 .lss (.tmp 12) (.tmp 14), none⟩])
 (.cond (.tmp 15)
 .skip
 (.exit 0)))
 (.seq
 (.block 1
 (.seq
 (.region false [
 ⟨some 18, .move (.tmp 1), none⟩,
 ⟨some 19, .move (.tmp 6), none⟩,
 ⟨some 20, .idxAddr (.tmp 18) (.tmp 19) 1, none⟩,
 ⟨some 21, .load false 1 (.tmp 20), none⟩,
 ⟨some 22, .call true (.const (.fn 246 [])) [(.tmp 21)] [], none⟩,
 ⟨some 23, .un .not (.tmp 22), none⟩])
 (.cond (.tmp 23)
 (.seq
 (.region false [
 ⟨some 4, .assign (.const (.int .i64 0)), none⟩,
 ⟨some 5, .assign (.const (.bool false)), none⟩])
 .ret)
 .skip)))
 (.region false [
 ⟨some 16, .move (.tmp 6), none⟩,
 ⟨some 17, .bin 0 .add (.tmp 16) (.const (.int .i64 1)), none⟩,
 ⟨some 6, .assign (.tmp 17), none⟩]))))))
 (.seq
 (.seq
 (.region false [
 ⟨some 24, .move (.tmp 0), none⟩,
 ⟨some 25, .bin 0 .eql (.tmp 24) (.const (.str ⟨#[97, 98, 115]⟩)), none⟩,
 ⟨some 26, .move (.tmp 25), none⟩,
 ⟨some 27, .move (.tmp 1), (some (26, true))⟩,
 ⟨some 28, .len false (.tmp 27), (some (26, true))⟩,
 ⟨some 29, .bin 0 .eql (.tmp 28) (.const (.int .i64 1)), (some (26, true))⟩,
 ⟨some 30, .pick (.tmp 26) (.tmp 29) (.const (.bool false)), none⟩])
 (.cond (.tmp 30)
 (.seq
 (.seq
 (.region false [
 ⟨some 31, .move (.tmp 1), none⟩,
 ⟨some 32, .idxAddr (.tmp 31) (.const (.int .i64 0)) 1, none⟩,
 ⟨some 33, .load false 1 (.tmp 32), none⟩,
 ⟨some 34, .bin 0 .lss (.tmp 33) (.const (.int .i64 0)), none⟩])
 (.cond (.tmp 34)
 (.seq
 (.region false [
 ⟨some 35, .move (.tmp 1), none⟩,
 ⟨some 36, .idxAddr (.tmp 35) (.const (.int .i64 0)) 1, none⟩,
 ⟨some 37, .load false 1 (.tmp 36), none⟩,
 ⟨some 38, .un .neg (.tmp 37), none⟩,
 ⟨some 4, .assign (.tmp 38), none⟩,
 ⟨some 5, .assign (.const (.bool true)), none⟩])
 .ret)
 .skip))
 (.seq
 (.region false [
 ⟨some 39, .move (.tmp 1), none⟩,
 ⟨some 40, .idxAddr (.tmp 39) (.const (.int .i64 0)) 1, none⟩,
 ⟨some 41, .load false 1 (.tmp 40), none⟩,
 ⟨some 4, .assign (.tmp 41), none⟩,
 ⟨some 5, .assign (.const (.bool true)), none⟩])
 .ret))
 .skip))
 (.seq
 (.seq
 (.region false [
 ⟨some 42, .move (.tmp 1), none⟩,
 ⟨some 43, .len false (.tmp 42), none⟩,
 ⟨some 44, .bin 0 .neq (.tmp 43) (.const (.int .i64 2)), none⟩])
 (.cond (.tmp 44)
 (.seq
 (.region false [
 ⟨some 4, .assign (.const (.int .i64 0)), none⟩,
 ⟨some 5, .assign (.const (.bool false)), none⟩])
 .ret)
 .skip))
 (.seq
 (.region false [
 ⟨some 45, .move (.tmp 1), none⟩,
 ⟨some 46, .idxAddr (.tmp 45) (.const (.int .i64 0)) 1, none⟩,
 ⟨some 47, .load false 1 (.tmp 46), none⟩,
 ⟨some 7, .assign (.tmp 47), none⟩])
 (.seq
 (.region false [
 ⟨some 48, .move (.tmp 1), none⟩,
 ⟨some 49, .idxAddr (.tmp 48) (.const (.int .i64 1)) 1, none⟩,
 ⟨some 50, .load false 1 (.tmp 49), none⟩,
 ⟨some 8, .assign (.tmp 50), none⟩])
 (.seq
 (.region false [
 ⟨some 9, .assign (.const (.int .i64 0)), none⟩])
 (.seq
 (.seq
 (.region false [
 ⟨some 51, .move (.tmp 0), none⟩])
 (.block 2
 (.seq
 (.region false [
 ⟨some 53, .bin 0 .eql (.tmp 51) (.const (.str ⟨#[43]⟩)), none⟩,
 ⟨some 52, .assign (.tmp 53), none⟩])
 (.cond (.tmp 52)
 (.region false [
 ⟨some 54, .move (.tmp 7), none⟩,
 ⟨some 55, .move (.tmp 8), none⟩,
 ⟨some 56, .bin 0 .add (.tmp 54) (.tmp 55), none⟩,
 ⟨some 9, .assign (.tmp 56), none⟩])
 (.seq
 (.region false [
 ⟨some 58, .bin 0 .eql (.tmp 51) (.const (.str ⟨#[45]⟩)), none⟩,
 ⟨some 57, .assign (.tmp 58), none⟩])
 (.cond (.tmp 57)
 (.region false [
 ⟨some 59, .move (.tmp 7), none⟩,
 ⟨some 60, .move (.tmp 8), none⟩,
 ⟨some 61, .bin 0 .sub (.tmp 59) (.tmp 60), none⟩,
 ⟨some 9, .assign (.tmp 61), none⟩])
 (.seq
 (.region false [
 ⟨some 63, .bin 0 .eql (.tmp 51) (.const (.str ⟨#[42]⟩)), none⟩,
 ⟨some 62, .assign (.tmp 63), none⟩])
 (.cond (.tmp 62)
 (.region false [
 ⟨some 64, .move (.tmp 7), none⟩,
 ⟨some 65, .move (.tmp 8), none⟩,
 ⟨some 66, .bin 0 .mul (.tmp 64) (.tmp 65), none⟩,
 ⟨some 9, .assign (.tmp 66), none⟩])
 (.seq
 (.region false [
 ⟨some 68, .bin 0 .eql (.tmp 51) (.const (.str ⟨#[109, 105, 110]⟩)), none⟩,
 ⟨some 67, .assign (.tmp 68), none⟩])
 (.cond (.tmp 67)
 (.seq
 (.region false [
 ⟨some 69, .move (.tmp 7), none⟩,
 ⟨some 9, .assign (.tmp 69), none⟩])
 (.seq
 (.region false [
 ⟨some 70, .move (.tmp 8), none⟩,
 ⟨some 71, .move (.tmp 7), none⟩,
 ⟨some 72, .bin 0 .lss (.tmp 70) (.tmp 71), none⟩])
 (.cond (.tmp 72)
 (.region false [
 ⟨some 73, .move (.tmp 8), none⟩,
 ⟨some 9, .assign (.tmp 73), none⟩])
 .skip)))
 (.seq
 (.region false [
 ⟨some 75, .bin 0 .eql (.tmp 51) (.const (.str ⟨#[109, 97, 120]⟩)), none⟩,
 ⟨some 74, .assign (.tmp 75), none⟩])
 (.cond (.tmp 74)
 (.seq
 (.region false [
 ⟨some 76, .move (.tmp 7), none⟩,
 ⟨some 9, .assign (.tmp 76), none⟩])
 (.seq
 (.region false [
 ⟨some 77, .move (.tmp 8), none⟩,
 ⟨some 78, .move (.tmp 7), none⟩,
 ⟨some 79, .bin 0 .gtr (.tmp 77) (.tmp 78), none⟩])
 (.cond (.tmp 79)
 (.region false [
 ⟨some 80, .move (.tmp 8), none⟩,
 ⟨some 9, .assign (.tmp 80), none⟩])
 .skip)))
 (.seq
 (.seq
 (.region false [
 ⟨some 82, .bin 0 .eql (.tmp 51) (.const (.str ⟨#[100, 105, 118]⟩)), none⟩,
 ⟨some 81, .assign (.tmp 82), none⟩])
 (.cond (.tmp 81)
 .skip
 (.region false [
 ⟨some 83, .bin 0 .eql (.tmp 51) (.const (.str ⟨#[109, 111, 100]⟩)), none⟩,
 ⟨some 81, .assign (.tmp 83), none⟩])))
 (.cond (.tmp 81)
 (.seq
 (.seq
 (.region false [
 ⟨some 84, .move (.tmp 8), none⟩,
 ⟨some 85, .bin 0 .eql (.tmp 84) (.const (.int .i64 0)), none⟩])
 (.cond (.tmp 85)
 (.seq
 (.region false [
 ⟨some 4, .assign (.const (.int .i64 0)), none⟩,
 ⟨some 5, .assign (.const (.bool false)), none⟩])
 .ret)
 .skip))
 (.seq
 (.region false [
 ⟨some 86, .move (.tmp 7), none⟩,
 ⟨some 87, .move (.tmp 8), none⟩,
 ⟨some 88, .bin 0 .quo (.tmp 86) (.tmp 87), none⟩,
 ⟨some 10, .assign (.tmp 88), none⟩])
 (.seq
 (.region false [
 ⟨some 89, .move (.tmp 7), none⟩,
 ⟨some 90, .move (.tmp 8), none⟩,
 ⟨some 91, .bin 0 .rem (.tmp 89) (.tmp 90), none⟩,
 ⟨some 11, .assign (.tmp 91), none⟩])
 (.seq
 (.seq
 (.region false [
 ⟨some 92, .move (.tmp 11), none⟩,
 ⟨some 93, .bin 0 .neq (.tmp 92) (.const (.int .i64 0)), none⟩,
 ⟨some 94, .move (.tmp 93), none⟩,
 ⟨some 95, .move (.tmp 11), (some (94, true))⟩,
 ⟨some 96, .bin 0 .lss (.tmp 95) (.const (.int .i64 0)), (some (94, true))⟩,
 ⟨some 97, .move (.tmp 8), (some (94, true))⟩,
 ⟨some 98, .bin 0 .lss (.tmp 97) (.const (.int .i64 0)), (some (94, true))⟩,
 ⟨some 99, .bin 1 .neq (.tmp 96) (.tmp 98), (some (94, true))⟩,
 ⟨some 100, .pick (.tmp 94) (.tmp 99) (.const (.bool false)), none⟩])
 (.cond (.tmp 100)
 (.seq
 (.region false [
 ⟨some 101, .move (.tmp 10), none⟩,
 ⟨some 102, .bin 0 .sub (.tmp 101) (.const (.int .i64 1)), none⟩,
 ⟨some 10, .assign (.tmp 102), none⟩])
 (.region false [
 ⟨some 103, .move (.tmp 11), none⟩,
 ⟨some 104, .move (.tmp 8), none⟩,
 ⟨some 105, .bin 0 .add (.tmp 103) (.tmp 104), none⟩,
 ⟨some 11, .assign (.tmp 105), none⟩]))
 .skip))
 (.seq
 (.region false [
 ⟨some 106, .move (.tmp 10), none⟩,
 ⟨some 9, .assign (.tmp 106), none⟩])
 (.seq
 (.region false [
 ⟨some 107, .move (.tmp 0), none⟩,
 ⟨some 108, .bin 0 .eql (.tmp 107) (.const (.str ⟨#[109, 111, 100]⟩)), none⟩])
 (.cond (.tmp 108)
 (.region false [
 ⟨some 109, .move (.tmp 11), none⟩,
 ⟨some 9, .assign (.tmp 109), none⟩])
 .skip)))))))
 (.seq
 (.region false [
 ⟨some 4, .assign (.const (.int .i64 0)), none⟩,
 ⟨some 5, .assign (.const (.bool false)), none⟩])
 .ret)))))))))))))))
 (.seq
 (.seq
 (.region false [
 ⟨some 110, .move (.tmp 9), none⟩,
 ⟨some 111, .call true (.const (.fn 246 [])) [(.tmp 110)] [], none⟩,
 ⟨some 112, .un .not (.tmp 111), none⟩])
 (.cond (.tmp 112)
 (.seq
 (.region false [
 ⟨some 4, .assign (.const (.int .i64 0)), none⟩,
 ⟨some 5, .assign (.const (.bool false)), none⟩])
 .ret)
 .skip))
 (.seq
 (.region false [
 ⟨some 113, .move (.tmp 9), none⟩,
 ⟨some 4, .assign (.tmp 113), none⟩,
 ⟨some 5, .assign (.const (.bool true)), none⟩])
 .ret)))))))))) }
/-- (*purlin/purlinref05.Heap).Deref -/
def tf227 : TFn := { ntmps := 18, results := [.tmp 4], body :=
 (.seq
 (.region false [
 ⟨some 4, .assign (.const (.sl true 0 5 [] [])), none⟩])
 (.seq
 (.region false [
 ⟨some 6, .move (.tmp 0), none⟩,
 ⟨some 7, .move (.tmp 1), none⟩,
 ⟨some 8, .call true (.const (.fn 252 [])) [(.tmp 6), (.tmp 7)] [], none⟩,
 ⟨some 5, .assign (.tmp 8), none⟩])
 (.seq
 (.seq
 (.region false [
 ⟨some 9, .move (.tmp 5), none⟩,
 ⟨some 10, .len false (.tmp 9), none⟩,
 ⟨some 11, .bin 0 .eql (.tmp 10) (.const (.int .i64 0)), none⟩])
 (.cond (.tmp 11)
 (.seq
 (.region false [
 ⟨some 4, .assign (.const (.sl true 0 5 [] [])), none⟩])
 .ret)
 .skip))
 (.seq
 (.region false [
 ⟨some 12, .move (.tmp 5), none⟩,
 ⟨some 13, .move (.tmp 5), none⟩,
 ⟨some 14, .len false (.tmp 13), none⟩,
 ⟨some 15, .bin 0 .sub (.tmp 14) (.const (.int .i64 1)), none⟩,
 ⟨some 16, .idxAddr (.tmp 12) (.tmp 15) 1, none⟩,
 ⟨some 17, .load false 1 (.tmp 16), none⟩,
 ⟨some 4, .assign (.tmp 17), none⟩])
 .ret)))) }
/-- purlin/heap.New -/
def tf234 : TFn := { ntmps := 4, results := [.tmp 0], body :=
 (.seq
 (.region false [
 ⟨some 0, .assign (.const .nilptr), none⟩])
 (.seq
 (.region false [
 ⟨some 1, .mkmap, none⟩,
 ⟨some 2, .build [.nilmap] [(0, 1, (.tmp 1))], none⟩,
 ⟨some 3, .new 1 (.tmp 2), none⟩,
 ⟨some 0, .assign (.tmp 3), none⟩])
 .ret)) }
/-- purlin/purlinref05.New -/
def tf235 : TFn := { ntmps := 3, results := [.tmp 0], body :=
 (.seq
 (.region false [
 ⟨some 0, .assign (.const .nilptr), none⟩])
 (.seq
 (.region false [
 ⟨some 1, .build [.sl true 0 3 [] []] [], none⟩,
 ⟨some 2, .new 1 (.tmp 1), none⟩,
 ⟨some 0, .assign (.tmp 2), none⟩])
 .ret)) }
/-- (*purlin/heap.Heap).Bind -/
def tf236 : TFn := { ntmps := 56, results := [.tmp 6], body :=
 (.seq
 (.region false [
 ⟨some 4, .box 2 (.tmp 1), none⟩,
 ⟨some 6, .assign (.const (.int .i64 0)), none⟩])
 (.seq
 (.seq
 (.region false [
 ⟨some 9, .move (.tmp 0), none⟩,
 ⟨some 10, .bin 2 .eql (.tmp 9) (.const .nilptr), none⟩])
 (.cond (.tmp 10)
 (.seq
 (.region false [
 ⟨some 6, .assign (.const (.int .i64 1)), none⟩])
 .ret)
 .skip))
 (.seq
 (.seq
 (.region false [
 ⟨some 11, .faddr (.tmp 4) 0, none⟩,
 ⟨some 12, .load false 1 (.tmp 11), none⟩,
 ⟨some 13, .bin 0 .lss (.tmp 12) (.const (.int .i64 0)), none⟩,
 ⟨some 14, .move (.tmp 13), none⟩,
 ⟨some 15, .load true 2 (.tmp 4), (some (14, false))⟩,
 ⟨some 16, .call true (.const (.fn 14 [])) [(.tmp 15)] [], (some (14, false))⟩,
 ⟨some 17, .len false (.tmp 16), (some (14, false))⟩,
 ⟨some 18, .bin 0 .eql (.tmp 17) (.const (.int .i64 0)), (some (14, false))⟩,
 ⟨some 19, .pick (.tmp 14) (.const (.bool true)) (.tmp 18), none⟩,
 ⟨some 20, .move (.tmp 19), none⟩,
 ⟨some 21, .move (.tmp 2), (some (20, false))⟩,
 ⟨some 22, .call true (.const (.fn 25 [])) [(.tmp 21)] [], (some (20, false))⟩,
 ⟨some 23, .un .not (.tmp 22), (some (20, false))⟩,
 ⟨some 24, .pick (.tmp 20) (.const (.bool true)) (.tmp 23), none⟩])
 (.cond (.tmp 24)
 (.seq
 (.region false [
 ⟨some 6, .assign (.const (.int .i64 6)), none⟩])
 .ret)
 .skip))
 (.seq
 (.seq
 (.region true [
 ⟨some 26, .move (.tmp 0), none⟩,
 ⟨some 27, .nilCheck (.tmp 26), none⟩,
 ⟨some 28, .faddr (.tmp 27) 0, none⟩,
 ⟨some 29, .load false 1 (.tmp 28), none⟩,
 ⟨some 30, .load true 2 (.tmp 4), none⟩,
 ⟨some 31, .lookup 5023 (.sl true 0 5 [] []) true (.tmp 29) (.tmp 30), none⟩,
 ⟨some 25, .move (.tmp 31), none⟩,
 ⟨some 32, .extract (.tmp 25) 0, none⟩,
 ⟨some 33, .extract (.tmp 25) 1, none⟩,
 ⟨some 7, .move (.tmp 32), none⟩,
 ⟨some 8, .move (.tmp 33), none⟩])
 (.seq
 (.region false [
 ⟨some 34, .move (.tmp 8), none⟩])
 (.cond (.tmp 34)
 (.seq
 (.region false [
 ⟨some 6, .assign (.const (.int .i64 70)), none⟩])
 .ret)
 .skip)))
 (.seq
 (.seq
 (.region true [
 ⟨some 35, .move (.tmp 2), none⟩,
 ⟨some 36, .idxAddr (.tmp 35) (.const (.int .i64 0)) 5, none⟩,
 ⟨some 37, .faddr (.tmp 36) 0, none⟩,
 ⟨some 38, .load false 1 (.tmp 37), none⟩,
 ⟨some 39, .bin 0 .eql (.tmp 38) (.const (.int .u8 4)), none⟩,
 ⟨some 40, .move (.tmp 39), none⟩,
 ⟨some 41, .move (.tmp 2), (some (40, true))⟩,
 ⟨some 42, .idxAddr (.tmp 41) (.const (.int .i64 0)) 5, (some (40, true))⟩,
 ⟨some 43, .faddr (.tmp 42) 3, (some (40, true))⟩,
 ⟨some 44, .load true 2 (.tmp 43), (some (40, true))⟩,
 ⟨some 45, .load true 2 (.tmp 4), (some (40, true))⟩,
 ⟨some 46, .call true (.const (.fn 0 [])) [(.tmp 44), (.tmp 45)] [], (some (40, true))⟩,
 ⟨some 47, .un .not (.tmp 46), (some (40, true))⟩,
 ⟨some 48, .pick (.tmp 40) (.tmp 47) (.const (.bool false)), none⟩])
 (.cond (.tmp 48)
 (.seq
 (.region false [
 ⟨some 6, .assign (.const (.int .i64 71)), none⟩])
 .ret)
 .skip))
 (.seq
 (.region true [
 ⟨some 49, .move (.tmp 0), none⟩,
 ⟨some 50, .nilCheck (.tmp 49), none⟩,
 ⟨some 51, .faddr (.tmp 50) 0, none⟩,
 ⟨some 52, .load false 1 (.tmp 51), none⟩,
 ⟨some 53, .load true 2 (.tmp 4), none⟩,
 ⟨some 54, .move (.tmp 2), none⟩,
 ⟨some 55, .call true (.const (.fn 39 [])) [(.tmp 54)] [], none⟩,
 ⟨none, .mapSet 5023 (.tmp 52) (.tmp 53) (.tmp 55), none⟩])
 (.seq
 (.region false [
 ⟨some 6, .assign (.const (.int .i64 0)), none⟩])
 .ret))))))) }
/-- (*purlin/purlinref05.Heap).Bind -/
def tf237 : TFn := { ntmps := 103, results := [.tmp 6], body :=
 (.seq
 (.region false [
 ⟨some 4, .box 2 (.tmp 1), none⟩,
 ⟨some 6, .assign (.const (.int .i64 0)), none⟩])
 (.seq
 (.block 0
 (.seq
 (.region false [
 ⟨some 12, .move (.tmp 0), none⟩,
 ⟨some 13, .bin 2 .eql (.tmp 12) (.const .nilptr), none⟩,
 ⟨some 11, .assign (.tmp 13), none⟩])
 (.cond (.tmp 11)
 (.seq
 (.region false [
 ⟨some 6, .assign (.const (.int .i64 1)), none⟩])
 .ret)
 (.seq
 (.region false [
 ⟨some 15, .load true 2 (.tmp 4), none⟩,
 ⟨some 16, .call true (.const (.fn 15 [])) [(.tmp 15)] [], none⟩,
 ⟨some 17, .len false (.tmp 16), none⟩,
 ⟨some 18, .bin 0 .eql (.tmp 17) (.const (.int .i64 0)), none⟩,
 ⟨some 19, .move (.tmp 18), none⟩,
 ⟨some 20, .faddr (.tmp 4) 0, (some (19, false))⟩,
 ⟨some 21, .load false 1 (.tmp 20), (some (19, false))⟩,
 ⟨some 22, .bin 0 .lss (.tmp 21) (.const (.int .i64 0)), (some (19, false))⟩,
 ⟨some 23, .pick (.tmp 19) (.const (.bool true)) (.tmp 22), none⟩,
 ⟨some 24, .move (.tmp 23), none⟩,
 ⟨some 25, .move (.tmp 2), (some (24, false))⟩,
 ⟨some 26, .call true (.const (.fn 26 [])) [(.tmp 25)] [], (some (24, false))⟩,
 ⟨some 27, .un .not (.tmp 26), (some (24, false))⟩,
 ⟨some 28, .pick (.tmp 24) (.const (.bool true)) (.tmp 27), none⟩,
 ⟨some 14, .assign (.tmp 28), none⟩])
 (.cond (.tmp 14)
 (.seq
 (.region false [
 ⟨some 6, .assign (.const (.int .i64 6)), none⟩])
 .ret)
 (.seq
 (.region false [
 ⟨some 30, .move (.tmp 0), none⟩,
 ⟨some 31, .load true 2 (.tmp 4), none⟩,
 ⟨some 32, .call true (.const (.fn 260 [])) [(.tmp 30), (.tmp 31)] [], none⟩,
 ⟨some 33, .bin 0 .geq (.tmp 32) (.const (.int .i64 0)), none⟩,
 ⟨some 29, .assign (.tmp 33), none⟩])
 (.cond (.tmp 29)
 (.seq
 (.region false [
 ⟨some 6, .assign (.const (.int .i64 70)), none⟩])
 .ret)
 (.seq
 (.region true [
 ⟨some 35, .move (.tmp 2), none⟩,
 ⟨some 36, .idxAddr (.tmp 35) (.const (.int .i64 0)) 5, none⟩,
 ⟨some 37, .faddr (.tmp 36) 0, none⟩,
 ⟨some 38, .load false 1 (.tmp 37), none⟩,
 ⟨some 39, .bin 0 .eql (.tmp 38) (.const (.int .u8 4)), none⟩,
 ⟨some 40, .move (.tmp 39), none⟩,
 ⟨some 41, .move (.tmp 2), (some (40, true))⟩,
 ⟨some 42, .idxAddr (.tmp 41) (.const (.int .i64 0)) 5, (some (40, true))⟩,
 ⟨some 43, .faddr (.tmp 42) 3, (some (40, true))⟩,
 ⟨some 44, .load true 2 (.tmp 43), (some (40, true))⟩,
 ⟨some 45, .load true 2 (.tmp 4), (some (40, true))⟩,
 ⟨some 46, .call true (.const (.fn 5 [])) [(.tmp 44), (.tmp 45)] [], (some (40, true))⟩,
 ⟨some 47, .un .not (.tmp 46), (some (40, true))⟩,
 ⟨some 48, .pick (.tmp 40) (.tmp 47) (.const (.bool false)), none⟩,
 ⟨some 34, .move (.tmp 48), none⟩])
 (.cond (.tmp 34)
 (.seq
 (.region false [
 ⟨some 6, .assign (.const (.int .i64 71)), none⟩])
 .ret)
 .skip)))))))))
 (.seq
 (.region false [
 ⟨some 7, .assign (.const (.sl true 0 3 [] [])), none⟩])
 (.seq
 (.region false [
 ⟨some 8, .assign (.const (.sl true 0 5 [] [])), none⟩])
 (.seq
 (.region false [
 ⟨some 49, .move (.tmp 8), none⟩,
 ⟨some 50, .move (.tmp 2), none⟩,
 ⟨some 51, .append 5 48 (.tmp 49) (.tmp 50), none⟩,
 ⟨some 8, .assign (.tmp 51), none⟩])
 (.seq
 (.region false [
 ⟨some 9, .assign (.const (.bool false)), none⟩])
 (.seq
 (.seq
 (.region false [
 ⟨some 10, .assign (.const (.int .i64 0)), none⟩])
 (.block 1
 (.loop [0, 4, 7, 8, 9, 10]
 (.seq
 (.seq
 (.region false [
 ⟨some 52, .move (.tmp 10), none⟩,
 ⟨some 53, .move (.tmp 0), none⟩,
 ⟨some 54, .nilCheck (.tmp 53), none⟩,
 ⟨some 55, .faddr (.tmp 54) 0, none⟩,
 ⟨some 56, .load false 1 (.tmp 55), none⟩,
 ⟨some 57, .len false (.tmp 56), none⟩,
 ⟨some 58, .bin 0 .lss (.tmp 52) (.tmp 57), none⟩])
 (.cond (.tmp 58)
 .skip
 (.exit 1)))
 (.seq
 (.block 2
 (.seq
 (.seq
 (.region true [
 ⟨some 61, .move (.tmp 9), none⟩,
 ⟨some 62, .un .not (.tmp 61), none⟩,
 ⟨some 63, .move (.tmp 62), none⟩,
 ⟨some 64, .load true 2 (.tmp 4), (some (63, true))⟩,
 ⟨some 65, .move (.tmp 0), (some (63, true))⟩,
 ⟨some 66, .nilCheck (.tmp 65), (some (63, true))⟩,
 ⟨some 67, .faddr (.tmp 66) 0, (some (63, true))⟩,
 ⟨some 68, .load false 1 (.tmp 67), (some (63, true))⟩,
 ⟨some 69, .move (.tmp 10), (some (63, true))⟩,
 ⟨some 70, .idxAddr (.tmp 68) (.tmp 69) 3, (some (63, true))⟩,
 ⟨some 71, .faddr (.tmp 70) 0, (some (63, true))⟩,
 ⟨some 72, .load true 2 (.tmp 71), (some (63, true))⟩,
 ⟨some 73, .call true (.const (.fn 5 [])) [(.tmp 64), (.tmp 72)] [], (some (63, true))⟩,
 ⟨some 74, .pick (.tmp 63) (.tmp 73) (.const (.bool false)), none⟩])
 (.cond (.tmp 74)
 (.seq
 (.region false [
 ⟨some 75, .move (.tmp 7), none⟩,
 ⟨some 76, .load true 2 (.tmp 4), none⟩,
 ⟨some 77, .move (.tmp 8), none⟩,
 ⟨some 78, .build [.int .i64 0, .int .i64 0, .sl true 0 5 [] []] [(0, 2, (.tmp 76)), (2, 1, (.tmp 77))], none⟩,
 ⟨some 79, .buildSlice 1 3 [.int .i64 0, .int .i64 0, .sl true 0 5 [] []] [(0, (.tmp 78))], none⟩,
 ⟨some 80, .append 3 40 (.tmp 75) (.tmp 79), none⟩,
 ⟨some 7, .assign (.tmp 80), none⟩])
 (.region false [
 ⟨some 9, .assign (.const (.bool true)), none⟩]))
 .skip))
 (.region false [
 ⟨some 81, .move (.tmp 7), none⟩,
 ⟨some 82, .move (.tmp 0), none⟩,
 ⟨some 83, .nilCheck (.tmp 82), none⟩,
 ⟨some 84, .faddr (.tmp 83) 0, none⟩,
 ⟨some 85, .load false 1 (.tmp 84), none⟩,
 ⟨some 86, .move (.tmp 10), none⟩,
 ⟨some 87, .idxAddr (.tmp 85) (.tmp 86) 3, none⟩,
 ⟨some 88, .load true 3 (.tmp 87), none⟩,
 ⟨some 89, .buildSlice 1 3 [.int .i64 0, .int .i64 0, .sl true 0 5 [] []] [(0, (.tmp 88))], none⟩,
 ⟨some 90, .append 3 40 (.tmp 81) (.tmp 89), none⟩,
 ⟨some 7, .assign (.tmp 90), none⟩])))
 (.region false [
 ⟨some 59, .move (.tmp 10), none⟩,
 ⟨some 60, .bin 0 .add (.tmp 59) (.const (.int .i64 1)), none⟩,
 ⟨some 10, .assign (.tmp 60), none⟩]))))))
 (.seq
 (.seq
 (.region false [
 ⟨some 91, .move (.tmp 9), none⟩,
 ⟨some 92, .un .not (.tmp 91), none⟩])
 (.cond (.tmp 92)
 (.region false [
 ⟨some 93, .move (.tmp 7), none⟩,
 ⟨some 94, .load true 2 (.tmp 4), none⟩,
 ⟨some 95, .move (.tmp 8), none⟩,
 ⟨some 96, .build [.int .i64 0, .int .i64 0, .sl true 0 5 [] []] [(0, 2, (.tmp 94)), (2, 1, (.tmp 95))], none⟩,
 ⟨some 97, .buildSlice 1 3 [.int .i64 0, .int .i64 0, .sl true 0 5 [] []] [(0, (.tmp 96))], none⟩,
 ⟨some 98, .append 3 40 (.tmp 93) (.tmp 97), none⟩,
 ⟨some 7, .assign (.tmp 98), none⟩])
 .skip))
 (.seq
 (.region false [
 ⟨some 99, .move (.tmp 0), none⟩,
 ⟨some 100, .move (.tmp 7), none⟩,
 ⟨some 101, .nilCheck (.tmp 99), none⟩,
 ⟨some 102, .faddr (.tmp 101) 0, none⟩,
 ⟨none, .store 1 (.tmp 102) (.tmp 100), none⟩])
 (.seq
 (.region false [
 ⟨some 6, .assign (.const (.int .i64 0)), none⟩])
 .ret)))))))))) }
/-- purlin/arith.reckon -/
def tf238 : TFn := { ntmps := 102, results := [.cell 4 true 3], body :=
 (.seq
 (.region false [
 ⟨some 4, .box 3 (.const (.agg [.int .i64 0, .bool false, .sl true 0 2 [] []])), none⟩])
 (.seq
 (.seq
 (.region false [
 ⟨some 14, .move (.tmp 1), none⟩,
 ⟨some 15, .idxAddr (.tmp 14) (.const (.int .i64 0)) 5, none⟩,
 ⟨some 16, .load true 5 (.tmp 15), none⟩,
 ⟨some 5, .box 5 (.const (.agg [.int .u8 0, .str ⟨#[]⟩, .int .i64 0, .int .i64 0, .int .i64 0])), none⟩,
 ⟨none, .store 5 (.tmp 5) (.tmp 16), none⟩])
 (.block 0
 (.seq
 (.region false [
 ⟨some 18, .faddr (.tmp 5) 0, none⟩,
 ⟨some 19, .load false 1 (.tmp 18), none⟩,
 ⟨some 20, .bin 0 .eql (.tmp 19) (.const (.int .u8 1)), none⟩,
 ⟨some 17, .assign (.tmp 20), none⟩])
 (.cond (.tmp 17)
 (.seq
 (.region false [
 ⟨some 21, .faddr (.tmp 5) 2, none⟩,
 ⟨some 22, .load false 1 (.tmp 21), none⟩,
 ⟨some 23, .build [.int .i64 0, .bool false, .sl true 0 2 [] []] [(0, 1, (.tmp 22))], none⟩,
 ⟨none, .store 3 (.tmp 4) (.tmp 23), none⟩])
 .ret)
 (.seq
 (.region false [
 ⟨some 25, .faddr (.tmp 5) 0, none⟩,
 ⟨some 26, .load false 1 (.tmp 25), none⟩,
 ⟨some 27, .bin 0 .eql (.tmp 26) (.const (.int .u8 4)), none⟩,
 ⟨some 24, .assign (.tmp 27), none⟩])
 (.cond (.tmp 24)
 (.seq
 (.region false [
 ⟨some 28, .move (.tmp 0), none⟩,
 ⟨some 29, .move (.tmp 1), none⟩,
 ⟨some 30, .call true (.const (.fn 250 [])) [(.tmp 28), (.tmp 29)] [], none⟩,
 ⟨some 6, .assign (.tmp 30), none⟩])
 (.seq
 (.seq
 (.region false [
 ⟨some 31, .move (.tmp 6), none⟩,
 ⟨some 32, .idxAddr (.tmp 31) (.const (.int .i64 0)) 5, none⟩,
 ⟨some 33, .faddr (.tmp 32) 0, none⟩,
 ⟨some 34, .load false 1 (.tmp 33), none⟩])
 (.block 1
 (.seq
 (.region false [
 ⟨some 36, .bin 0 .eql (.tmp 34) (.const (.int .u8 1)), none⟩,
 ⟨some 35, .assign (.tmp 36), none⟩])
 (.cond (.tmp 35)
 (.seq
 (.region false [
 ⟨some 37, .move (.tmp 6), none⟩,
 ⟨some 38, .idxAddr (.tmp 37) (.const (.int .i64 0)) 5, none⟩,
 ⟨some 39, .faddr (.tmp 38) 2, none⟩,
 ⟨some 40, .load false 1 (.tmp 39), none⟩,
 ⟨some 41, .build [.int .i64 0, .bool false, .sl true 0 2 [] []] [(0, 1, (.tmp 40))], none⟩,
 ⟨none, .store 3 (.tmp 4) (.tmp 41), none⟩])
 .ret)
 (.seq
 (.region false [
 ⟨some 43, .bin 0 .eql (.tmp 34) (.const (.int .u8 4)), none⟩,
 ⟨some 42, .assign (.tmp 43), none⟩])
 (.cond (.tmp 42)
 (.seq
 (.region false [
 ⟨some 44, .move (.tmp 6), none⟩,
 ⟨some 45, .idxAddr (.tmp 44) (.const (.int .i64 0)) 5, none⟩,
 ⟨some 46, .faddr (.tmp 45) 3, none⟩,
 ⟨some 47, .load true 2 (.tmp 46), none⟩,
 ⟨some 48, .buildSlice 1 2 [.int .i64 0, .int .i64 0] [(0, (.tmp 47))], none⟩,
 ⟨some 49, .build [.int .i64 0, .bool false, .sl true 0 2 [] []] [(2, 1, (.tmp 48))], none⟩,
 ⟨none, .store 3 (.tmp 4) (.tmp 49), none⟩])
 .ret)
 .skip))))))
 (.seq
 (.region false [
 ⟨some 50, .build [.int .i64 0, .bool false, .sl true 0 2 [] []] [(1, 1, (.const (.bool true)))], none⟩,
 ⟨none, .store 3 (.tmp 4) (.tmp 50), none⟩])
 .ret)))
 (.seq
 (.region false [
 ⟨some 52, .load true 5 (.tmp 5), none⟩,
 ⟨some 53, .call true (.const (.fn 261 [])) [(.tmp 52)] [], none⟩,
 ⟨some 54, .un .not (.tmp 53), none⟩,
 ⟨some 51, .assign (.tmp 54), none⟩])
 (.cond (.tmp 51)
 (.seq
 (.region false [
 ⟨some 55, .build [.int .i64 0, .bool false, .sl true 0 2 [] []] [(1, 1, (.const (.bool true)))], none⟩,
 ⟨none, .store 3 (.tmp 4) (.tmp 55), none⟩])
 .ret)
 .skip))))))))
 (.seq
 (.region false [
 ⟨some 7, .box 3 (.const (.agg [.int .i64 0, .bool false, .sl true 0 2 [] []])), none⟩])
 (.seq
 (.region false [
 ⟨some 8, .assign (.const (.sl true 0 1 [] [])), none⟩])
 (.seq
 (.seq
 (.region false [
 ⟨some 56, .move (.tmp 1), none⟩,
 ⟨some 57, .call true (.const (.fn 17 [])) [(.tmp 56)] [], none⟩,
 ⟨some 58, .len false (.tmp 57), none⟩,
 ⟨some 59, .move (.const (.int .i64 0)), none⟩])
 (.block 2
 (.loop [0, 1, 4, 7, 8, 57, 58, 59]
 (.seq
 (.region false [
 ⟨some 60, .bin 0 .lss (.tmp 59) (.tmp 58), none⟩])
 (.seq
 (.cond (.tmp 60)
 .skip
 (.exit 2))
 (.seq
 (.block 3
 (.seq
 (.region false [
 ⟨some 61, .idxAddr (.tmp 57) (.tmp 59) 1, none⟩,
 ⟨some 62, .load false 1 (.tmp 61), none⟩,
 ⟨some 10, .assign (.tmp 62), none⟩])
 (.seq
 (.region false [
 ⟨some 63, .move (.tmp 0), none⟩,
 ⟨some 64, .move (.tmp 10), none⟩,
 ⟨some 65, .call true (.const (.fn 238 [])) [(.tmp 63), (.tmp 64)] [], none⟩,
 ⟨some 11, .box 3 (.const (.agg [.int .i64 0, .bool false, .sl true 0 2 [] []])), none⟩,
 ⟨none, .store 3 (.tmp 11) (.tmp 65), none⟩])
 (.seq
 (.region false [
 ⟨some 66, .faddr (.tmp 7) 1, none⟩,
 ⟨some 67, .load false 1 (.tmp 66), none⟩,
 ⟨some 68, .move (.tmp 67), none⟩,
 ⟨some 69, .faddr (.tmp 11) 1, (some (68, false))⟩,
 ⟨some 70, .load false 1 (.tmp 69), (some (68, false))⟩,
 ⟨some 71, .pick (.tmp 68) (.const (.bool true)) (.tmp 70), none⟩,
 ⟨some 72, .faddr (.tmp 7) 1, none⟩,
 ⟨none, .store 1 (.tmp 72) (.tmp 71), none⟩])
 (.seq
 (.region false [
 ⟨some 73, .faddr (.tmp 7) 2, none⟩,
 ⟨some 74, .load false 1 (.tmp 73), none⟩,
 ⟨some 75, .faddr (.tmp 11) 2, none⟩,
 ⟨some 76, .load false 1 (.tmp 75), none⟩,
 ⟨some 77, .call true (.const (.fn 254 [])) [(.tmp 74), (.tmp 76)] [0], none⟩,
 ⟨some 78, .faddr (.tmp 7) 2, none⟩,
 ⟨none, .store 1 (.tmp 78) (.tmp 77), none⟩])
 (.region false [
 ⟨some 79, .move (.tmp 8), none⟩,
 ⟨some 80, .faddr (.tmp 11) 0, none⟩,
 ⟨some 81, .load false 1 (.tmp 80), none⟩,
 ⟨some 82, .buildSlice 1 1 [.int .i64 0] [(0, (.tmp 81))], none⟩,
 ⟨some 83, .append 1 8 (.tmp 79) (.tmp 82), none⟩,
 ⟨some 8, .assign (.tmp 83), none⟩]))))))
 (.region false [
 ⟨some 84, .bin 0 .add (.tmp 59) (.const (.int .i64 1)), none⟩,
 ⟨some 59, .move (.tmp 84), none⟩])))))))
 (.seq
 (.seq
 (.region false [
 ⟨some 85, .load true 3 (.tmp 7), none⟩,
 ⟨some 86, .call true (.const (.fn 239 [])) [(.tmp 85)] [], none⟩,
 ⟨some 87, .bin 0 .neq (.tmp 86) (.const (.int .u8 1)), none⟩])
 (.cond (.tmp 87)
 (.seq
 (.region false [
 ⟨some 88, .load true 3 (.tmp 7), none⟩,
 ⟨none, .store 3 (.tmp 4) (.tmp 88), none⟩])
 .ret)
 .skip))
 (.seq
 (.region false [
 ⟨some 90, .move (.tmp 1), none⟩,
 ⟨some 91, .idxAddr (.tmp 90) (.const (.int .i64 0)) 5, none⟩,
 ⟨some 92, .faddr (.tmp 91) 1, none⟩,
 ⟨some 93, .load false 1 (.tmp 92), none⟩,
 ⟨some 94, .move (.tmp 8), none⟩,
 ⟨some 95, .call true (.const (.fn 222 [])) [(.tmp 93), (.tmp 94)] [], none⟩,
 ⟨some 89, .move (.tmp 95), none⟩,
 ⟨some 96, .extract (.tmp 89) 0, none⟩,
 ⟨some 97, .extract (.tmp 89) 1, none⟩,
 ⟨some 12, .assign (.tmp 96), none⟩,
 ⟨some 13, .assign (.tmp 97), none⟩])
 (.seq
 (.region false [
 ⟨some 98, .move (.tmp 12), none⟩,
 ⟨some 99, .move (.tmp 13), none⟩,
 ⟨some 100, .un .not (.tmp 99), none⟩,
 ⟨some 101, .build [.int .i64 0, .bool false, .sl true 0 2 [] []] [(0, 1, (.tmp 98)), (1, 1, (.tmp 100))], none⟩,
 ⟨none, .store 3 (.tmp 4) (.tmp 101), none⟩])
 .ret)))))))) }
/-- (purlin/arith.sum).outcome -/
def tf239 : TFn := { ntmps := 11, results := [.tmp 2], body :=
 (.seq
 (.region false [
 ⟨some 1, .box 3 (.tmp 0), none⟩,
 ⟨some 2, .assign (.const (.int .u8 0)), none⟩])
 (.seq
 (.block 0
 (.seq
 (.region false [
 ⟨some 4, .faddr (.tmp 1) 1, none⟩,
 ⟨some 5, .load false 1 (.tmp 4), none⟩,
 ⟨some 3, .assign (.tmp 5), none⟩])
 (.cond (.tmp 3)
 (.seq
 (.region false [
 ⟨some 2, .assign (.const (.int .u8 2)), none⟩])
 .ret)
 (.seq
 (.region false [
 ⟨some 7, .faddr (.tmp 1) 2, none⟩,
 ⟨some 8, .load false 1 (.tmp 7), none⟩,
 ⟨some 9, .len false (.tmp 8), none⟩,
 ⟨some 10, .bin 0 .gtr (.tmp 9) (.const (.int .i64 0)), none⟩,
 ⟨some 6, .assign (.tmp 10), none⟩])
 (.cond (.tmp 6)
 (.seq
 (.region false [
 ⟨some 2, .assign (.const (.int .u8 3)), none⟩])
 .ret)
 .skip)))))
 (.seq
 (.region false [
 ⟨some 2, .assign (.const (.int .u8 1)), none⟩])
 .ret))) }
/-- purlin/purlinref06.sum -/
def tf240 : TFn := { ntmps := 107, results := [.tmp 4, .tmp 5, .tmp 6], body :=
 (.seq
 (.region false [
 ⟨some 4, .assign (.const (.int .i64 0)), none⟩,
 ⟨some 5, .assign (.const (.int .u8 0)), none⟩,
 ⟨some 6, .assign (.const (.sl true 0 2 [] [])), none⟩])
 (.seq
 (.seq
 (.region false [
 ⟨some 18, .move (.tmp 1), none⟩,
 ⟨some 19, .idxAddr (.tmp 18) (.const (.int .i64 0)) 5, none⟩,
 ⟨some 20, .faddr (.tmp 19) 0, none⟩,
 ⟨some 21, .load false 1 (.tmp 20), none⟩])
 (.block 0
 (.seq
 (.region false [
 ⟨some 23, .bin 0 .eql (.tmp 21) (.const (.int .u8 1)), none⟩,
 ⟨some 22, .assign (.tmp 23), none⟩])
 (.cond (.tmp 22)
 (.seq
 (.region false [
 ⟨some 24, .move (.tmp 1), none⟩,
 ⟨some 25, .idxAddr (.tmp 24) (.const (.int .i64 0)) 5, none⟩,
 ⟨some 26, .faddr (.tmp 25) 2, none⟩,
 ⟨some 27, .load false 1 (.tmp 26), none⟩,
 ⟨some 4, .assign (.tmp 27), none⟩,
 ⟨some 5, .assign (.const (.int .u8 1)), none⟩,
 ⟨some 6, .assign (.const (.sl true 0 2 [] [])), none⟩])
 .ret)
 (.seq
 (.region false [
 ⟨some 29, .bin 0 .eql (.tmp 21) (.const (.int .u8 4)), none⟩,
 ⟨some 28, .assign (.tmp 29), none⟩])
 (.cond (.tmp 28)
 (.seq
 (.region false [
 ⟨some 30, .move (.tmp 0), none⟩,
 ⟨some 31, .move (.tmp 1), none⟩,
 ⟨some 32, .call true (.const (.fn 227 [])) [(.tmp 30), (.tmp 31)] [], none⟩,
 ⟨some 7, .assign (.tmp 32), none⟩])
 (.seq
 (.seq
 (.region false [
 ⟨some 33, .move (.tmp 7), none⟩,
 ⟨some 34, .idxAddr (.tmp 33) (.const (.int .i64 0)) 5, none⟩,
 ⟨some 35, .faddr (.tmp 34) 0, none⟩,
 ⟨some 36, .load false 1 (.tmp 35), none⟩])
 (.block 1
 (.seq
 (.region false [
 ⟨some 38, .bin 0 .eql (.tmp 36) (.const (.int .u8 1)), none⟩,
 ⟨some 37, .assign (.tmp 38), none⟩])
 (.cond (.tmp 37)
 (.seq
 (.region false [
 ⟨some 39, .move (.tmp 7), none⟩,
 ⟨some 40, .idxAddr (.tmp 39) (.const (.int .i64 0)) 5, none⟩,
 ⟨some 41, .faddr (.tmp 40) 2, none⟩,
 ⟨some 42, .load false 1 (.tmp 41), none⟩,
 ⟨some 4, .assign (.tmp 42), none⟩,
 ⟨some 5, .assign (.const (.int .u8 1)), none⟩,
 ⟨some 6, .assign (.const (.sl true 0 2 [] [])), none⟩])
 .ret)
 (.seq
 (.region false [
 ⟨some 44, .bin 0 .eql (.tmp 36) (.const (.int .u8 4)), none⟩,
 ⟨some 43, .assign (.tmp 44), none⟩])
 (.cond (.tmp 43)
 (.seq
 (.region true [
 ⟨some 45, .move (.tmp 7), none⟩,
 ⟨some 46, .idxAddr (.tmp 45) (.const (.int .i64 0)) 5, none⟩,
 ⟨some 47, .faddr (.tmp 46) 3, none⟩,
 ⟨some 48, .load true 2 (.tmp 47), none⟩,
 ⟨some 49, .buildSlice 1 2 [.int .i64 0, .int .i64 0] [(0, (.tmp 48))], none⟩,
 ⟨some 4, .move (.const (.int .i64 0)), none⟩,
 ⟨some 5, .move (.const (.int .u8 3)), none⟩,
 ⟨some 6, .move (.tmp 49), none⟩])
 .ret)
 .skip))))))
 (.seq
 (.region false [
 ⟨some 4, .assign (.const (.int .i64 0)), none⟩,
 ⟨some 5, .assign (.const (.int .u8 2)), none⟩,
 ⟨some 6, .assign (.const (.sl true 0 2 [] [])), none⟩])
 .ret)))
 (.seq
 (.region false [
 ⟨some 51, .bin 0 .eql (.tmp 21) (.const (.int .u8 2)), none⟩,
 ⟨some 50, .assign (.tmp 51), none⟩])
 (.cond (.tmp 50)
 (.seq
 (.region false [
 ⟨some 4, .assign (.const (.int .i64 0)), none⟩,
 ⟨some 5, .assign (.const (.int .u8 2)), none⟩,
 ⟨some 6, .assign (.const (.sl true 0 2 [] [])), none⟩])
 .ret)
 .skip))))))))
 (.seq
 (.region false [
 ⟨some 52, .move (.tmp 1), none⟩,
 ⟨some 53, .call true (.const (.fn 29 [])) [(.tmp 52)] [], none⟩,
 ⟨some 8, .assign (.tmp 53), none⟩])
 (.seq
 (.seq
 (.region false [
 ⟨some 54, .move (.tmp 1), none⟩,
 ⟨some 55, .idxAddr (.tmp 54) (.const (.int .i64 0)) 5, none⟩,
 ⟨some 56, .faddr (.tmp 55) 1, none⟩,
 ⟨some 57, .load false 1 (.tmp 56), none⟩,
 ⟨some 58, .move (.tmp 8), none⟩,
 ⟨some 59, .len false (.tmp 58), none⟩,
 ⟨some 60, .call true (.const (.fn 262 [])) [(.tmp 57), (.tmp 59)] [], none⟩,
 ⟨some 61, .un .not (.tmp 60), none⟩])
 (.cond (.tmp 61)
 (.seq
 (.region false [
 ⟨some 4, .assign (.const (.int .i64 0)), none⟩,
 ⟨some 5, .assign (.const (.int .u8 2)), none⟩,
 ⟨some 6, .assign (.const (.sl true 0 2 [] [])), none⟩])
 .ret)
 .skip))
 (.seq
 (.region false [
 ⟨some 9, .assign (.const (.sl true 0 2 [] [])), none⟩])
 (.seq
 (.region false [
 ⟨some 10, .assign (.const (.sl true 0 1 [] [])), none⟩])
 (.seq
 (.region false [
 ⟨some 11, .assign (.const (.bool false)), none⟩])
 (.seq
 (.seq
 (.region false [
 ⟨some 12, .assign (.const (.int .i64 0)), none⟩])
 (.block 2
 (.loop [0, 1, 8, 9, 10, 11, 12]
 (.seq
 (.seq
 (.region false [
 ⟨some 62, .move (.tmp 12), none⟩,
 ⟨some 63, .move (.tmp 8), none⟩,
 ⟨some 64, .len false (.tmp 63), none⟩,
 ⟨some 65, .bin 0 .lss (.tmp 62) (.tmp 64), none⟩])
 (.cond (.tmp 65)
 .skip
 (.exit 2)))
 (.seq
 (.block 3
 (.seq
 (.region false [
 ⟨some 69, .move (.tmp 0), none⟩,
 ⟨some 70, .move (.tmp 8), none⟩,
 ⟨some 71, .move (.tmp 12), none⟩,
 ⟨some 72, .idxAddr (.tmp 70) (.tmp 71) 1, none⟩,
 ⟨some 73, .load false 1 (.tmp 72), none⟩,
 ⟨some 74, .call true (.const (.fn 240 [])) [(.tmp 69), (.tmp 73)] [], none⟩,
 ⟨some 68, .move (.tmp 74), none⟩,
 ⟨some 75, .extract (.tmp 68) 0, none⟩,
 ⟨some 76, .extract (.tmp 68) 1, none⟩,
 ⟨some 77, .extract (.tmp 68) 2, none⟩,
 ⟨some 13, .assign (.tmp 75), none⟩,
 ⟨some 14, .assign (.tmp 76), none⟩,
 ⟨some 15, .assign (.tmp 77), none⟩])
 (.seq
 (.region false [
 ⟨some 78, .move (.tmp 11), none⟩,
 ⟨some 79, .move (.tmp 78), none⟩,
 ⟨some 80, .move (.tmp 14), (some (79, false))⟩,
 ⟨some 81, .bin 0 .eql (.tmp 80) (.const (.int .u8 2)), (some (79, false))⟩,
 ⟨some 82, .pick (.tmp 79) (.const (.bool true)) (.tmp 81), none⟩,
 ⟨some 11, .assign (.tmp 82), none⟩])
 (.seq
 (.region false [
 ⟨some 83, .move (.tmp 9), none⟩,
 ⟨some 84, .move (.tmp 15), none⟩,
 ⟨some 85, .call true (.const (.fn 255 [])) [(.tmp 83), (.tmp 84)] [], none⟩,
 ⟨some 9, .assign (.tmp 85), none⟩])
 (.region false [
 ⟨some 86, .move (.tmp 10), none⟩,
 ⟨some 87, .move (.tmp 13), none⟩,
 ⟨some 88, .buildSlice 1 1 [.int .i64 0] [(0, (.tmp 87))], none⟩,
 ⟨some 89, .append 1 8 (.tmp 86) (.tmp 88), none⟩,
 ⟨some 10, .assign (.tmp 89), none⟩])))))
 (.region false [
 ⟨some 66, .move (.tmp 12), none⟩,
 ⟨some 67, .bin 0 .add (.tmp 66) (.const (.int .i64 1)), none⟩,
 ⟨some 12, .assign (.tmp 67), none⟩]))))))
 (.seq
 (.seq
 (.region false [
 ⟨some 90, .move (.tmp 11), none⟩])
 (.cond (.tmp 90)
 (.seq
 (.region false [
 ⟨some 4, .assign (.const (.int .i64 0)), none⟩,
 ⟨some 5, .assign (.const (.int .u8 2)), none⟩,
 ⟨some 6, .assign (.const (.sl true 0 2 [] [])), none⟩])
 .ret)
 .skip))
 (.seq
 (.seq
 (.region false [
 ⟨some 91, .move (.tmp 9), none⟩,
 ⟨some 92, .len false (.tmp 91), none⟩,
 ⟨some 93, .bin 0 .gtr (.tmp 92) (.const (.int .i64 0)), none⟩])
 (.cond (.tmp 93)
 (.seq
 (.region false [
 ⟨some 94, .move (.tmp 9), none⟩,
 ⟨some 4, .assign (.const (.int .i64 0)), none⟩,
 ⟨some 5, .assign (.const (.int .u8 3)), none⟩,
 ⟨some 6, .assign (.tmp 94), none⟩])
 .ret)
 .skip))
 (.seq
 (.region false [
 ⟨some 96, .move (.tmp 1), none⟩,
 ⟨some 97, .idxAddr (.tmp 96) (.const (.int .i64 0)) 5, none⟩,
 ⟨some 98, .faddr (.tmp 97) 1, none⟩,
 ⟨some 99, .load false 1 (.tmp 98), none⟩,
 ⟨some 100, .move (.tmp 10), none⟩,
 ⟨some 101, .call true (.const (.fn 223 [])) [(.tmp 99), (.tmp 100)] [], none⟩,
 ⟨some 95, .move (.tmp 101), none⟩,
 ⟨some 102, .extract (.tmp 95) 0, none⟩,
 ⟨some 103, .extract (.tmp 95) 1, none⟩,
 ⟨some 16, .assign (.tmp 102), none⟩,
 ⟨some 17, .assign (.tmp 103), none⟩])
 (.seq
 (.seq
 (.region false [
 ⟨some 104, .move (.tmp 17), none⟩,
 ⟨some 105, .un .not (.tmp 104), none⟩])
 (.cond (.tmp 105)
 (.seq
 (.region false [
 ⟨some 4, .assign (.const (.int .i64 0)), none⟩,
 ⟨some 5, .assign (.const (.int .u8 2)), none⟩,
 ⟨some 6, .assign (.const (.sl true 0 2 [] [])), none⟩])
 .ret)
 .skip))
 (.seq
 (.region false [
 ⟨some 106, .move (.tmp 16), none⟩,
 ⟨some 4, .assign (.tmp 106), none⟩,
 ⟨some 5, .assign (.const (.int .u8 1)), none⟩,
 ⟨some 6, .assign (.const (.sl true 0 2 [] [])), none⟩])
 .ret))))))))))))) }
/-- slices.ContainsFunc[[]int,int] -/
def tf241 : TFn := { ntmps := 9, results := [.tmp 4], body :=
 (.seq
 (.region false [
 ⟨some 4, .assign (.const (.bool false)), none⟩])
 (.seq
 (.region false [
 ⟨some 5, .move (.tmp 0), none⟩,
 ⟨some 6, .move (.tmp 1), none⟩,
 ⟨some 7, .call true (.const (.fn 263 [])) [(.tmp 5), (.tmp 6)] [], none⟩,
 ⟨some 8, .bin 0 .geq (.tmp 7) (.const (.int .i64 0)), none⟩,
 ⟨some 4, .assign (.tmp 8), none⟩])
 .ret)) }
/-- purlin/arith.Reckon$1 -/
def tf242 : TFn := { ntmps := 6, results := [.tmp 2], body :=
 (.seq
 (.region false [
 ⟨some 2, .assign (.const (.bool false)), none⟩])
 (.seq
 (.region false [
 ⟨some 3, .move (.tmp 0), none⟩,
 ⟨some 4, .call true (.const (.fn 245 [])) [(.tmp 3)] [], none⟩,
 ⟨some 5, .un .not (.tmp 4), none⟩,
 ⟨some 2, .assign (.tmp 5), none⟩])
 .ret)) }
/-- purlin/arith.product -/
def tf243 : TFn := { ntmps := 28, results := [.tmp 4, .tmp 5], body :=
 (.seq
 (.region false [
 ⟨some 4, .assign (.const (.int .i64 0)), none⟩,
 ⟨some 5, .assign (.const (.bool false)), none⟩])
 (.seq
 (.region false [
 ⟨some 6, .assign (.const (.fn 264 [])), none⟩])
 (.seq
 (.region false [
 ⟨some 10, .move (.tmp 6), none⟩,
 ⟨some 11, .move (.tmp 0), none⟩,
 ⟨some 12, .call true (.tmp 10) [(.tmp 11)] [], none⟩,
 ⟨some 13, .move (.tmp 6), none⟩,
 ⟨some 14, .move (.tmp 1), none⟩,
 ⟨some 15, .call true (.tmp 13) [(.tmp 14)] [], none⟩,
 ⟨some 16, .call true (.const (.fn 265 [])) [(.tmp 12), (.tmp 15)] [], none⟩,
 ⟨some 9, .move (.tmp 16), none⟩,
 ⟨some 17, .extract (.tmp 9) 0, none⟩,
 ⟨some 18, .extract (.tmp 9) 1, none⟩,
 ⟨some 7, .assign (.tmp 17), none⟩,
 ⟨some 8, .assign (.tmp 18), none⟩])
 (.seq
 (.seq
 (.region false [
 ⟨some 19, .move (.tmp 7), none⟩,
 ⟨some 20, .bin 0 .gtr (.tmp 19) (.const (.int .u64 0)), none⟩,
 ⟨some 21, .move (.tmp 20), none⟩,
 ⟨some 22, .move (.tmp 8), (some (21, false))⟩,
 ⟨some 23, .bin 0 .gtr (.tmp 22) (.const (.int .u64 2147483648)), (some (21, false))⟩,
 ⟨some 24, .pick (.tmp 21) (.const (.bool true)) (.tmp 23), none⟩])
 (.cond (.tmp 24)
 (.seq
 (.region false [
 ⟨some 4, .assign (.const (.int .i64 0)), none⟩,
 ⟨some 5, .assign (.const (.bool false)), none⟩])
 .ret)
 .skip))
 (.seq
 (.region false [
 ⟨some 25, .move (.tmp 0), none⟩,
 ⟨some 26, .move (.tmp 1), none⟩,
 ⟨some 27, .bin 0 .mul (.tmp 25) (.tmp 26), none⟩,
 ⟨some 4, .assign (.tmp 27), none⟩,
 ⟨some 5, .assign (.const (.bool true)), none⟩])
 .ret))))) }
/-- purlin/arith.floor -/
def tf244 : TFn := { ntmps := 23, results := [.tmp 4], body :=
 (.seq
 (.region false [
 ⟨some 4, .assign (.const (.int .i64 0)), none⟩])
 (.seq
 (.region false [
 ⟨some 6, .move (.tmp 0), none⟩,
 ⟨some 7, .move (.tmp 1), none⟩,
 ⟨some 8, .bin 0 .quo (.tmp 6) (.tmp 7), none⟩,
 ⟨some 5, .assign (.tmp 8), none⟩])
 (.seq
 (.seq
 (.region false [
 ⟨some 9, .move (.tmp 0), none⟩,
 ⟨some 10, .move (.tmp 1), none⟩,
 ⟨some 11, .bin 0 .rem (.tmp 9) (.tmp 10), none⟩,
 ⟨some 12, .bin 0 .neq (.tmp 11) (.const (.int .i64 0)), none⟩,
 ⟨some 13, .move (.tmp 12), none⟩,
 ⟨some 14, .move (.tmp 0), (some (13, true))⟩,
 ⟨some 15, .bin 0 .lss (.tmp 14) (.const (.int .i64 0)), (some (13, true))⟩,
 ⟨some 16, .move (.tmp 1), (some (13, true))⟩,
 ⟨some 17, .bin 0 .lss (.tmp 16) (.const (.int .i64 0)), (some (13, true))⟩,
 ⟨some 18, .bin 1 .neq (.tmp 15) (.tmp 17), (some (13, true))⟩,
 ⟨some 19, .pick (.tmp 13) (.tmp 18) (.const (.bool false)), none⟩])
 (.cond (.tmp 19)
 (.region false [
 ⟨some 20, .move (.tmp 5), none⟩,
 ⟨some 21, .bin 0 .sub (.tmp 20) (.const (.int .i64 1)), none⟩,
 ⟨some 5, .assign (.tmp 21), none⟩])
 .skip))
 (.seq
 (.region false [
 ⟨some 22, .move (.tmp 5), none⟩,
 ⟨some 4, .assign (.tmp 22), none⟩])
 .ret)))) }
/-- purlin/arith.may -/
def tf245 : TFn := { ntmps := 9, results := [.tmp 2], body :=
 (.seq
 (.region false [
 ⟨some 2, .assign (.const (.bool false)), none⟩])
 (.seq
 (.region false [
 ⟨some 3, .move (.tmp 0), none⟩,
 ⟨some 4, .bin 0 .geq (.tmp 3) (.const (.int .i64 (-2147483648))), none⟩,
 ⟨some 5, .move (.tmp 4), none⟩,
 ⟨some 6, .move (.tmp 0), (some (5, true))⟩,
 ⟨some 7, .bin 0 .leq (.tmp 6) (.const (.int .i64 2147483648)), (some (5, true))⟩,
 ⟨some 8, .pick (.tmp 5) (.tmp 7) (.const (.bool false)), none⟩,
 ⟨some 2, .assign (.tmp 8), none⟩])
 .ret)) }
/-- purlin/purlinref06.may -/
def tf246 : TFn := { ntmps := 9, results := [.tmp 2], body :=
 (.seq
 (.region false [
 ⟨some 2, .assign (.const (.bool false)), none⟩])
 (.seq
 (.region false [
 ⟨some 3, .move (.tmp 0), none⟩,
 ⟨some 4, .bin 0 .geq (.tmp 3) (.const (.int .i64 (-2147483648))), none⟩,
 ⟨some 5, .move (.tmp 4), none⟩,
 ⟨some 6, .move (.tmp 0), (some (5, true))⟩,
 ⟨some 7, .bin 0 .leq (.tmp 6) (.const (.int .i64 2147483648)), (some (5, true))⟩,
 ⟨some 8, .pick (.tmp 5) (.tmp 7) (.const (.bool false)), none⟩,
 ⟨some 2, .assign (.tmp 8), none⟩])
 .ret)) }
/-- (*purlin/heap.Heap).Deref -/
def tf250 : TFn := { ntmps := 9, results := [.tmp 4], body :=
 (.seq
 (.region false [
 ⟨some 4, .assign (.const (.sl true 0 5 [] [])), none⟩])
 (.seq
 (.region false [
 ⟨some 5, .move (.tmp 0), none⟩,
 ⟨some 6, .move (.tmp 1), none⟩,
 ⟨some 7, .call true (.const (.fn 267 [])) [(.tmp 5), (.tmp 6)] [], none⟩,
 ⟨some 8, .call true (.const (.fn 39 [])) [(.tmp 7)] [], none⟩,
 ⟨some 4, .assign (.tmp 8), none⟩])
 .ret)) }
/-- (*purlin/purlinref05.Heap).Chain -/
def tf252 : TFn := { ntmps := 40, results := [.tmp 4], body :=
 (.seq
 (.region false [
 ⟨some 4, .assign (.const (.sl true 0 1 [] [])), none⟩])
 (.seq
 (.seq
 (.region false [
 ⟨some 8, .move (.tmp 1), none⟩,
 ⟨some 9, .len false (.tmp 8), none⟩,
 ⟨some 10, .bin 0 .eql (.tmp 9) (.const (.int .i64 0)), none⟩])
 (.cond (.tmp 10)
 (.seq
 (.region false [
 ⟨some 4, .assign (.const (.sl true 0 1 [] [])), none⟩])
 .ret)
 .skip))
 (.seq
 (.region false [
 ⟨some 11, .move (.tmp 1), none⟩,
 ⟨some 12, .buildSlice 1 1 [.sl true 0 5 [] []] [(0, (.tmp 11))], none⟩,
 ⟨some 5, .assign (.tmp 12), none⟩])
 (.seq
 (.block 0
 (.loop [0, 1, 5]
 (.seq
 (.seq
 (.region false [
 ⟨some 13, .move (.tmp 1), none⟩,
 ⟨some 14, .len false (.tmp 13), none⟩,
 ⟨some 15, .bin 0 .eql (.tmp 14) (.const (.int .i64 1)), none⟩,
 ⟨some 16, .move (.tmp 15), none⟩,
 ⟨some 17, .move (.tmp 1), (some (16, true))⟩,
 ⟨some 18, .idxAddr (.tmp 17) (.const (.int .i64 0)) 5, (some (16, true))⟩,
 ⟨some 19, .faddr (.tmp 18) 0, (some (16, true))⟩,
 ⟨some 20, .load false 1 (.tmp 19), (some (16, true))⟩,
 ⟨some 21, .bin 0 .eql (.tmp 20) (.const (.int .u8 4)), (some (16, true))⟩,
 ⟨some 22, .pick (.tmp 16) (.tmp 21) (.const (.bool false)), none⟩])
 (.cond (.tmp 22)
 .skip
 (.exit 0)))
 (.block 1
 (.seq
 (.region false [
 ⟨some 24, .move (.tmp 0), none⟩,
 ⟨some 25, .move (.tmp 1), none⟩,
 ⟨some 26, .idxAddr (.tmp 25) (.const (.int .i64 0)) 5, none⟩,
 ⟨some 27, .faddr (.tmp 26) 3, none⟩,
 ⟨some 28, .load true 2 (.tmp 27), none⟩,
 ⟨some 29, .call true (.const (.fn 268 [])) [(.tmp 24), (.tmp 28)] [], none⟩,
 ⟨some 23, .move (.tmp 29), none⟩,
 ⟨some 30, .extract (.tmp 23) 0, none⟩,
 ⟨some 31, .extract (.tmp 23) 1, none⟩,
 ⟨some 6, .assign (.tmp 30), none⟩,
 ⟨some 7, .assign (.tmp 31), none⟩])
 (.seq
 (.seq
 (.region false [
 ⟨some 32, .move (.tmp 7), none⟩,
 ⟨some 33, .un .not (.tmp 32), none⟩])
 (.cond (.tmp 33)
 (.exit 0)
 .skip))
 (.seq
 (.region false [
 ⟨some 34, .move (.tmp 6), none⟩,
 ⟨some 1, .assign (.tmp 34), none⟩])
 (.region false [
 ⟨some 35, .move (.tmp 5), none⟩,
 ⟨some 36, .move (.tmp 1), none⟩,
 ⟨some 37, .buildSlice 1 1 [.sl true 0 5 [] []] [(0, (.tmp 36))], none⟩,
 ⟨some 38, .append 1 24 (.tmp 35) (.tmp 37), none⟩,
 ⟨some 5, .assign (.tmp 38), none⟩]))))))))
 (.seq
 (.region false [
 ⟨some 39, .move (.tmp 5), none⟩,
 ⟨some 4, .assign (.tmp 39), none⟩])
 .ret))))) }
/-- (*purlin/heap.Heap).value -/
def tf253 : TFn := { ntmps := 21, results := [.tmp 4, .tmp 5], body :=
 (.seq
 (.region false [
 ⟨some 3, .box 2 (.tmp 1), none⟩,
 ⟨some 4, .assign (.const (.sl true 0 5 [] [])), none⟩,
 ⟨some 5, .assign (.const (.bool false)), none⟩])
 (.seq
 (.seq
 (.region false [
 ⟨some 8, .move (.tmp 0), none⟩,
 ⟨some 9, .bin 2 .eql (.tmp 8) (.const .nilptr), none⟩])
 (.cond (.tmp 9)
 (.seq
 (.region false [
 ⟨some 4, .assign (.const (.sl true 0 5 [] [])), none⟩,
 ⟨some 5, .assign (.const (.bool false)), none⟩])
 .ret)
 .skip))
 (.seq
 (.region true [
 ⟨some 11, .move (.tmp 0), none⟩,
 ⟨some 12, .nilCheck (.tmp 11), none⟩,
 ⟨some 13, .faddr (.tmp 12) 0, none⟩,
 ⟨some 14, .load false 1 (.tmp 13), none⟩,
 ⟨some 15, .load true 2 (.tmp 3), none⟩,
 ⟨some 16, .lookup 5023 (.sl true 0 5 [] []) true (.tmp 14) (.tmp 15), none⟩,
 ⟨some 10, .move (.tmp 16), none⟩,
 ⟨some 17, .extract (.tmp 10) 0, none⟩,
 ⟨some 18, .extract (.tmp 10) 1, none⟩,
 ⟨some 6, .move (.tmp 17), none⟩,
 ⟨some 7, .move (.tmp 18), none⟩])
 (.seq
 (.region false [
 ⟨some 19, .move (.tmp 6), none⟩,
 ⟨some 20, .move (.tmp 7), none⟩,
 ⟨some 4, .assign (.tmp 19), none⟩,
 ⟨some 5, .assign (.tmp 20), none⟩])
 .ret)))) }
/-- purlin/arith.more -/
def tf254 : TFn := { ntmps := 23, results := [.tmp 4], body :=
 (.seq
 (.region false [
 ⟨some 4, .assign (.const (.sl true 0 2 [] [])), none⟩])
 (.seq
 (.seq
 (.region false [
 ⟨some 7, .move (.tmp 1), none⟩,
 ⟨some 8, .len false (.tmp 7), none⟩,
 ⟨some 9, .move (.const (.int .i64 0)), none⟩])
 (.block 0
 (.loop [0, 7, 8, 9]
 (.seq
 (.region false [
 ⟨some 10, .bin 0 .lss (.tmp 9) (.tmp 8), none⟩])
 (.seq
 (.cond (.tmp 10)
 .skip
 (.exit 0))
 (.seq
 (.block 1
 (.seq
 (.region false [
 ⟨some 11, .idxAddr (.tmp 7) (.tmp 9) 2, none⟩,
 ⟨some 12, .load true 2 (.tmp 11), none⟩,
 ⟨some 6, .box 2 (.const (.agg [.int .i64 0, .int .i64 0])), none⟩,
 ⟨none, .store 2 (.tmp 6) (.tmp 12), none⟩])
 (.seq
 (.region false [
 ⟨some 13, .move (.tmp 0), none⟩,
 ⟨some 14, .load true 2 (.tmp 6), none⟩,
 ⟨some 15, .call true (.const (.fn 42 [])) [(.tmp 13), (.tmp 14)] [], none⟩,
 ⟨some 16, .un .not (.tmp 15), none⟩])
 (.cond (.tmp 16)
 (.region false [
 ⟨some 17, .move (.tmp 0), none⟩,
 ⟨some 18, .load true 2 (.tmp 6), none⟩,
 ⟨some 19, .buildSlice 1 2 [.int .i64 0, .int .i64 0] [(0, (.tmp 18))], none⟩,
 ⟨some 20, .append 2 16 (.tmp 17) (.tmp 19), none⟩,
 ⟨some 0, .assign (.tmp 20), none⟩])
 .skip))))
 (.region false [
 ⟨some 21, .bin 0 .add (.tmp 9) (.const (.int .i64 1)), none⟩,
 ⟨some 9, .move (.tmp 21), none⟩])))))))
 (.seq
 (.region false [
 ⟨some 22, .move (.tmp 0), none⟩,
 ⟨some 4, .assign (.tmp 22), none⟩])
 .ret))) }
/-- purlin/purlinref06.both -/
def tf255 : TFn := { ntmps := 31, results := [.tmp 4], body :=
 (.seq
 (.region false [
 ⟨some 4, .assign (.const (.sl true 0 2 [] [])), none⟩])
 (.seq
 (.region false [
 ⟨some 7, .buildSlice 0 2 [.int .i64 0, .int .i64 0] [], none⟩,
 ⟨some 8, .move (.tmp 0), none⟩,
 ⟨some 9, .append 2 16 (.tmp 7) (.tmp 8), none⟩,
 ⟨some 5, .assign (.tmp 9), none⟩])
 (.seq
 (.seq
 (.region false [
 ⟨some 6, .assign (.const (.int .i64 0)), none⟩])
 (.block 0
 (.loop [1, 5, 6]
 (.seq
 (.seq
 (.region false [
 ⟨some 10, .move (.tmp 6), none⟩,
 ⟨some 11, .move (.tmp 1), none⟩,
 ⟨some 12, .len false (.tmp 11), none⟩,
 ⟨some 13, .bin 0 .lss (.tmp 10) (.tmp 12), none⟩])
 (.cond (.tmp 13)
 .skip
 (.exit 0)))
 (.seq
 (.block 1
 (.seq
 (.region false [
 ⟨some 16, .move (.tmp 5), none⟩,
 ⟨some 17, .move (.tmp 1), none⟩,
 ⟨some 18, .move (.tmp 6), none⟩,
 ⟨some 19, .idxAddr (.tmp 17) (.tmp 18) 2, none⟩,
 ⟨some 20, .load true 2 (.tmp 19), none⟩,
 ⟨some 21, .call true (.const (.fn 28 [])) [(.tmp 16), (.tmp 20)] [], none⟩,
 ⟨some 22, .un .not (.tmp 21), none⟩])
 (.cond (.tmp 22)
 (.region false [
 ⟨some 23, .move (.tmp 5), none⟩,
 ⟨some 24, .move (.tmp 1), none⟩,
 ⟨some 25, .move (.tmp 6), none⟩,
 ⟨some 26, .idxAddr (.tmp 24) (.tmp 25) 2, none⟩,
 ⟨some 27, .load true 2 (.tmp 26), none⟩,
 ⟨some 28, .buildSlice 1 2 [.int .i64 0, .int .i64 0] [(0, (.tmp 27))], none⟩,
 ⟨some 29, .append 2 16 (.tmp 23) (.tmp 28), none⟩,
 ⟨some 5, .assign (.tmp 29), none⟩])
 .skip)))
 (.region false [
 ⟨some 14, .move (.tmp 6), none⟩,
 ⟨some 15, .bin 0 .add (.tmp 14) (.const (.int .i64 1)), none⟩,
 ⟨some 6, .assign (.tmp 15), none⟩]))))))
 (.seq
 (.region false [
 ⟨some 30, .move (.tmp 5), none⟩,
 ⟨some 4, .assign (.tmp 30), none⟩])
 .ret)))) }
/-- (*purlin/purlinref05.Heap).place -/
def tf260 : TFn := { ntmps := 30, results := [.tmp 4], body :=
 (.seq
 (.region false [
 ⟨some 3, .box 2 (.tmp 1), none⟩,
 ⟨some 4, .assign (.const (.int .i64 0)), none⟩])
 (.seq
 (.seq
 (.region false [
 ⟨some 5, .assign (.const (.int .i64 0)), none⟩])
 (.block 0
 (.loop [0, 3, 5]
 (.seq
 (.seq
 (.region false [
 ⟨some 6, .move (.tmp 0), none⟩,
 ⟨some 7, .bin 2 .neq (.tmp 6) (.const .nilptr), none⟩,
 ⟨some 8, .move (.tmp 7), none⟩,
 ⟨some 9, .move (.tmp 5), (some (8, true))⟩,
 ⟨some 10, .move (.tmp 0), (some (8, true))⟩,
 ⟨some 11, .nilCheck (.tmp 10), (some (8, true))⟩,
 ⟨some 12, .faddr (.tmp 11) 0, (some (8, true))⟩,
 ⟨some 13, .load false 1 (.tmp 12), (some (8, true))⟩,
 ⟨some 14, .len false (.tmp 13), (some (8, true))⟩,
 ⟨some 15, .bin 0 .lss (.tmp 9) (.tmp 14), (some (8, true))⟩,
 ⟨some 16, .pick (.tmp 8) (.tmp 15) (.const (.bool false)), none⟩])
 (.cond (.tmp 16)
 .skip
 (.exit 0)))
 (.seq
 (.block 1
 (.seq
 (.region true [
 ⟨some 19, .move (.tmp 0), none⟩,
 ⟨some 20, .nilCheck (.tmp 19), none⟩,
 ⟨some 21, .faddr (.tmp 20) 0, none⟩,
 ⟨some 22, .load false 1 (.tmp 21), none⟩,
 ⟨some 23, .move (.tmp 5), none⟩,
 ⟨some 24, .idxAddr (.tmp 22) (.tmp 23) 3, none⟩,
 ⟨some 25, .faddr (.tmp 24) 0, none⟩,
 ⟨some 26, .load true 2 (.tmp 25), none⟩,
 ⟨some 27, .load true 2 (.tmp 3), none⟩,
 ⟨some 28, .eqAgg false 5023 (.tmp 26) (.tmp 27), none⟩])
 (.cond (.tmp 28)
 (.seq
 (.region false [
 ⟨some 29, .move (.tmp 5), none⟩,
 ⟨some 4, .assign (.tmp 29), none⟩])
 .ret)
 .skip)))
 (.region false [
 ⟨some 17, .move (.tmp 5), none⟩,
 ⟨some 18, .bin 0 .add (.tmp 17) (.const (.int .i64 1)), none⟩,
 ⟨some 5, .assign (.tmp 18), none⟩]))))))
 (.seq
 (.region false [
 ⟨some 4, .assign (.const (.int .i64 (-1))), none⟩])
 .ret))) }
/-- purlin/arith.isOp -/
def tf261 : TFn := { ntmps := 25, results := [.tmp 2], body :=
 (.seq
 (.region false [
 ⟨some 1, .box 5 (.tmp 0), none⟩,
 ⟨some 2, .assign (.const (.bool false)), none⟩])
 (.seq
 (.seq
 (.region false [
 ⟨some 3, .faddr (.tmp 1) 0, none⟩,
 ⟨some 4, .load false 1 (.tmp 3), none⟩,
 ⟨some 5, .bin 0 .neq (.tmp 4) (.const (.int .u8 3)), none⟩])
 (.cond (.tmp 5)
 (.seq
 (.region false [
 ⟨some 2, .assign (.const (.bool false)), none⟩])
 .ret)
 .skip))
 (.seq
 (.region false [
 ⟨some 6, .faddr (.tmp 1) 2, none⟩,
 ⟨some 7, .load false 1 (.tmp 6), none⟩,
 ⟨some 8, .bin 0 .eql (.tmp 7) (.const (.int .i64 1)), none⟩,
 ⟨some 9, .move (.tmp 8), none⟩,
 ⟨some 10, .faddr (.tmp 1) 1, (some (9, true))⟩,
 ⟨some 11, .load false 1 (.tmp 10), (some (9, true))⟩,
 ⟨some 12, .bin 0 .eql (.tmp 11) (.const (.str ⟨#[97, 98, 115]⟩)), (some (9, true))⟩,
 ⟨some 13, .pick (.tmp 9) (.tmp 12) (.const (.bool false)), none⟩,
 ⟨some 14, .move (.tmp 13), none⟩,
 ⟨some 15, .faddr (.tmp 1) 2, (some (14, false))⟩,
 ⟨some 16, .load false 1 (.tmp 15), (some (14, false))⟩,
 ⟨some 17, .bin 0 .eql (.tmp 16) (.const (.int .i64 2)), (some (14, false))⟩,
 ⟨some 18, .move (.tmp 17), (some (14, false))⟩,
 ⟨some 19, .buildSlice 7 1 [.str ⟨#[]⟩] [(0, (.const (.str ⟨#[43]⟩))), (1, (.const (.str ⟨#[45]⟩))), (2, (.const (.str ⟨#[42]⟩))), (3, (.const (.str ⟨#[100, 105, 118]⟩))), (4, (.const (.str ⟨#[109, 111, 100]⟩))), (5, (.const (.str ⟨#[109, 105, 110]⟩))), (6, (.const (.str ⟨#[109, 97, 120]⟩)))], (some (18, true))⟩,
 ⟨some 20, .faddr (.tmp 1) 1, (some (18, true))⟩,
 ⟨some 21, .load false 1 (.tmp 20), (some (18, true))⟩,
 ⟨some 22, .call true (.const (.fn 248 [])) [(.tmp 19), (.tmp 21)] [], (some (18, true))⟩,
 ⟨some 23, .pick (.tmp 18) (.tmp 22) (.const (.bool false)), (some (14, false))⟩,
 ⟨some 24, .pick (.tmp 14) (.const (.bool true)) (.tmp 23), none⟩,
 ⟨some 2, .assign (.tmp 24), none⟩])
 .ret))) }
/-- purlin/purlinref06.operator -/
def tf262 : TFn := { ntmps := 22, results := [.tmp 4], body :=
 (.seq
 (.region false [
 ⟨some 4, .assign (.const (.bool false)), none⟩])
 (.seq
 (.seq
 (.region false [
 ⟨some 5, .move (.tmp 0), none⟩])
 (.block 0
 (.seq
 (.seq
 (.region false [
 ⟨some 7, .bin 0 .eql (.tmp 5) (.const (.str ⟨#[43]⟩)), none⟩,
 ⟨some 6, .assign (.tmp 7), none⟩])
 (.cond (.tmp 6)
 .skip
 (.seq
 (.region false [
 ⟨some 8, .bin 0 .eql (.tmp 5) (.const (.str ⟨#[45]⟩)), none⟩,
 ⟨some 6, .assign (.tmp 8), none⟩])
 (.cond (.tmp 6)
 .skip
 (.seq
 (.region false [
 ⟨some 9, .bin 0 .eql (.tmp 5) (.const (.str ⟨#[42]⟩)), none⟩,
 ⟨some 6, .assign (.tmp 9), none⟩])
 (.cond (.tmp 6)
 .skip
 (.seq
 (.region false [
 ⟨some 10, .bin 0 .eql (.tmp 5) (.const (.str ⟨#[100, 105, 118]⟩)), none⟩,
 ⟨some 6, .assign (.tmp 10), none⟩])
 (.cond (.tmp 6)
 .skip
 (.seq
 (.region false [
 ⟨some 11, .bin 0 .eql (.tmp 5) (.const (.str ⟨#[109, 111, 100]⟩)), none⟩,
 ⟨some 6, .assign (.tmp 11), none⟩])
 (.cond (.tmp 6)
 .skip
 (.seq
 (.region false [
 ⟨some 12, .bin 0 .eql (.tmp 5) (.const (.str ⟨#[109, 105, 110]⟩)), none⟩,
 ⟨some 6, .assign (.tmp 12), none⟩])
 (.cond (.tmp 6)
 .skip
 (.region false [
 ⟨some 13, .bin 0 .eql (.tmp 5) (.const (.str ⟨#[109, 97, 120]⟩)), none⟩,
 ⟨some 6, .assign (.tmp 13), none⟩])))))))))))))
 (.cond (.tmp 6)
 (.seq
 (.region false [
 ⟨some 14, .move (.tmp 1), none⟩,
 ⟨some 15, .bin 0 .eql (.tmp 14) (.const (.int .i64 2)), none⟩,
 ⟨some 4, .assign (.tmp 15), none⟩])
 .ret)
 .skip))))
 (.seq
 (.region false [
 ⟨some 16, .move (.tmp 0), none⟩,
 ⟨some 17, .bin 0 .eql (.tmp 16) (.const (.str ⟨#[97, 98, 115]⟩)), none⟩,
 ⟨some 18, .move (.tmp 17), none⟩,
 ⟨some 19, .move (.tmp 1), (some (18, true))⟩,
 ⟨some 20, .bin 0 .eql (.tmp 19) (.const (.int .i64 1)), (some (18, true))⟩,
 ⟨some 21, .pick (.tmp 18) (.tmp 20) (.const (.bool false)), none⟩,
 ⟨some 4, .assign (.tmp 21), none⟩])
 .ret))) }
/-- slices.IndexFunc[[]int,int] -/
def tf263 : TFn := { ntmps := 19, results := [.tmp 4], body :=
 (.seq
 (.region false [
 ⟨some 4, .assign (.const (.int .i64 0)), none⟩])
 (.seq
 (.seq
 (.region false [
 ⟨some 6, .move (.tmp 0), none⟩,
 ⟨some 7, .len false (.tmp 6), none⟩,
 ⟨some 8, .move (.const (.int .i64 0)), none⟩])
 (.block 0
 (.loop [0, 1, 7, 8]
 (.seq
 (.region false [
 ⟨some 9, .bin 0 .lss (.tmp 8) (.tmp 7), none⟩])
 (.seq
 (.cond (.tmp 9)
 .skip
 (.exit 0))
 (.seq
 (.block 1
 (.seq
 (.region false [
 ⟨some 10, .move (.tmp 8), none⟩,
 ⟨some 5, .assign (.tmp 10), none⟩])
 (.seq
 (.region false [
 ⟨some 11, .move (.tmp 1), none⟩,
 ⟨some 12, .move (.tmp 0), none⟩,
 ⟨some 13, .move (.tmp 5), none⟩,
 ⟨some 14, .idxAddr (.tmp 12) (.tmp 13) 1, none⟩,
 ⟨some 15, .load false 1 (.tmp 14), none⟩,
 ⟨some 16, .call true (.tmp 11) [(.tmp 15)] [], none⟩])
 (.cond (.tmp 16)
 (.seq
 (.region false [
 ⟨some 17, .move (.tmp 5), none⟩,
 ⟨some 4, .assign (.tmp 17), none⟩])
 .ret)
 .skip))))
 (.region false [
 ⟨some 18, .bin 0 .add (.tmp 8) (.const (.int .i64 1)), none⟩,
 ⟨some 8, .move (.tmp 18), none⟩])))))))
 (.seq
 (.region false [
 ⟨some 4, .assign (.const (.int .i64 (-1))), none⟩])
 .ret))) }
/-- purlin/arith.product$1 -/
def tf264 : TFn := { ntmps := 8, results := [.tmp 2], body :=
 (.seq
 (.region false [
 ⟨some 2, .assign (.const (.int .u64 0)), none⟩])
 (.seq
 (.region false [
 ⟨some 3, .move (.tmp 0), none⟩,
 ⟨some 4, .move (.tmp 0), none⟩,
 ⟨some 5, .un .neg (.tmp 4), none⟩,
 ⟨some 6, .minmax true (.tmp 3) (.tmp 5), none⟩,
 ⟨some 7, .conv .u64 (.tmp 6), none⟩,
 ⟨some 2, .assign (.tmp 7), none⟩])
 .ret)) }
/-- math/bits.Mul64 -/
def tf265 : TFn := { ntmps := 51, results := [.tmp 4, .tmp 5], body :=
 (.seq
 (.region false [
 ⟨some 4, .assign (.const (.int .u64 0)), none⟩,
 ⟨some 5, .assign (.const (.int .u64 0)), none⟩])
 (.seq
 (.region false [
 ⟨some 14, .move (.tmp 0), none⟩,
 ⟨some 15, .bin 0 .and (.tmp 14) (.const (.int .u64 4294967295)), none⟩,
 ⟨some 6, .assign (.tmp 15), none⟩])
 (.seq
 (.region false [
 ⟨some 16, .move (.tmp 0), none⟩,
 ⟨some 17, .bin 0 .shr (.tmp 16) (.const (.int .u64 32)), none⟩,
 ⟨some 7, .assign (.tmp 17), none⟩])
 (.seq
 (.region false [
 ⟨some 18, .move (.tmp 1), none⟩,
 ⟨some 19, .bin 0 .and (.tmp 18) (.const (.int .u64 4294967295)), none⟩,
 ⟨some 8, .assign (.tmp 19), none⟩])
 (.seq
 (.region false [
 ⟨some 20, .move (.tmp 1), none⟩,
 ⟨some 21, .bin 0 .shr (.tmp 20) (.const (.int .u64 32)), none⟩,
 ⟨some 9, .assign (.tmp 21), none⟩])
 (.seq
 (.region false [
 ⟨some 22, .move (.tmp 6), none⟩,
 ⟨some 23, .move (.tmp 8), none⟩,
 ⟨some 24, .bin 0 .mul (.tmp 22) (.tmp 23), none⟩,
 ⟨some 10, .assign (.tmp 24), none⟩])
 (.seq
 (.region false [
 ⟨some 25, .move (.tmp 7), none⟩,
 ⟨some 26, .move (.tmp 8), none⟩,
 ⟨some 27, .bin 0 .mul (.tmp 25) (.tmp 26), none⟩,
 ⟨some 28, .move (.tmp 10), none⟩,
 ⟨some 29, .bin 0 .shr (.tmp 28) (.const (.int .u64 32)), none⟩,
 ⟨some 30, .bin 0 .add (.tmp 27) (.tmp 29), none⟩,
 ⟨some 11, .assign (.tmp 30), none⟩])
 (.seq
 (.region false [
 ⟨some 31, .move (.tmp 11), none⟩,
 ⟨some 32, .bin 0 .and (.tmp 31) (.const (.int .u64 4294967295)), none⟩,
 ⟨some 12, .assign (.tmp 32), none⟩])
 (.seq
 (.region false [
 ⟨some 33, .move (.tmp 11), none⟩,
 ⟨some 34, .bin 0 .shr (.tmp 33) (.const (.int .u64 32)), none⟩,
 ⟨some 13, .assign (.tmp 34), none⟩])
 (.seq
 (.region false [
 ⟨some 35, .move (.tmp 12), none⟩,
 ⟨some 36, .move (.tmp 6), none⟩,
 ⟨some 37, .move (.tmp 9), none⟩,
 ⟨some 38, .bin 0 .mul (.tmp 36) (.tmp 37), none⟩,
 ⟨some 39, .bin 0 .add (.tmp 35) (.tmp 38), none⟩,
 ⟨some 12, .assign (.tmp 39), none⟩])
 (.seq
 (.region false [
 ⟨some 40, .move (.tmp 7), none⟩,
 ⟨some 41, .move (.tmp 9), none⟩,
 ⟨some 42, .bin 0 .mul (.tmp 40) (.tmp 41), none⟩,
 ⟨some 43, .move (.tmp 13), none⟩,
 ⟨some 44, .bin 0 .add (.tmp 42) (.tmp 43), none⟩,
 ⟨some 45, .move (.tmp 12), none⟩,
 ⟨some 46, .bin 0 .shr (.tmp 45) (.const (.int .u64 32)), none⟩,
 ⟨some 47, .bin 0 .add (.tmp 44) (.tmp 46), none⟩,
 ⟨some 4, .assign (.tmp 47), none⟩])
 (.seq
 (.region false [
 ⟨some 48, .move (.tmp 0), none⟩,
 ⟨some 49, .move (.tmp 1), none⟩,
 ⟨some 50, .bin 0 .mul (.tmp 48) (.tmp 49), none⟩,
 ⟨some 5, .assign (.tmp 50), none⟩])
 .ret)))))))))))) }
/-- (*purlin/heap.Heap).follow -/
def tf267 : TFn := { ntmps := 22, results := [.tmp 4], body :=
 (.seq
 (.region false [
 ⟨some 4, .assign (.const (.sl true 0 5 [] [])), none⟩])
 (.seq
 (.seq
 (.region false [
 ⟨some 8, .move (.tmp 0), none⟩,
 ⟨some 9, .move (.tmp 1), none⟩,
 ⟨some 10, .call true (.const (.fn 271 [])) [(.tmp 8), (.tmp 9)] [], none⟩,
 ⟨some 7, .move (.tmp 10), none⟩,
 ⟨some 11, .extract (.tmp 7) 0, none⟩,
 ⟨some 12, .extract (.tmp 7) 1, none⟩,
 ⟨some 5, .assign (.tmp 11), none⟩,
 ⟨some 6, .assign (.tmp 12), none⟩])
 (.block 0
 (.loop [0, 1, 5, 6]
 (.seq
 (.seq
 (.region false [
 ⟨some 13, .move (.tmp 6), none⟩])
 (.cond (.tmp 13)
 .skip
 (.exit 0)))
 (.seq
 (.block 1
 (.region false [
 ⟨some 20, .move (.tmp 5), none⟩,
 ⟨some 1, .assign (.tmp 20), none⟩]))
 (.region false [
 ⟨some 15, .move (.tmp 0), none⟩,
 ⟨some 16, .move (.tmp 1), none⟩,
 ⟨some 17, .call true (.const (.fn 271 [])) [(.tmp 15), (.tmp 16)] [], none⟩,
 ⟨some 14, .move (.tmp 17), none⟩,
 ⟨some 18, .extract (.tmp 14) 0, none⟩,
 ⟨some 19, .extract (.tmp 14) 1, none⟩,
 ⟨some 5, .assign (.tmp 18), none⟩,
 ⟨some 6, .assign (.tmp 19), none⟩]))))))
 (.seq
 (.region false [
 ⟨some 21, .move (.tmp 1), none⟩,
 ⟨some 4, .assign (.tmp 21), none⟩])
 .ret))) }
/-- (*purlin/purlinref05.Heap).Value -/
def tf268 : TFn := { ntmps := 20, results := [.tmp 4, .tmp 5], body :=
 (.seq
 (.region false [
 ⟨some 3, .box 2 (.tmp 1), none⟩,
 ⟨some 4, .assign (.const (.sl true 0 5 [] [])), none⟩,
 ⟨some 5, .assign (.const (.bool false)), none⟩])
 (.seq
 (.region false [
 ⟨some 7, .move (.tmp 0), none⟩,
 ⟨some 8, .load true 2 (.tmp 3), none⟩,
 ⟨some 9, .call true (.const (.fn 260 [])) [(.tmp 7), (.tmp 8)] [], none⟩,
 ⟨some 6, .assign (.tmp 9), none⟩])
 (.seq
 (.seq
 (.region false [
 ⟨some 10, .move (.tmp 6), none⟩,
 ⟨some 11, .bin 0 .lss (.tmp 10) (.const (.int .i64 0)), none⟩])
 (.cond (.tmp 11)
 (.seq
 (.region false [
 ⟨some 4, .assign (.const (.sl true 0 5 [] [])), none⟩,
 ⟨some 5, .assign (.const (.bool false)), none⟩])
 .ret)
 .skip))
 (.seq
 (.region false [
 ⟨some 12, .move (.tmp 0), none⟩,
 ⟨some 13, .nilCheck (.tmp 12), none⟩,
 ⟨some 14, .faddr (.tmp 13) 0, none⟩,
 ⟨some 15, .load false 1 (.tmp 14), none⟩,
 ⟨some 16, .move (.tmp 6), none⟩,
 ⟨some 17, .idxAddr (.tmp 15) (.tmp 16) 3, none⟩,
 ⟨some 18, .faddr (.tmp 17) 2, none⟩,
 ⟨some 19, .load false 1 (.tmp 18), none⟩,
 ⟨some 4, .assign (.tmp 19), none⟩,
 ⟨some 5, .assign (.const (.bool true)), none⟩])
 .ret)))) }
/-- (*purlin/heap.Heap).next -/
def tf271 : TFn := { ntmps := 24, results := [.tmp 4, .tmp 5], body :=
 (.seq
 (.region false [
 ⟨some 4, .assign (.const (.sl true 0 5 [] [])), none⟩,
 ⟨some 5, .assign (.const (.bool false)), none⟩])
 (.seq
 (.seq
 (.region false [
 ⟨some 6, .move (.tmp 1), none⟩,
 ⟨some 7, .len false (.tmp 6), none⟩,
 ⟨some 8, .bin 0 .neq (.tmp 7) (.const (.int .i64 1)), none⟩,
 ⟨some 9, .move (.tmp 8), none⟩,
 ⟨some 10, .move (.tmp 1), (some (9, false))⟩,
 ⟨some 11, .idxAddr (.tmp 10) (.const (.int .i64 0)) 5, (some (9, false))⟩,
 ⟨some 12, .faddr (.tmp 11) 0, (some (9, false))⟩,
 ⟨some 13, .load false 1 (.tmp 12), (some (9, false))⟩,
 ⟨some 14, .bin 0 .neq (.tmp 13) (.const (.int .u8 4)), (some (9, false))⟩,
 ⟨some 15, .pick (.tmp 9) (.const (.bool true)) (.tmp 14), none⟩])
 (.cond (.tmp 15)
 (.seq
 (.region false [
 ⟨some 4, .assign (.const (.sl true 0 5 [] [])), none⟩,
 ⟨some 5, .assign (.const (.bool false)), none⟩])
 .ret)
 .skip))
 (.seq
 (.region false [
 ⟨some 16, .move (.tmp 0), none⟩,
 ⟨some 17, .move (.tmp 1), none⟩,
 ⟨some 18, .idxAddr (.tmp 17) (.const (.int .i64 0)) 5, none⟩,
 ⟨some 19, .faddr (.tmp 18) 3, none⟩,
 ⟨some 20, .load true 2 (.tmp 19), none⟩,
 ⟨some 21, .call true (.const (.fn 253 [])) [(.tmp 16), (.tmp 20)] [], none⟩,
 ⟨some 22, .extract (.tmp 21) 0, none⟩,
 ⟨some 23, .extract (.tmp 21) 1, none⟩,
 ⟨some 4, .assign (.tmp 22), none⟩,
 ⟨some 5, .assign (.tmp 23), none⟩])
 .ret))) }
/-- purlin/purlinlaw06.ArithValues -/
def tf577 : TFn := { ntmps := 89, results := [.tmp 4], body :=
 (.seq
 (.region false [
 ⟨some 4, .assign (.const (.bool false)), none⟩])
 (.seq
 (.region false [
 ⟨some 21, .move (.tmp 0), none⟩,
 ⟨some 22, .call false (.const (.fn 215 [])) [(.tmp 21)] [], none⟩,
 ⟨some 20, .move (.tmp 22), none⟩,
 ⟨some 23, .extract (.tmp 20) 0, none⟩,
 ⟨some 24, .extract (.tmp 20) 1, none⟩,
 ⟨some 5, .assign (.tmp 23), none⟩,
 ⟨some 6, .assign (.tmp 24), none⟩])
 (.seq
 (.region false [
 ⟨some 25, .move (.tmp 1), none⟩,
 ⟨some 26, .call false (.const (.fn 216 [])) [(.tmp 25)] [], none⟩,
 ⟨some 7, .assign (.tmp 26), none⟩])
 (.seq
 (.region false [
 ⟨some 28, .move (.tmp 5), none⟩,
 ⟨some 29, .move (.tmp 7), none⟩,
 ⟨some 30, .call true (.const (.fn 217 [])) [(.tmp 28), (.tmp 29)] [], none⟩,
 ⟨some 27, .move (.tmp 30), none⟩,
 ⟨some 31, .extract (.tmp 27) 0, none⟩,
 ⟨some 32, .extract (.tmp 27) 1, none⟩,
 ⟨some 33, .extract (.tmp 27) 2, none⟩,
 ⟨some 8, .assign (.tmp 31), none⟩,
 ⟨some 9, .assign (.tmp 32), none⟩,
 ⟨some 10, .assign (.tmp 33), none⟩])
 (.seq
 (.region false [
 ⟨some 35, .move (.tmp 6), none⟩,
 ⟨some 36, .move (.tmp 1), none⟩,
 ⟨some 37, .call true (.const (.fn 218 [])) [(.tmp 35), (.tmp 36)] [], none⟩,
 ⟨some 34, .move (.tmp 37), none⟩,
 ⟨some 38, .extract (.tmp 34) 0, none⟩,
 ⟨some 39, .extract (.tmp 34) 1, none⟩,
 ⟨some 40, .extract (.tmp 34) 2, none⟩,
 ⟨some 11, .assign (.tmp 38), none⟩,
 ⟨some 12, .assign (.tmp 39), none⟩,
 ⟨some 13, .assign (.tmp 40), none⟩])
 (.seq
 (.region false [
 ⟨some 42, .move (.tmp 7), none⟩,
 ⟨some 43, .call true (.const (.fn 217 [])) [(.const .nilptr), (.tmp 42)] [], none⟩,
 ⟨some 41, .move (.tmp 43), none⟩,
 ⟨some 44, .extract (.tmp 41) 0, none⟩,
 ⟨some 45, .extract (.tmp 41) 1, none⟩,
 ⟨some 46, .extract (.tmp 41) 2, none⟩,
 ⟨some 14, .assign (.tmp 44), none⟩,
 ⟨some 15, .assign (.tmp 45), none⟩,
 ⟨some 16, .assign (.tmp 46), none⟩])
 (.seq
 (.region false [
 ⟨some 48, .move (.tmp 1), none⟩,
 ⟨some 49, .call true (.const (.fn 218 [])) [(.const .nilptr), (.tmp 48)] [], none⟩,
 ⟨some 47, .move (.tmp 49), none⟩,
 ⟨some 50, .extract (.tmp 47) 0, none⟩,
 ⟨some 51, .extract (.tmp 47) 1, none⟩,
 ⟨some 52, .extract (.tmp 47) 2, none⟩,
 ⟨some 17, .assign (.tmp 50), none⟩,
 ⟨some 18, .assign (.tmp 51), none⟩,
 ⟨some 19, .assign (.tmp 52), none⟩])
 (.seq
 (.region false [
 ⟨some 53, .call true (.const (.fn 219 [])) [] [], none⟩,
 ⟨some 54, .move (.tmp 53), none⟩,
 ⟨some 55, .move (.tmp 8), (some (54, true))⟩,
 ⟨some 56, .move (.tmp 11), (some (54, true))⟩,
 ⟨some 57, .bin 0 .eql (.tmp 55) (.tmp 56), (some (54, true))⟩,
 ⟨some 58, .pick (.tmp 54) (.tmp 57) (.const (.bool false)), none⟩,
 ⟨some 59, .move (.tmp 58), none⟩,
 ⟨some 60, .move (.tmp 9), (some (59, true))⟩,
 ⟨some 61, .move (.tmp 12), (some (59, true))⟩,
 ⟨some 62, .bin 0 .eql (.tmp 60) (.tmp 61), (some (59, true))⟩,
 ⟨some 63, .pick (.tmp 59) (.tmp 62) (.const (.bool false)), none⟩,
 ⟨some 64, .move (.tmp 63), none⟩,
 ⟨some 65, .move (.tmp 10), (some (64, true))⟩,
 ⟨some 66, .move (.tmp 13), (some (64, true))⟩,
 ⟨some 67, .call true (.const (.fn 162 [])) [(.tmp 65), (.tmp 66)] [], (some (64, true))⟩,
 ⟨some 68, .pick (.tmp 64) (.tmp 67) (.const (.bool false)), none⟩,
 ⟨some 69, .move (.tmp 68), none⟩,
 ⟨some 70, .move (.tmp 14), (some (69, true))⟩,
 ⟨some 71, .move (.tmp 17), (some (69, true))⟩,
 ⟨some 72, .bin 0 .eql (.tmp 70) (.tmp 71), (some (69, true))⟩,
 ⟨some 73, .pick (.tmp 69) (.tmp 72) (.const (.bool false)), none⟩,
 ⟨some 74, .move (.tmp 73), none⟩,
 ⟨some 75, .move (.tmp 15), (some (74, true))⟩,
 ⟨some 76, .move (.tmp 18), (some (74, true))⟩,
 ⟨some 77, .bin 0 .eql (.tmp 75) (.tmp 76), (some (74, true))⟩,
 ⟨some 78, .pick (.tmp 74) (.tmp 77) (.const (.bool false)), none⟩,
 ⟨some 79, .move (.tmp 78), none⟩,
 ⟨some 80, .move (.tmp 16), (some (79, true))⟩,
 ⟨some 81, .move (.tmp 19), (some (79, true))⟩,
 ⟨some 82, .call true (.const (.fn 162 [])) [(.tmp 80), (.tmp 81)] [], (some (79, true))⟩,
 ⟨some 83, .pick (.tmp 79) (.tmp 82) (.const (.bool false)), none⟩,
 ⟨some 84, .move (.tmp 83), none⟩,
 ⟨some 85, .move (.tmp 7), (some (84, true))⟩,
 ⟨some 86, .move (.tmp 1), (some (84, true))⟩,
 ⟨some 87, .call true (.const (.fn 220 [])) [(.tmp 85), (.tmp 86)] [], (some (84, true))⟩,
 ⟨some 88, .pick (.tmp 84) (.tmp 87) (.const (.bool false)), none⟩,
 ⟨some 4, .assign (.tmp 88), none⟩])
 .ret)))))))) }
def fnTable6 : List (Nat × TFn) := [(162, tf162), (209, tf209), (211, tf211), (214, tf214), (215, tf215), (216, tf216), (217, tf217), (218, tf218), (219, tf219), (220, tf220), (222, tf222), (223, tf223), (227, tf227), (234, tf234), (235, tf235), (236, tf236), (237, tf237), (238, tf238), (239, tf239), (240, tf240), (241, tf241), (242, tf242), (243, tf243), (244, tf244), (245, tf245), (246, tf246), (250, tf250), (252, tf252), (253, tf253), (254, tf254), (255, tf255), (260, tf260), (261, tf261), (262, tf262), (263, tf263), (264, tf264), (265, tf265), (267, tf267), (268, tf268), (271, tf271), (577, tf577)]
def nuTable6 : List (Nat × Nat) := [(3, 577), (4, 578), (5, 579), (6, 580), (7, 581), (8, 582), (9, 215), (10, 216), (11, 217), (12, 218), (13, 219), (14, 162), (15, 220), (16, 221), (17, 222), (18, 223), (19, 224), (20, 8), (21, 225), (22, 226), (23, 11), (24, 227), (25, 228), (26, 229), (27, 230), (28, 231), (29, 159), (30, 232), (31, 161), (32, 233), (33, 234), (34, 235), (35, 236), (36, 237), (37, 209), (38, 30), (39, 238), (40, 239), (41, 18), (42, 240), (43, 211), (44, 241), (45, 242), (46, 245), (47, 243), (48, 244), (49, 246), (50, 64), (51, 36), (52, 17), (53, 247), (54, 248), (55, 249), (56, 251), (57, 250), (58, 252), (59, 253), (60, 39), (61, 254), (62, 255), (63, 256), (64, 29), (65, 257), (66, 258), (67, 259), (68, 181), (69, 182), (70, 183), (71, 184), (72, 185), (73, 14), (74, 25), (75, 0), (76, 15), (77, 26), (78, 260), (79, 5), (80, 31), (81, 43), (82, 46), (83, 32), (84, 261), (85, 40), (86, 262), (87, 214), (88, 263), (89, 264), (90, 265), (91, 4), (92, 54), (93, 58), (94, 266), (95, 267), (96, 268), (97, 42), (98, 28), (99, 45), (100, 269), (101, 208), (102, 37), (103, 44), (104, 38), (105, 47), (106, 56), (107, 48), (108, 57), (109, 49), (110, 1), (111, 50), (112, 51), (113, 52), (114, 270), (115, 271), (116, 55)]
end Tree
