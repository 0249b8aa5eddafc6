/- Layer 11: the program's functions as E-code. -/
import Derived.Test.YtkdccglaeegdaaaDoorHCode
set_option autoImplicit false
namespace Tree
open Go
/-- purlin/wire.Encode -/
def tf483 : TFn := { ntmps := 65, results := [.tmp 2, .tmp 3], body :=
 (.seq
 (.region false [
 ⟨some 1, .box 10 (.tmp 0), none⟩,
 ⟨some 2, .assign (.const (.sl true 0 1 [] [])), none⟩,
 ⟨some 3, .assign (.const (.int .i64 0)), none⟩])
 (.seq
 (.seq
 (.region false [
 ⟨some 5, .load true 10 (.tmp 1), none⟩,
 ⟨some 6, .call true (.const (.fn 490 [])) [(.tmp 5)] [], none⟩,
 ⟨some 7, .un .not (.tmp 6), none⟩])
 (.cond (.tmp 7)
 (.seq
 (.region false [
 ⟨some 2, .assign (.const (.sl true 0 1 [] [])), none⟩,
 ⟨some 3, .assign (.const (.int .i64 6)), none⟩])
 .ret)
 .skip))
 (.seq
 (.region false [
 ⟨some 8, .faddr (.tmp 1) 0, none⟩,
 ⟨some 9, .load false 1 (.tmp 8), none⟩,
 ⟨some 10, .buildSlice 1 1 [.int .u8 0] [(0, (.tmp 9))], none⟩,
 ⟨some 11, .buildM [.sl true 0 1 [] []] 0 (.tmp 10), none⟩,
 ⟨some 4, .new 1 (.const (.agg [.sl true 0 1 [] []])), none⟩,
 ⟨none, .store 1 (.tmp 4) (.tmp 11), none⟩])
 (.seq
 (.seq
 (.region false [
 ⟨some 12, .faddr (.tmp 1) 0, none⟩,
 ⟨some 13, .load false 1 (.tmp 12), none⟩])
 (.block 0
 (.seq
 (.region false [
 ⟨some 15, .bin 0 .eql (.tmp 13) (.const (.int .u8 3)), none⟩,
 ⟨some 14, .assign (.tmp 15), none⟩])
 (.cond (.tmp 14)
 (.region false [
 ⟨some 16, .faddr (.tmp 1) 3, none⟩,
 ⟨some 17, .load true 2 (.tmp 16), none⟩,
 ⟨some 18, .call false (.const (.fn 495 [])) [(.tmp 4), (.tmp 17)] [], none⟩])
 (.seq
 (.seq
 (.region false [
 ⟨some 20, .bin 0 .eql (.tmp 13) (.const (.int .u8 1)), none⟩,
 ⟨some 19, .assign (.tmp 20), none⟩])
 (.cond (.tmp 19)
 .skip
 (.seq
 (.region false [
 ⟨some 21, .bin 0 .eql (.tmp 13) (.const (.int .u8 2)), none⟩,
 ⟨some 19, .assign (.tmp 21), none⟩])
 (.cond (.tmp 19)
 .skip
 (.seq
 (.region false [
 ⟨some 22, .bin 0 .eql (.tmp 13) (.const (.int .u8 4)), none⟩,
 ⟨some 19, .assign (.tmp 22), none⟩])
 (.cond (.tmp 19)
 .skip
 (.region false [
 ⟨some 23, .bin 0 .eql (.tmp 13) (.const (.int .u8 5)), none⟩,
 ⟨some 19, .assign (.tmp 23), none⟩])))))))
 (.cond (.tmp 19)
 (.region false [
 ⟨some 24, .faddr (.tmp 1) 1, none⟩,
 ⟨some 25, .load true 2 (.tmp 24), none⟩,
 ⟨some 26, .call false (.const (.fn 495 [])) [(.tmp 4), (.tmp 25)] [], none⟩])
 .skip))))))
 (.seq
 (.seq
 (.region false [
 ⟨some 27, .faddr (.tmp 1) 0, none⟩,
 ⟨some 28, .load false 1 (.tmp 27), none⟩])
 (.block 1
 (.seq
 (.seq
 (.region false [
 ⟨some 30, .bin 0 .eql (.tmp 28) (.const (.int .u8 3)), none⟩,
 ⟨some 29, .assign (.tmp 30), none⟩])
 (.cond (.tmp 29)
 .skip
 (.region false [
 ⟨some 31, .bin 0 .eql (.tmp 28) (.const (.int .u8 2)), none⟩,
 ⟨some 29, .assign (.tmp 31), none⟩])))
 (.cond (.tmp 29)
 (.region false [
 ⟨some 32, .faddr (.tmp 1) 5, none⟩,
 ⟨some 33, .load false 1 (.tmp 32), none⟩,
 ⟨some 34, .call false (.const (.fn 496 [])) [(.tmp 4), (.tmp 33)] [], none⟩])
 (.seq
 (.seq
 (.region false [
 ⟨some 36, .bin 0 .eql (.tmp 28) (.const (.int .u8 4)), none⟩,
 ⟨some 35, .assign (.tmp 36), none⟩])
 (.cond (.tmp 35)
 .skip
 (.seq
 (.region false [
 ⟨some 37, .bin 0 .eql (.tmp 28) (.const (.int .u8 5)), none⟩,
 ⟨some 35, .assign (.tmp 37), none⟩])
 (.cond (.tmp 35)
 .skip
 (.region false [
 ⟨some 38, .bin 0 .eql (.tmp 28) (.const (.int .u8 6)), none⟩,
 ⟨some 35, .assign (.tmp 38), none⟩])))))
 (.cond (.tmp 35)
 (.region false [
 ⟨some 39, .faddr (.tmp 1) 6, none⟩,
 ⟨some 40, .load false 1 (.tmp 39), none⟩,
 ⟨some 41, .call false (.const (.fn 497 [])) [(.tmp 4), (.tmp 40)] [], none⟩])
 .skip))))))
 (.seq
 (.seq
 (.region false [
 ⟨some 42, .faddr (.tmp 1) 0, none⟩,
 ⟨some 43, .load false 1 (.tmp 42), none⟩,
 ⟨some 44, .bin 0 .eql (.tmp 43) (.const (.int .u8 6)), none⟩])
 (.cond (.tmp 44)
 (.region false [
 ⟨some 45, .faddr (.tmp 1) 7, none⟩,
 ⟨some 46, .load false 1 (.tmp 45), none⟩,
 ⟨some 47, .call false (.const (.fn 497 [])) [(.tmp 4), (.tmp 46)] [], none⟩])
 .skip))
 (.seq
 (.seq
 (.region false [
 ⟨some 48, .faddr (.tmp 1) 0, none⟩,
 ⟨some 49, .load false 1 (.tmp 48), none⟩,
 ⟨some 50, .bin 0 .neq (.tmp 49) (.const (.int .u8 4)), none⟩,
 ⟨some 51, .move (.tmp 50), none⟩,
 ⟨some 52, .faddr (.tmp 1) 0, (some (51, true))⟩,
 ⟨some 53, .load false 1 (.tmp 52), (some (51, true))⟩,
 ⟨some 54, .bin 0 .neq (.tmp 53) (.const (.int .u8 5)), (some (51, true))⟩,
 ⟨some 55, .pick (.tmp 51) (.tmp 54) (.const (.bool false)), none⟩])
 (.cond (.tmp 55)
 (.region false [
 ⟨some 56, .faddr (.tmp 1) 8, none⟩,
 ⟨some 57, .load true 2 (.tmp 56), none⟩,
 ⟨some 58, .call false (.const (.fn 498 [])) [(.tmp 4), (.tmp 57)] [], none⟩])
 .skip))
 (.seq
 (.seq
 (.region false [
 ⟨some 59, .faddr (.tmp 4) 0, none⟩,
 ⟨some 60, .load false 1 (.tmp 59), none⟩,
 ⟨some 61, .len false (.tmp 60), none⟩,
 ⟨some 62, .bin 0 .gtr (.tmp 61) (.const (.int .i64 65536)), none⟩])
 (.cond (.tmp 62)
 (.seq
 (.region false [
 ⟨some 2, .assign (.const (.sl true 0 1 [] [])), none⟩,
 ⟨some 3, .assign (.const (.int .i64 5)), none⟩])
 .ret)
 .skip))
 (.seq
 (.region false [
 ⟨some 63, .faddr (.tmp 4) 0, none⟩,
 ⟨some 64, .load false 1 (.tmp 63), none⟩,
 ⟨some 2, .assign (.tmp 64), none⟩,
 ⟨some 3, .assign (.const (.int .i64 0)), none⟩])
 .ret))))))))) }
/-- purlin/wire.Decode -/
def tf486 : TFn := { ntmps := 30, results := [.cell 2 true 10, .tmp 3, .tmp 4], body :=
 (.seq
 (.region false [
 ⟨some 2, .box 10 (.const (.agg [.int .u8 0, .int .i64 0, .int .i64 0, .int .i64 0, .int .i64 0, .sl true 0 5 [] [], .int .i64 0, .int .i64 0, .int .i64 0, .sl true 0 1 [] []])), none⟩,
 ⟨some 3, .assign (.const (.int .i64 0)), none⟩,
 ⟨some 4, .assign (.const (.int .i64 0)), none⟩])
 (.seq
 (.seq
 (.region false [
 ⟨some 9, .move (.tmp 0), none⟩,
 ⟨some 10, .len false (.tmp 9), none⟩,
 ⟨some 11, .bin 0 .gtr (.tmp 10) (.const (.int .i64 65536)), none⟩])
 (.cond (.tmp 11)
 (.seq
 (.region false [
 ⟨some 12, .build [.int .u8 0, .int .i64 0, .int .i64 0, .int .i64 0, .int .i64 0, .sl true 0 5 [] [], .int .i64 0, .int .i64 0, .int .i64 0, .sl true 0 1 [] []] [], none⟩,
 ⟨none, .store 10 (.tmp 2) (.tmp 12), none⟩,
 ⟨some 3, .assign (.const (.int .i64 5)), none⟩,
 ⟨some 4, .assign (.const (.int .i64 65536)), none⟩])
 .ret)
 .skip))
 (.seq
 (.region false [
 ⟨some 13, .move (.tmp 0), none⟩,
 ⟨some 14, .call true (.const (.fn 499 [])) [(.tmp 13)] [], none⟩,
 ⟨some 15, .buildM [.sl true 0 1 [] [], .int .i64 0, .bool false, .int .i64 0] 0 (.tmp 14), none⟩,
 ⟨some 16, .new 4 (.tmp 15), none⟩,
 ⟨some 5, .assign (.tmp 16), none⟩])
 (.seq
 (.region false [
 ⟨some 17, .move (.tmp 5), none⟩,
 ⟨some 18, .call false (.const (.fn 500 [])) [(.tmp 17)] [], none⟩,
 ⟨some 6, .box 10 (.const (.agg [.int .u8 0, .int .i64 0, .int .i64 0, .int .i64 0, .int .i64 0, .sl true 0 5 [] [], .int .i64 0, .int .i64 0, .int .i64 0, .sl true 0 1 [] []])), none⟩,
 ⟨none, .store 10 (.tmp 6) (.tmp 18), none⟩])
 (.seq
 (.seq
 (.region false [
 ⟨some 20, .move (.tmp 5), none⟩,
 ⟨some 21, .call false (.const (.fn 501 [])) [(.tmp 20)] [], none⟩,
 ⟨some 19, .move (.tmp 21), none⟩,
 ⟨some 22, .extract (.tmp 19) 0, none⟩,
 ⟨some 23, .extract (.tmp 19) 1, none⟩,
 ⟨some 7, .assign (.tmp 22), none⟩,
 ⟨some 8, .assign (.tmp 23), none⟩])
 (.seq
 (.region false [
 ⟨some 24, .move (.tmp 7), none⟩,
 ⟨some 25, .bin 0 .neq (.tmp 24) (.const (.int .i64 0)), none⟩])
 (.cond (.tmp 25)
 (.seq
 (.region false [
 ⟨some 26, .build [.int .u8 0, .int .i64 0, .int .i64 0, .int .i64 0, .int .i64 0, .sl true 0 5 [] [], .int .i64 0, .int .i64 0, .int .i64 0, .sl true 0 1 [] []] [], none⟩,
 ⟨some 27, .move (.tmp 7), none⟩,
 ⟨some 28, .move (.tmp 8), none⟩,
 ⟨none, .store 10 (.tmp 2) (.tmp 26), none⟩,
 ⟨some 3, .assign (.tmp 27), none⟩,
 ⟨some 4, .assign (.tmp 28), none⟩])
 .ret)
 .skip)))
 (.seq
 (.region false [
 ⟨some 29, .load true 10 (.tmp 6), none⟩,
 ⟨none, .store 10 (.tmp 2) (.tmp 29), none⟩,
 ⟨some 3, .assign (.const (.int .i64 0)), none⟩,
 ⟨some 4, .assign (.const (.int .i64 0)), none⟩])
 .ret)))))) }
/-- purlin/wire.Right -/
def tf490 : TFn := { ntmps := 142, results := [.tmp 2], body :=
 (.seq
 (.region false [
 ⟨some 1, .box 10 (.tmp 0), none⟩,
 ⟨some 2, .assign (.const (.bool false)), none⟩])
 (.seq
 (.region false [
 ⟨some 4, .load true 10 (.tmp 1), none⟩,
 ⟨some 5, .call true (.const (.fn 508 [])) [(.tmp 4)] [], none⟩,
 ⟨some 3, .box 10 (.const (.agg [.int .u8 0, .int .i64 0, .int .i64 0, .int .i64 0, .int .i64 0, .sl true 0 5 [] [], .int .i64 0, .int .i64 0, .int .i64 0, .sl true 0 1 [] []])), none⟩,
 ⟨none, .store 10 (.tmp 3) (.tmp 5), none⟩])
 (.seq
 (.seq
 (.region false [
 ⟨some 6, .faddr (.tmp 3) 1, none⟩,
 ⟨some 7, .load true 2 (.tmp 6), none⟩,
 ⟨some 8, .build [.int .i64 0, .int .i64 0] [], none⟩,
 ⟨some 9, .eqAgg true 5023 (.tmp 7) (.tmp 8), none⟩,
 ⟨some 10, .move (.tmp 9), none⟩,
 ⟨some 11, .faddr (.tmp 3) 3, (some (10, false))⟩,
 ⟨some 12, .load true 2 (.tmp 11), (some (10, false))⟩,
 ⟨some 13, .build [.int .i64 0, .int .i64 0] [], (some (10, false))⟩,
 ⟨some 14, .eqAgg true 5023 (.tmp 12) (.tmp 13), (some (10, false))⟩,
 ⟨some 15, .pick (.tmp 10) (.const (.bool true)) (.tmp 14), none⟩,
 ⟨some 16, .move (.tmp 15), none⟩,
 ⟨some 17, .faddr (.tmp 3) 5, (some (16, false))⟩,
 ⟨some 18, .load false 1 (.tmp 17), (some (16, false))⟩,
 ⟨some 19, .len false (.tmp 18), (some (16, false))⟩,
 ⟨some 20, .bin 0 .gtr (.tmp 19) (.const (.int .i64 0)), (some (16, false))⟩,
 ⟨some 21, .pick (.tmp 16) (.const (.bool true)) (.tmp 20), none⟩,
 ⟨some 22, .move (.tmp 21), none⟩,
 ⟨some 23, .faddr (.tmp 3) 6, (some (22, false))⟩,
 ⟨some 24, .load false 1 (.tmp 23), (some (22, false))⟩,
 ⟨some 25, .bin 0 .neq (.tmp 24) (.const (.int .i64 0)), (some (22, false))⟩,
 ⟨some 26, .pick (.tmp 22) (.const (.bool true)) (.tmp 25), none⟩,
 ⟨some 27, .move (.tmp 26), none⟩,
 ⟨some 28, .faddr (.tmp 3) 7, (some (27, false))⟩,
 ⟨some 29, .load false 1 (.tmp 28), (some (27, false))⟩,
 ⟨some 30, .bin 0 .neq (.tmp 29) (.const (.int .i64 0)), (some (27, false))⟩,
 ⟨some 31, .pick (.tmp 27) (.const (.bool true)) (.tmp 30), none⟩,
 ⟨some 32, .move (.tmp 31), none⟩,
 ⟨some 33, .faddr (.tmp 3) 8, (some (32, false))⟩,
 ⟨some 34, .faddr (.tmp 33) 0, (some (32, false))⟩,
 ⟨some 35, .load false 1 (.tmp 34), (some (32, false))⟩,
 ⟨some 36, .bin 0 .neq (.tmp 35) (.const (.int .i64 0)), (some (32, false))⟩,
 ⟨some 37, .pick (.tmp 32) (.const (.bool true)) (.tmp 36), none⟩,
 ⟨some 38, .move (.tmp 37), none⟩,
 ⟨some 39, .faddr (.tmp 3) 8, (some (38, false))⟩,
 ⟨some 40, .faddr (.tmp 39) 1, (some (38, false))⟩,
 ⟨some 41, .load false 1 (.tmp 40), (some (38, false))⟩,
 ⟨some 42, .len false (.tmp 41), (some (38, false))⟩,
 ⟨some 43, .bin 0 .gtr (.tmp 42) (.const (.int .i64 0)), (some (38, false))⟩,
 ⟨some 44, .pick (.tmp 38) (.const (.bool true)) (.tmp 43), none⟩])
 (.cond (.tmp 44)
 (.seq
 (.region false [
 ⟨some 2, .assign (.const (.bool false)), none⟩])
 .ret)
 .skip))
 (.seq
 (.seq
 (.region false [
 ⟨some 45, .faddr (.tmp 1) 0, none⟩,
 ⟨some 46, .load false 1 (.tmp 45), none⟩])
 (.block 0
 (.seq
 (.region false [
 ⟨some 48, .bin 0 .eql (.tmp 46) (.const (.int .u8 1)), none⟩,
 ⟨some 47, .assign (.tmp 48), none⟩])
 (.cond (.tmp 47)
 (.seq
 (.region false [
 ⟨some 49, .faddr (.tmp 1) 1, none⟩,
 ⟨some 50, .load true 2 (.tmp 49), none⟩,
 ⟨some 51, .call true (.const (.fn 509 [])) [(.tmp 50)] [], none⟩,
 ⟨some 52, .move (.tmp 51), none⟩,
 ⟨some 53, .faddr (.tmp 1) 8, (some (52, true))⟩,
 ⟨some 54, .load true 2 (.tmp 53), (some (52, true))⟩,
 ⟨some 55, .call true (.const (.fn 510 [])) [(.tmp 54)] [], (some (52, true))⟩,
 ⟨some 56, .pick (.tmp 52) (.tmp 55) (.const (.bool false)), none⟩,
 ⟨some 2, .assign (.tmp 56), none⟩])
 .ret)
 (.seq
 (.region false [
 ⟨some 58, .bin 0 .eql (.tmp 46) (.const (.int .u8 2)), none⟩,
 ⟨some 57, .assign (.tmp 58), none⟩])
 (.cond (.tmp 57)
 (.seq
 (.region false [
 ⟨some 59, .faddr (.tmp 1) 1, none⟩,
 ⟨some 60, .load true 2 (.tmp 59), none⟩,
 ⟨some 61, .call true (.const (.fn 509 [])) [(.tmp 60)] [], none⟩,
 ⟨some 62, .move (.tmp 61), none⟩,
 ⟨some 63, .faddr (.tmp 1) 5, (some (62, true))⟩,
 ⟨some 64, .load false 1 (.tmp 63), (some (62, true))⟩,
 ⟨some 65, .call true (.const (.fn 506 [])) [(.tmp 64)] [], (some (62, true))⟩,
 ⟨some 66, .pick (.tmp 62) (.tmp 65) (.const (.bool false)), none⟩,
 ⟨some 67, .move (.tmp 66), none⟩,
 ⟨some 68, .faddr (.tmp 1) 8, (some (67, true))⟩,
 ⟨some 69, .load true 2 (.tmp 68), (some (67, true))⟩,
 ⟨some 70, .call true (.const (.fn 510 [])) [(.tmp 69)] [], (some (67, true))⟩,
 ⟨some 71, .pick (.tmp 67) (.tmp 70) (.const (.bool false)), none⟩,
 ⟨some 2, .assign (.tmp 71), none⟩])
 .ret)
 (.seq
 (.region false [
 ⟨some 73, .bin 0 .eql (.tmp 46) (.const (.int .u8 3)), none⟩,
 ⟨some 72, .assign (.tmp 73), none⟩])
 (.cond (.tmp 72)
 (.seq
 (.region false [
 ⟨some 74, .faddr (.tmp 1) 3, none⟩,
 ⟨some 75, .load true 2 (.tmp 74), none⟩,
 ⟨some 76, .call true (.const (.fn 509 [])) [(.tmp 75)] [], none⟩,
 ⟨some 77, .move (.tmp 76), none⟩,
 ⟨some 78, .faddr (.tmp 1) 5, (some (77, true))⟩,
 ⟨some 79, .load false 1 (.tmp 78), (some (77, true))⟩,
 ⟨some 80, .call true (.const (.fn 506 [])) [(.tmp 79)] [], (some (77, true))⟩,
 ⟨some 81, .pick (.tmp 77) (.tmp 80) (.const (.bool false)), none⟩,
 ⟨some 82, .move (.tmp 81), none⟩,
 ⟨some 83, .faddr (.tmp 1) 8, (some (82, true))⟩,
 ⟨some 84, .load true 2 (.tmp 83), (some (82, true))⟩,
 ⟨some 85, .call true (.const (.fn 510 [])) [(.tmp 84)] [], (some (82, true))⟩,
 ⟨some 86, .pick (.tmp 82) (.tmp 85) (.const (.bool false)), none⟩,
 ⟨some 2, .assign (.tmp 86), none⟩])
 .ret)
 (.seq
 (.region false [
 ⟨some 88, .bin 0 .eql (.tmp 46) (.const (.int .u8 4)), none⟩,
 ⟨some 87, .assign (.tmp 88), none⟩])
 (.cond (.tmp 87)
 (.seq
 (.region false [
 ⟨some 89, .faddr (.tmp 1) 1, none⟩,
 ⟨some 90, .load true 2 (.tmp 89), none⟩,
 ⟨some 91, .call true (.const (.fn 509 [])) [(.tmp 90)] [], none⟩,
 ⟨some 92, .move (.tmp 91), none⟩,
 ⟨some 93, .faddr (.tmp 1) 6, (some (92, true))⟩,
 ⟨some 94, .load false 1 (.tmp 93), (some (92, true))⟩,
 ⟨some 95, .bin 0 .geq (.tmp 94) (.const (.int .i64 0)), (some (92, true))⟩,
 ⟨some 96, .pick (.tmp 92) (.tmp 95) (.const (.bool false)), none⟩,
 ⟨some 97, .move (.tmp 96), none⟩,
 ⟨some 98, .faddr (.tmp 1) 6, (some (97, true))⟩,
 ⟨some 99, .load false 1 (.tmp 98), (some (97, true))⟩,
 ⟨some 100, .bin 0 .lss (.tmp 99) (.const (.int .i64 4)), (some (97, true))⟩,
 ⟨some 101, .pick (.tmp 97) (.tmp 100) (.const (.bool false)), none⟩,
 ⟨some 2, .assign (.tmp 101), none⟩])
 .ret)
 (.seq
 (.region false [
 ⟨some 103, .bin 0 .eql (.tmp 46) (.const (.int .u8 5)), none⟩,
 ⟨some 102, .assign (.tmp 103), none⟩])
 (.cond (.tmp 102)
 (.seq
 (.region false [
 ⟨some 104, .faddr (.tmp 1) 1, none⟩,
 ⟨some 105, .load true 2 (.tmp 104), none⟩,
 ⟨some 106, .call true (.const (.fn 509 [])) [(.tmp 105)] [], none⟩,
 ⟨some 107, .move (.tmp 106), none⟩,
 ⟨some 108, .faddr (.tmp 1) 6, (some (107, true))⟩,
 ⟨some 109, .load false 1 (.tmp 108), (some (107, true))⟩,
 ⟨some 110, .bin 0 .geq (.tmp 109) (.const (.int .i64 1)), (some (107, true))⟩,
 ⟨some 111, .pick (.tmp 107) (.tmp 110) (.const (.bool false)), none⟩,
 ⟨some 112, .move (.tmp 111), none⟩,
 ⟨some 113, .faddr (.tmp 1) 6, (some (112, true))⟩,
 ⟨some 114, .load false 1 (.tmp 113), (some (112, true))⟩,
 ⟨some 115, .bin 0 .leq (.tmp 114) (.const (.int .i64 2147483647)), (some (112, true))⟩,
 ⟨some 116, .pick (.tmp 112) (.tmp 115) (.const (.bool false)), none⟩,
 ⟨some 2, .assign (.tmp 116), none⟩])
 .ret)
 (.seq
 (.region false [
 ⟨some 118, .bin 0 .eql (.tmp 46) (.const (.int .u8 6)), none⟩,
 ⟨some 117, .assign (.tmp 118), none⟩])
 (.cond (.tmp 117)
 (.seq
 (.region false [
 ⟨some 119, .faddr (.tmp 1) 6, none⟩,
 ⟨some 120, .load false 1 (.tmp 119), none⟩,
 ⟨some 121, .bin 0 .geq (.tmp 120) (.const (.int .i64 0)), none⟩,
 ⟨some 122, .move (.tmp 121), none⟩,
 ⟨some 123, .faddr (.tmp 1) 6, (some (122, true))⟩,
 ⟨some 124, .load false 1 (.tmp 123), (some (122, true))⟩,
 ⟨some 125, .bin 0 .leq (.tmp 124) (.const (.int .i64 2147483647)), (some (122, true))⟩,
 ⟨some 126, .pick (.tmp 122) (.tmp 125) (.const (.bool false)), none⟩,
 ⟨some 127, .move (.tmp 126), none⟩,
 ⟨some 128, .faddr (.tmp 1) 7, (some (127, true))⟩,
 ⟨some 129, .load false 1 (.tmp 128), (some (127, true))⟩,
 ⟨some 130, .bin 0 .geq (.tmp 129) (.const (.int .i64 0)), (some (127, true))⟩,
 ⟨some 131, .pick (.tmp 127) (.tmp 130) (.const (.bool false)), none⟩,
 ⟨some 132, .move (.tmp 131), none⟩,
 ⟨some 133, .faddr (.tmp 1) 7, (some (132, true))⟩,
 ⟨some 134, .load false 1 (.tmp 133), (some (132, true))⟩,
 ⟨some 135, .bin 0 .leq (.tmp 134) (.const (.int .i64 3)), (some (132, true))⟩,
 ⟨some 136, .pick (.tmp 132) (.tmp 135) (.const (.bool false)), none⟩,
 ⟨some 137, .move (.tmp 136), none⟩,
 ⟨some 138, .faddr (.tmp 1) 8, (some (137, true))⟩,
 ⟨some 139, .load true 2 (.tmp 138), (some (137, true))⟩,
 ⟨some 140, .call true (.const (.fn 510 [])) [(.tmp 139)] [], (some (137, true))⟩,
 ⟨some 141, .pick (.tmp 137) (.tmp 140) (.const (.bool false)), none⟩,
 ⟨some 2, .assign (.tmp 141), none⟩])
 .ret)
 .skip))))))))))))))
 (.seq
 (.region false [
 ⟨some 2, .assign (.const (.bool false)), none⟩])
 .ret))))) }
/-- (*purlin/wire.writer).name -/
def tf495 : TFn := { ntmps := 20, results := [], body :=
 (.seq
 (.region false [
 ⟨some 3, .box 2 (.tmp 1), none⟩])
 (.seq
 (.region true [
 ⟨some 4, .move (.tmp 0), none⟩,
 ⟨some 5, .move (.tmp 0), none⟩,
 ⟨some 6, .nilCheck (.tmp 5), none⟩,
 ⟨some 7, .faddr (.tmp 6) 0, none⟩,
 ⟨some 8, .load false 1 (.tmp 7), none⟩,
 ⟨some 9, .faddr (.tmp 3) 0, none⟩,
 ⟨some 10, .load false 1 (.tmp 9), none⟩,
 ⟨some 11, .conv .u8 (.tmp 10), none⟩,
 ⟨some 12, .buildSlice 1 1 [.int .u8 0] [(0, (.tmp 11))], none⟩,
 ⟨some 13, .append 1 1 (.tmp 8) (.tmp 12), none⟩,
 ⟨some 14, .nilCheck (.tmp 4), none⟩,
 ⟨some 15, .faddr (.tmp 14) 0, none⟩,
 ⟨none, .store 1 (.tmp 15) (.tmp 13), none⟩])
 (.region false [
 ⟨some 16, .move (.tmp 0), none⟩,
 ⟨some 17, .faddr (.tmp 3) 1, none⟩,
 ⟨some 18, .load false 1 (.tmp 17), none⟩,
 ⟨some 19, .call false (.const (.fn 497 [])) [(.tmp 16), (.tmp 18)] [], none⟩]))) }
/-- (*purlin/wire.writer).term -/
def tf496 : TFn := { ntmps := 76, results := [], body :=
 (.seq
 (.region false [
 ⟨some 6, .move (.tmp 0), none⟩,
 ⟨some 7, .move (.tmp 1), none⟩,
 ⟨some 8, .len false (.tmp 7), none⟩,
 ⟨some 9, .call false (.const (.fn 497 [])) [(.tmp 6), (.tmp 8)] [], none⟩])
 (.seq
 (.region false [
 ⟨some 10, .move (.tmp 1), none⟩,
 ⟨some 11, .len false (.tmp 10), none⟩,
 ⟨some 12, .move (.const (.int .i64 0)), none⟩])
 (.block 0
 (.loop [0, 10, 11, 12]
 (.seq
 (.region false [
 ⟨some 13, .bin 0 .lss (.tmp 12) (.tmp 11), none⟩])
 (.seq
 (.cond (.tmp 13)
 .skip
 (.exit 0))
 (.seq
 (.block 1
 (.seq
 (.region false [
 ⟨some 14, .idxAddr (.tmp 10) (.tmp 12) 5, none⟩,
 ⟨some 15, .load true 5 (.tmp 14), none⟩,
 ⟨some 5, .box 5 (.const (.agg [.int .u8 0, .str ⟨#[]⟩, .int .i64 0, .int .i64 0, .int .i64 0])), none⟩,
 ⟨none, .store 5 (.tmp 5) (.tmp 15), none⟩])
 (.seq
 (.region true [
 ⟨some 16, .move (.tmp 0), none⟩,
 ⟨some 17, .move (.tmp 0), none⟩,
 ⟨some 18, .nilCheck (.tmp 17), none⟩,
 ⟨some 19, .faddr (.tmp 18) 0, none⟩,
 ⟨some 20, .load false 1 (.tmp 19), none⟩,
 ⟨some 21, .faddr (.tmp 5) 0, none⟩,
 ⟨some 22, .load false 1 (.tmp 21), none⟩,
 ⟨some 23, .buildSlice 1 1 [.int .u8 0] [(0, (.tmp 22))], none⟩,
 ⟨some 24, .append 1 1 (.tmp 20) (.tmp 23), none⟩,
 ⟨some 25, .nilCheck (.tmp 16), none⟩,
 ⟨some 26, .faddr (.tmp 25) 0, none⟩,
 ⟨none, .store 1 (.tmp 26) (.tmp 24), none⟩])
 (.seq
 (.region false [
 ⟨some 27, .faddr (.tmp 5) 0, none⟩,
 ⟨some 28, .load false 1 (.tmp 27), none⟩])
 (.block 2
 (.seq
 (.region false [
 ⟨some 30, .bin 0 .eql (.tmp 28) (.const (.int .u8 1)), none⟩,
 ⟨some 29, .assign (.tmp 30), none⟩])
 (.cond (.tmp 29)
 (.seq
 (.region false [
 ⟨some 31, .faddr (.tmp 5) 2, none⟩,
 ⟨some 32, .load false 1 (.tmp 31), none⟩,
 ⟨some 33, .bin 0 .geq (.tmp 32) (.const (.int .i64 0)), none⟩])
 (.cond (.tmp 33)
 (.region false [
 ⟨some 34, .move (.tmp 0), none⟩,
 ⟨some 35, .faddr (.tmp 5) 2, none⟩,
 ⟨some 36, .load false 1 (.tmp 35), none⟩,
 ⟨some 37, .bin 0 .mul (.const (.int .i64 2)) (.tmp 36), none⟩,
 ⟨some 38, .call false (.const (.fn 497 [])) [(.tmp 34), (.tmp 37)] [], none⟩])
 (.region false [
 ⟨some 39, .move (.tmp 0), none⟩,
 ⟨some 40, .faddr (.tmp 5) 2, none⟩,
 ⟨some 41, .load false 1 (.tmp 40), none⟩,
 ⟨some 42, .bin 0 .mul (.const (.int .i64 (-2))) (.tmp 41), none⟩,
 ⟨some 43, .bin 0 .sub (.tmp 42) (.const (.int .i64 1)), none⟩,
 ⟨some 44, .call false (.const (.fn 497 [])) [(.tmp 39), (.tmp 43)] [], none⟩])))
 (.seq
 (.region false [
 ⟨some 46, .bin 0 .eql (.tmp 28) (.const (.int .u8 2)), none⟩,
 ⟨some 45, .assign (.tmp 46), none⟩])
 (.cond (.tmp 45)
 (.region false [
 ⟨some 47, .move (.tmp 0), none⟩,
 ⟨some 48, .faddr (.tmp 5) 1, none⟩,
 ⟨some 49, .load false 1 (.tmp 48), none⟩,
 ⟨some 50, .call false (.const (.fn 514 [])) [(.tmp 47), (.tmp 49)] [], none⟩])
 (.seq
 (.region false [
 ⟨some 52, .bin 0 .eql (.tmp 28) (.const (.int .u8 3)), none⟩,
 ⟨some 51, .assign (.tmp 52), none⟩])
 (.cond (.tmp 51)
 (.seq
 (.region false [
 ⟨some 53, .move (.tmp 0), none⟩,
 ⟨some 54, .faddr (.tmp 5) 1, none⟩,
 ⟨some 55, .load false 1 (.tmp 54), none⟩,
 ⟨some 56, .call false (.const (.fn 514 [])) [(.tmp 53), (.tmp 55)] [], none⟩])
 (.region true [
 ⟨some 57, .move (.tmp 0), none⟩,
 ⟨some 58, .move (.tmp 0), none⟩,
 ⟨some 59, .nilCheck (.tmp 58), none⟩,
 ⟨some 60, .faddr (.tmp 59) 0, none⟩,
 ⟨some 61, .load false 1 (.tmp 60), none⟩,
 ⟨some 62, .faddr (.tmp 5) 2, none⟩,
 ⟨some 63, .load false 1 (.tmp 62), none⟩,
 ⟨some 64, .conv .u8 (.tmp 63), none⟩,
 ⟨some 65, .buildSlice 1 1 [.int .u8 0] [(0, (.tmp 64))], none⟩,
 ⟨some 66, .append 1 1 (.tmp 61) (.tmp 65), none⟩,
 ⟨some 67, .nilCheck (.tmp 57), none⟩,
 ⟨some 68, .faddr (.tmp 67) 0, none⟩,
 ⟨none, .store 1 (.tmp 68) (.tmp 66), none⟩]))
 (.seq
 (.region false [
 ⟨some 70, .bin 0 .eql (.tmp 28) (.const (.int .u8 4)), none⟩,
 ⟨some 69, .assign (.tmp 70), none⟩])
 (.cond (.tmp 69)
 (.region false [
 ⟨some 71, .move (.tmp 0), none⟩,
 ⟨some 72, .faddr (.tmp 5) 3, none⟩,
 ⟨some 73, .load true 2 (.tmp 72), none⟩,
 ⟨some 74, .call false (.const (.fn 495 [])) [(.tmp 71), (.tmp 73)] [], none⟩])
 .skip)))))))))))))
 (.region false [
 ⟨some 75, .bin 0 .add (.tmp 12) (.const (.int .i64 1)), none⟩,
 ⟨some 12, .move (.tmp 75), none⟩])))))))) }
/-- (*purlin/wire.writer).number -/
def tf497 : TFn := { ntmps := 31, results := [], body :=
 (.seq
 (.block 0
 (.loop [0, 1]
 (.seq
 (.seq
 (.region false [
 ⟨some 4, .move (.tmp 1), none⟩,
 ⟨some 5, .bin 0 .geq (.tmp 4) (.const (.int .i64 128)), none⟩])
 (.cond (.tmp 5)
 .skip
 (.exit 0)))
 (.block 1
 (.seq
 (.region false [
 ⟨some 6, .move (.tmp 0), none⟩,
 ⟨some 7, .move (.tmp 0), none⟩,
 ⟨some 8, .nilCheck (.tmp 7), none⟩,
 ⟨some 9, .faddr (.tmp 8) 0, none⟩,
 ⟨some 10, .load false 1 (.tmp 9), none⟩,
 ⟨some 11, .move (.tmp 1), none⟩,
 ⟨some 12, .conv .u8 (.tmp 11), none⟩,
 ⟨some 13, .bin 0 .or (.tmp 12) (.const (.int .u8 128)), none⟩,
 ⟨some 14, .buildSlice 1 1 [.int .u8 0] [(0, (.tmp 13))], none⟩,
 ⟨some 15, .append 1 1 (.tmp 10) (.tmp 14), none⟩,
 ⟨some 16, .nilCheck (.tmp 6), none⟩,
 ⟨some 17, .faddr (.tmp 16) 0, none⟩,
 ⟨none, .store 1 (.tmp 17) (.tmp 15), none⟩])
 (.region false [
 ⟨some 18, .move (.tmp 1), none⟩,
 ⟨some 19, .bin 0 .shr (.tmp 18) (.const (.int .u64 7)), none⟩,
 ⟨some 1, .assign (.tmp 19), none⟩]))))))
 (.region false [
 ⟨some 20, .move (.tmp 0), none⟩,
 ⟨some 21, .move (.tmp 0), none⟩,
 ⟨some 22, .nilCheck (.tmp 21), none⟩,
 ⟨some 23, .faddr (.tmp 22) 0, none⟩,
 ⟨some 24, .load false 1 (.tmp 23), none⟩,
 ⟨some 25, .move (.tmp 1), none⟩,
 ⟨some 26, .conv .u8 (.tmp 25), none⟩,
 ⟨some 27, .buildSlice 1 1 [.int .u8 0] [(0, (.tmp 26))], none⟩,
 ⟨some 28, .append 1 1 (.tmp 24) (.tmp 27), none⟩,
 ⟨some 29, .nilCheck (.tmp 20), none⟩,
 ⟨some 30, .faddr (.tmp 29) 0, none⟩,
 ⟨none, .store 1 (.tmp 30) (.tmp 28), none⟩])) }
/-- (*purlin/wire.writer).amount -/
def tf498 : TFn := { ntmps := 30, results := [], body :=
 (.seq
 (.region false [
 ⟨some 3, .box 2 (.tmp 1), none⟩])
 (.seq
 (.region false [
 ⟨some 7, .move (.tmp 0), none⟩,
 ⟨some 8, .faddr (.tmp 3) 0, none⟩,
 ⟨some 9, .load false 1 (.tmp 8), none⟩,
 ⟨some 10, .call false (.const (.fn 497 [])) [(.tmp 7), (.tmp 9)] [], none⟩])
 (.seq
 (.region false [
 ⟨some 11, .move (.tmp 0), none⟩,
 ⟨some 12, .faddr (.tmp 3) 1, none⟩,
 ⟨some 13, .load false 1 (.tmp 12), none⟩,
 ⟨some 14, .len false (.tmp 13), none⟩,
 ⟨some 15, .call false (.const (.fn 497 [])) [(.tmp 11), (.tmp 14)] [], none⟩])
 (.seq
 (.region false [
 ⟨some 4, .assign (.const (.int .i64 0)), none⟩])
 (.seq
 (.region false [
 ⟨some 16, .faddr (.tmp 3) 1, none⟩,
 ⟨some 17, .load false 1 (.tmp 16), none⟩,
 ⟨some 18, .len false (.tmp 17), none⟩,
 ⟨some 19, .move (.const (.int .i64 0)), none⟩])
 (.block 0
 (.loop [0, 4, 17, 18, 19]
 (.seq
 (.region false [
 ⟨some 20, .bin 0 .lss (.tmp 19) (.tmp 18), none⟩])
 (.seq
 (.cond (.tmp 20)
 .skip
 (.exit 0))
 (.seq
 (.block 1
 (.seq
 (.region false [
 ⟨some 21, .idxAddr (.tmp 17) (.tmp 19) 1, none⟩,
 ⟨some 22, .load false 1 (.tmp 21), none⟩,
 ⟨some 6, .assign (.tmp 22), none⟩])
 (.seq
 (.region false [
 ⟨some 23, .move (.tmp 0), none⟩,
 ⟨some 24, .move (.tmp 6), none⟩,
 ⟨some 25, .move (.tmp 4), none⟩,
 ⟨some 26, .bin 0 .sub (.tmp 24) (.tmp 25), none⟩,
 ⟨some 27, .call false (.const (.fn 497 [])) [(.tmp 23), (.tmp 26)] [], none⟩])
 (.region false [
 ⟨some 28, .move (.tmp 6), none⟩,
 ⟨some 4, .assign (.tmp 28), none⟩]))))
 (.region false [
 ⟨some 29, .bin 0 .add (.tmp 19) (.const (.int .i64 1)), none⟩,
 ⟨some 19, .move (.tmp 29), none⟩]))))))))))) }
/-- slices.Clip[[]byte,byte] -/
def tf499 : TFn := { ntmps := 9, results := [.tmp 2], body :=
 (.seq
 (.region false [
 ⟨some 2, .assign (.const (.sl true 0 1 [] [])), none⟩])
 (.seq
 (.region false [
 ⟨some 3, .move (.tmp 0), none⟩,
 ⟨some 4, .move (.tmp 0), none⟩,
 ⟨some 5, .len false (.tmp 4), none⟩,
 ⟨some 6, .move (.tmp 0), none⟩,
 ⟨some 7, .len false (.tmp 6), none⟩,
 ⟨some 8, .slice3 1 (.tmp 3) none (.tmp 5) (.tmp 7), none⟩,
 ⟨some 2, .assign (.tmp 8), none⟩])
 .ret)) }
/-- (*purlin/wire.reader).message -/
def tf500 : TFn := { ntmps := 89, results := [.cell 2 true 10], body :=
 (.seq
 (.region false [
 ⟨some 2, .box 10 (.const (.agg [.int .u8 0, .int .i64 0, .int .i64 0, .int .i64 0, .int .i64 0, .sl true 0 5 [] [], .int .i64 0, .int .i64 0, .int .i64 0, .sl true 0 1 [] []])), none⟩])
 (.seq
 (.region false [
 ⟨some 5, .move (.tmp 0), none⟩,
 ⟨some 6, .nilCheck (.tmp 5), none⟩,
 ⟨some 7, .faddr (.tmp 6) 1, none⟩,
 ⟨some 8, .load false 1 (.tmp 7), none⟩,
 ⟨some 3, .assign (.tmp 8), none⟩])
 (.seq
 (.region false [
 ⟨some 9, .move (.tmp 0), none⟩,
 ⟨some 10, .call false (.const (.fn 515 [])) [(.tmp 9)] [], none⟩,
 ⟨some 11, .build [.int .u8 0, .int .i64 0, .int .i64 0, .int .i64 0, .int .i64 0, .sl true 0 5 [] [], .int .i64 0, .int .i64 0, .int .i64 0, .sl true 0 1 [] []] [(0, 1, (.tmp 10))], none⟩,
 ⟨some 4, .box 10 (.const (.agg [.int .u8 0, .int .i64 0, .int .i64 0, .int .i64 0, .int .i64 0, .sl true 0 5 [] [], .int .i64 0, .int .i64 0, .int .i64 0, .sl true 0 1 [] []])), none⟩,
 ⟨none, .store 10 (.tmp 4) (.tmp 11), none⟩])
 (.seq
 (.seq
 (.region false [
 ⟨some 12, .faddr (.tmp 4) 0, none⟩,
 ⟨some 13, .load false 1 (.tmp 12), none⟩])
 (.block 0
 (.seq
 (.seq
 (.region false [
 ⟨some 18, .bin 0 .eql (.tmp 13) (.const (.int .u8 1)), none⟩,
 ⟨some 17, .assign (.tmp 18), none⟩])
 (.cond (.tmp 17)
 .skip
 (.seq
 (.region false [
 ⟨some 19, .bin 0 .eql (.tmp 13) (.const (.int .u8 2)), none⟩,
 ⟨some 17, .assign (.tmp 19), none⟩])
 (.cond (.tmp 17)
 .skip
 (.seq
 (.region false [
 ⟨some 20, .bin 0 .eql (.tmp 13) (.const (.int .u8 4)), none⟩,
 ⟨some 17, .assign (.tmp 20), none⟩])
 (.cond (.tmp 17)
 .skip
 (.region false [
 ⟨some 21, .bin 0 .eql (.tmp 13) (.const (.int .u8 5)), none⟩,
 ⟨some 17, .assign (.tmp 21), none⟩])))))))
 (.cond (.tmp 17)
 (.region false [
 ⟨some 22, .move (.tmp 0), none⟩,
 ⟨some 23, .call false (.const (.fn 516 [])) [(.tmp 22)] [], none⟩,
 ⟨some 24, .faddr (.tmp 4) 1, none⟩,
 ⟨none, .store 2 (.tmp 24) (.tmp 23), none⟩])
 (.seq
 (.region false [
 ⟨some 26, .bin 0 .eql (.tmp 13) (.const (.int .u8 3)), none⟩,
 ⟨some 25, .assign (.tmp 26), none⟩])
 (.cond (.tmp 25)
 (.region false [
 ⟨some 27, .move (.tmp 0), none⟩,
 ⟨some 28, .call false (.const (.fn 516 [])) [(.tmp 27)] [], none⟩,
 ⟨some 29, .faddr (.tmp 4) 3, none⟩,
 ⟨none, .store 2 (.tmp 29) (.tmp 28), none⟩])
 (.seq
 (.region false [
 ⟨some 31, .bin 0 .eql (.tmp 13) (.const (.int .u8 6)), none⟩,
 ⟨some 30, .assign (.tmp 31), none⟩])
 (.cond (.tmp 30)
 .skip
 (.region false [
 ⟨some 14, .move (.tmp 0), none⟩,
 ⟨some 15, .move (.tmp 3), none⟩,
 ⟨some 16, .call false (.const (.fn 517 [])) [(.tmp 14), (.tmp 15)] [], none⟩])))))))))
 (.seq
 (.seq
 (.region false [
 ⟨some 32, .faddr (.tmp 4) 0, none⟩,
 ⟨some 33, .load false 1 (.tmp 32), none⟩])
 (.block 1
 (.seq
 (.seq
 (.region false [
 ⟨some 35, .bin 0 .eql (.tmp 33) (.const (.int .u8 2)), none⟩,
 ⟨some 34, .assign (.tmp 35), none⟩])
 (.cond (.tmp 34)
 .skip
 (.region false [
 ⟨some 36, .bin 0 .eql (.tmp 33) (.const (.int .u8 3)), none⟩,
 ⟨some 34, .assign (.tmp 36), none⟩])))
 (.cond (.tmp 34)
 (.region false [
 ⟨some 37, .move (.tmp 0), none⟩,
 ⟨some 38, .call false (.const (.fn 513 [])) [(.tmp 37)] [], none⟩,
 ⟨some 39, .faddr (.tmp 4) 5, none⟩,
 ⟨none, .store 1 (.tmp 39) (.tmp 38), none⟩])
 (.seq
 (.region false [
 ⟨some 41, .bin 0 .eql (.tmp 33) (.const (.int .u8 4)), none⟩,
 ⟨some 40, .assign (.tmp 41), none⟩])
 (.cond (.tmp 40)
 (.region false [
 ⟨some 42, .move (.tmp 0), none⟩,
 ⟨some 43, .call false (.const (.fn 518 [])) [(.tmp 42), (.const (.int .i64 0)), (.const (.int .i64 3))] [], none⟩,
 ⟨some 44, .faddr (.tmp 4) 6, none⟩,
 ⟨none, .store 1 (.tmp 44) (.tmp 43), none⟩])
 (.seq
 (.region false [
 ⟨some 46, .bin 0 .eql (.tmp 33) (.const (.int .u8 5)), none⟩,
 ⟨some 45, .assign (.tmp 46), none⟩])
 (.cond (.tmp 45)
 (.region false [
 ⟨some 47, .move (.tmp 0), none⟩,
 ⟨some 48, .call false (.const (.fn 518 [])) [(.tmp 47), (.const (.int .i64 1)), (.const (.int .i64 2147483647))] [], none⟩,
 ⟨some 49, .faddr (.tmp 4) 6, none⟩,
 ⟨none, .store 1 (.tmp 49) (.tmp 48), none⟩])
 (.seq
 (.region false [
 ⟨some 51, .bin 0 .eql (.tmp 33) (.const (.int .u8 6)), none⟩,
 ⟨some 50, .assign (.tmp 51), none⟩])
 (.cond (.tmp 50)
 (.seq
 (.region false [
 ⟨some 52, .move (.tmp 0), none⟩,
 ⟨some 53, .call false (.const (.fn 518 [])) [(.tmp 52), (.const (.int .i64 0)), (.const (.int .i64 2147483647))] [], none⟩,
 ⟨some 54, .faddr (.tmp 4) 6, none⟩,
 ⟨none, .store 1 (.tmp 54) (.tmp 53), none⟩])
 (.region false [
 ⟨some 55, .move (.tmp 0), none⟩,
 ⟨some 56, .call false (.const (.fn 518 [])) [(.tmp 55), (.const (.int .i64 0)), (.const (.int .i64 3))] [], none⟩,
 ⟨some 57, .faddr (.tmp 4) 7, none⟩,
 ⟨none, .store 1 (.tmp 57) (.tmp 56), none⟩]))
 .skip))))))))))
 (.seq
 (.seq
 (.region false [
 ⟨some 58, .faddr (.tmp 4) 0, none⟩,
 ⟨some 59, .load false 1 (.tmp 58), none⟩,
 ⟨some 60, .bin 0 .eql (.tmp 59) (.const (.int .u8 4)), none⟩,
 ⟨some 61, .move (.tmp 60), none⟩,
 ⟨some 62, .faddr (.tmp 4) 0, (some (61, false))⟩,
 ⟨some 63, .load false 1 (.tmp 62), (some (61, false))⟩,
 ⟨some 64, .bin 0 .eql (.tmp 63) (.const (.int .u8 5)), (some (61, false))⟩,
 ⟨some 65, .pick (.tmp 61) (.const (.bool true)) (.tmp 64), none⟩])
 (.cond (.tmp 65)
 (.seq
 (.region false [
 ⟨some 66, .load true 10 (.tmp 4), none⟩,
 ⟨none, .store 10 (.tmp 2) (.tmp 66), none⟩])
 .ret)
 .skip))
 (.seq
 (.region false [
 ⟨some 67, .move (.tmp 0), none⟩,
 ⟨some 68, .nilCheck (.tmp 67), none⟩,
 ⟨some 69, .faddr (.tmp 68) 1, none⟩,
 ⟨some 70, .load false 1 (.tmp 69), none⟩,
 ⟨some 3, .assign (.tmp 70), none⟩])
 (.seq
 (.region false [
 ⟨some 71, .move (.tmp 0), none⟩,
 ⟨some 72, .call false (.const (.fn 519 [])) [(.tmp 71)] [], none⟩,
 ⟨some 73, .faddr (.tmp 4) 8, none⟩,
 ⟨none, .store 2 (.tmp 73) (.tmp 72), none⟩])
 (.seq
 (.seq
 (.region false [
 ⟨some 74, .move (.tmp 0), none⟩,
 ⟨some 75, .nilCheck (.tmp 74), none⟩,
 ⟨some 76, .faddr (.tmp 75) 2, none⟩,
 ⟨some 77, .load false 1 (.tmp 76), none⟩,
 ⟨some 78, .un .not (.tmp 77), none⟩,
 ⟨some 79, .move (.tmp 78), none⟩,
 ⟨some 80, .faddr (.tmp 4) 8, (some (79, true))⟩,
 ⟨some 81, .load true 2 (.tmp 80), (some (79, true))⟩,
 ⟨some 82, .call true (.const (.fn 510 [])) [(.tmp 81)] [], (some (79, true))⟩,
 ⟨some 83, .un .not (.tmp 82), (some (79, true))⟩,
 ⟨some 84, .pick (.tmp 79) (.tmp 83) (.const (.bool false)), none⟩])
 (.cond (.tmp 84)
 (.region false [
 ⟨some 85, .move (.tmp 0), none⟩,
 ⟨some 86, .move (.tmp 3), none⟩,
 ⟨some 87, .call false (.const (.fn 517 [])) [(.tmp 85), (.tmp 86)] [], none⟩])
 .skip))
 (.seq
 (.region false [
 ⟨some 88, .load true 10 (.tmp 4), none⟩,
 ⟨none, .store 10 (.tmp 2) (.tmp 88), none⟩])
 .ret)))))))))) }
/-- (*purlin/wire.reader).ended -/
def tf501 : TFn := { ntmps := 35, results := [.tmp 2, .tmp 3], body :=
 (.seq
 (.region false [
 ⟨some 2, .assign (.const (.int .i64 0)), none⟩,
 ⟨some 3, .assign (.const (.int .i64 0)), none⟩])
 (.seq
 (.seq
 (.region true [
 ⟨some 4, .move (.tmp 0), none⟩,
 ⟨some 5, .nilCheck (.tmp 4), none⟩,
 ⟨some 6, .faddr (.tmp 5) 2, none⟩,
 ⟨some 7, .load false 1 (.tmp 6), none⟩,
 ⟨some 8, .un .not (.tmp 7), none⟩,
 ⟨some 9, .move (.tmp 8), none⟩,
 ⟨some 10, .move (.tmp 0), (some (9, true))⟩,
 ⟨some 11, .nilCheck (.tmp 10), (some (9, true))⟩,
 ⟨some 12, .faddr (.tmp 11) 1, (some (9, true))⟩,
 ⟨some 13, .load false 1 (.tmp 12), (some (9, true))⟩,
 ⟨some 14, .move (.tmp 0), (some (9, true))⟩,
 ⟨some 15, .nilCheck (.tmp 14), (some (9, true))⟩,
 ⟨some 16, .faddr (.tmp 15) 0, (some (9, true))⟩,
 ⟨some 17, .load false 1 (.tmp 16), (some (9, true))⟩,
 ⟨some 18, .len false (.tmp 17), (some (9, true))⟩,
 ⟨some 19, .bin 0 .lss (.tmp 13) (.tmp 18), (some (9, true))⟩,
 ⟨some 20, .pick (.tmp 9) (.tmp 19) (.const (.bool false)), none⟩])
 (.cond (.tmp 20)
 (.region false [
 ⟨some 21, .move (.tmp 0), none⟩,
 ⟨some 22, .move (.tmp 0), none⟩,
 ⟨some 23, .nilCheck (.tmp 22), none⟩,
 ⟨some 24, .faddr (.tmp 23) 1, none⟩,
 ⟨some 25, .load false 1 (.tmp 24), none⟩,
 ⟨some 26, .call false (.const (.fn 517 [])) [(.tmp 21), (.tmp 25)] [], none⟩])
 .skip))
 (.seq
 (.seq
 (.region false [
 ⟨some 27, .move (.tmp 0), none⟩,
 ⟨some 28, .nilCheck (.tmp 27), none⟩,
 ⟨some 29, .faddr (.tmp 28) 2, none⟩,
 ⟨some 30, .load false 1 (.tmp 29), none⟩])
 (.cond (.tmp 30)
 (.seq
 (.region true [
 ⟨some 31, .move (.tmp 0), none⟩,
 ⟨some 32, .nilCheck (.tmp 31), none⟩,
 ⟨some 33, .faddr (.tmp 32) 3, none⟩,
 ⟨some 34, .load false 1 (.tmp 33), none⟩,
 ⟨some 2, .move (.const (.int .i64 111)), none⟩,
 ⟨some 3, .assign (.tmp 34), none⟩])
 .ret)
 .skip))
 (.seq
 (.region false [
 ⟨some 2, .assign (.const (.int .i64 0)), none⟩,
 ⟨some 3, .assign (.const (.int .i64 0)), none⟩])
 .ret)))) }
/-- purlin/wire.rightTerm -/
def tf506 : TFn := { ntmps := 24, results := [.tmp 2], body :=
 (.seq
 (.region false [
 ⟨some 2, .assign (.const (.bool false)), none⟩])
 (.seq
 (.seq
 (.region false [
 ⟨some 5, .move (.tmp 0), none⟩,
 ⟨some 6, .call true (.const (.fn 25 [])) [(.tmp 5)] [], none⟩,
 ⟨some 7, .un .not (.tmp 6), none⟩])
 (.cond (.tmp 7)
 (.seq
 (.region false [
 ⟨some 2, .assign (.const (.bool false)), none⟩])
 .ret)
 .skip))
 (.seq
 (.seq
 (.region false [
 ⟨some 8, .move (.tmp 0), none⟩,
 ⟨some 9, .len false (.tmp 8), none⟩,
 ⟨some 10, .move (.const (.int .i64 0)), none⟩])
 (.block 0
 (.loop [8, 9, 10]
 (.seq
 (.region false [
 ⟨some 11, .bin 0 .lss (.tmp 10) (.tmp 9), none⟩])
 (.seq
 (.cond (.tmp 11)
 .skip
 (.exit 0))
 (.seq
 (.block 1
 (.seq
 (.region false [
 ⟨some 12, .idxAddr (.tmp 8) (.tmp 10) 5, none⟩,
 ⟨some 13, .load true 5 (.tmp 12), none⟩,
 ⟨some 4, .box 5 (.const (.agg [.int .u8 0, .str ⟨#[]⟩, .int .i64 0, .int .i64 0, .int .i64 0])), none⟩,
 ⟨none, .store 5 (.tmp 4) (.tmp 13), none⟩])
 (.seq
 (.region false [
 ⟨some 14, .faddr (.tmp 4) 0, none⟩,
 ⟨some 15, .load false 1 (.tmp 14), none⟩,
 ⟨some 16, .bin 0 .eql (.tmp 15) (.const (.int .u8 4)), none⟩,
 ⟨some 17, .move (.tmp 16), none⟩,
 ⟨some 18, .faddr (.tmp 4) 3, (some (17, true))⟩,
 ⟨some 19, .load true 2 (.tmp 18), (some (17, true))⟩,
 ⟨some 20, .call true (.const (.fn 509 [])) [(.tmp 19)] [], (some (17, true))⟩,
 ⟨some 21, .un .not (.tmp 20), (some (17, true))⟩,
 ⟨some 22, .pick (.tmp 17) (.tmp 21) (.const (.bool false)), none⟩])
 (.cond (.tmp 22)
 (.seq
 (.region false [
 ⟨some 2, .assign (.const (.bool false)), none⟩])
 .ret)
 .skip))))
 (.region false [
 ⟨some 23, .bin 0 .add (.tmp 10) (.const (.int .i64 1)), none⟩,
 ⟨some 10, .move (.tmp 23), none⟩])))))))
 (.seq
 (.region false [
 ⟨some 2, .assign (.const (.bool true)), none⟩])
 .ret)))) }
/-- purlin/wire.bare -/
def tf508 : TFn := { ntmps := 34, results := [.cell 2 true 10], body :=
 (.seq
 (.region false [
 ⟨some 1, .box 10 (.tmp 0), none⟩,
 ⟨some 2, .box 10 (.const (.agg [.int .u8 0, .int .i64 0, .int .i64 0, .int .i64 0, .int .i64 0, .sl true 0 5 [] [], .int .i64 0, .int .i64 0, .int .i64 0, .sl true 0 1 [] []])), none⟩])
 (.seq
 (.seq
 (.region false [
 ⟨some 3, .faddr (.tmp 1) 0, none⟩,
 ⟨some 4, .load false 1 (.tmp 3), none⟩])
 (.block 0
 (.seq
 (.block 5
 (.seq
 (.block 4
 (.seq
 (.block 3
 (.seq
 (.block 2
 (.seq
 (.block 1
 (.seq
 (.seq
 (.seq
 (.region false [
 ⟨some 6, .bin 0 .eql (.tmp 4) (.const (.int .u8 2)), none⟩,
 ⟨some 5, .assign (.tmp 6), none⟩])
 (.cond (.tmp 5)
 (.exit 1)
 .skip))
 (.seq
 (.seq
 (.region false [
 ⟨some 8, .bin 0 .eql (.tmp 4) (.const (.int .u8 1)), none⟩,
 ⟨some 7, .assign (.tmp 8), none⟩])
 (.cond (.tmp 7)
 (.exit 2)
 .skip))
 (.seq
 (.seq
 (.region false [
 ⟨some 10, .bin 0 .eql (.tmp 4) (.const (.int .u8 3)), none⟩,
 ⟨some 9, .assign (.tmp 10), none⟩])
 (.cond (.tmp 9)
 (.exit 3)
 .skip))
 (.seq
 (.seq
 (.seq
 (.region false [
 ⟨some 12, .bin 0 .eql (.tmp 4) (.const (.int .u8 4)), none⟩,
 ⟨some 11, .assign (.tmp 12), none⟩])
 (.cond (.tmp 11)
 .skip
 (.region false [
 ⟨some 13, .bin 0 .eql (.tmp 4) (.const (.int .u8 5)), none⟩,
 ⟨some 11, .assign (.tmp 13), none⟩])))
 (.cond (.tmp 11)
 (.exit 4)
 .skip))
 (.seq
 (.region false [
 ⟨some 15, .bin 0 .eql (.tmp 4) (.const (.int .u8 6)), none⟩,
 ⟨some 14, .assign (.tmp 15), none⟩])
 (.cond (.tmp 14)
 (.exit 5)
 .skip))))))
 (.exit 0)))
 (.region false [
 ⟨some 16, .faddr (.tmp 1) 5, none⟩,
 ⟨none, .store 1 (.tmp 16) (.const (.sl true 0 5 [] [])), none⟩])))
 (.seq
 (.region false [
 ⟨some 17, .build [.int .i64 0, .int .i64 0] [], none⟩,
 ⟨some 18, .build [.int .i64 0, .sl true 0 1 [] []] [], none⟩,
 ⟨some 19, .faddr (.tmp 1) 1, none⟩,
 ⟨none, .store 2 (.tmp 19) (.tmp 17), none⟩,
 ⟨some 20, .faddr (.tmp 1) 8, none⟩,
 ⟨none, .store 2 (.tmp 20) (.tmp 18), none⟩])
 (.exit 0))))
 (.seq
 (.region false [
 ⟨some 21, .build [.int .i64 0, .int .i64 0] [], none⟩,
 ⟨some 22, .build [.int .i64 0, .sl true 0 1 [] []] [], none⟩,
 ⟨some 23, .faddr (.tmp 1) 3, none⟩,
 ⟨none, .store 2 (.tmp 23) (.tmp 21), none⟩,
 ⟨some 24, .faddr (.tmp 1) 5, none⟩,
 ⟨none, .store 1 (.tmp 24) (.const (.sl true 0 5 [] [])), none⟩,
 ⟨some 25, .faddr (.tmp 1) 8, none⟩,
 ⟨none, .store 2 (.tmp 25) (.tmp 22), none⟩])
 (.exit 0))))
 (.seq
 (.region false [
 ⟨some 26, .build [.int .i64 0, .int .i64 0] [], none⟩,
 ⟨some 27, .faddr (.tmp 1) 1, none⟩,
 ⟨none, .store 2 (.tmp 27) (.tmp 26), none⟩,
 ⟨some 28, .faddr (.tmp 1) 6, none⟩,
 ⟨none, .store 1 (.tmp 28) (.const (.int .i64 0)), none⟩])
 (.exit 0))))
 (.seq
 (.region false [
 ⟨some 29, .build [.int .i64 0, .sl true 0 1 [] []] [], none⟩,
 ⟨some 30, .faddr (.tmp 1) 6, none⟩,
 ⟨none, .store 1 (.tmp 30) (.const (.int .i64 0)), none⟩,
 ⟨some 31, .faddr (.tmp 1) 7, none⟩,
 ⟨none, .store 1 (.tmp 31) (.const (.int .i64 0)), none⟩,
 ⟨some 32, .faddr (.tmp 1) 8, none⟩,
 ⟨none, .store 2 (.tmp 32) (.tmp 29), none⟩])
 (.exit 0)))))
 (.seq
 (.region false [
 ⟨some 33, .load true 10 (.tmp 1), none⟩,
 ⟨none, .store 10 (.tmp 2) (.tmp 33), none⟩])
 .ret))) }
/-- purlin/wire.rightName -/
def tf509 : TFn := { ntmps := 21, results := [.tmp 2], body :=
 (.seq
 (.region false [
 ⟨some 1, .box 2 (.tmp 0), none⟩,
 ⟨some 2, .assign (.const (.bool false)), none⟩])
 (.seq
 (.region false [
 ⟨some 3, .faddr (.tmp 1) 0, none⟩,
 ⟨some 4, .load false 1 (.tmp 3), none⟩,
 ⟨some 5, .bin 0 .geq (.tmp 4) (.const (.int .i64 0)), none⟩,
 ⟨some 6, .move (.tmp 5), none⟩,
 ⟨some 7, .faddr (.tmp 1) 0, (some (6, true))⟩,
 ⟨some 8, .load false 1 (.tmp 7), (some (6, true))⟩,
 ⟨some 9, .bin 0 .lss (.tmp 8) (.const (.int .i64 4)), (some (6, true))⟩,
 ⟨some 10, .pick (.tmp 6) (.tmp 9) (.const (.bool false)), none⟩,
 ⟨some 11, .move (.tmp 10), none⟩,
 ⟨some 12, .faddr (.tmp 1) 1, (some (11, true))⟩,
 ⟨some 13, .load false 1 (.tmp 12), (some (11, true))⟩,
 ⟨some 14, .bin 0 .geq (.tmp 13) (.const (.int .i64 0)), (some (11, true))⟩,
 ⟨some 15, .pick (.tmp 11) (.tmp 14) (.const (.bool false)), none⟩,
 ⟨some 16, .move (.tmp 15), none⟩,
 ⟨some 17, .faddr (.tmp 1) 1, (some (16, true))⟩,
 ⟨some 18, .load false 1 (.tmp 17), (some (16, true))⟩,
 ⟨some 19, .bin 0 .leq (.tmp 18) (.const (.int .i64 2147483647)), (some (16, true))⟩,
 ⟨some 20, .pick (.tmp 16) (.tmp 19) (.const (.bool false)), none⟩,
 ⟨some 2, .assign (.tmp 20), none⟩])
 .ret)) }
/-- purlin/wire.paid -/
def tf510 : TFn := { ntmps := 16, results := [.tmp 2], body :=
 (.seq
 (.region false [
 ⟨some 1, .box 2 (.tmp 0), none⟩,
 ⟨some 2, .assign (.const (.bool false)), none⟩])
 (.seq
 (.region false [
 ⟨some 3, .load true 2 (.tmp 1), none⟩,
 ⟨some 4, .call true (.const (.fn 521 [])) [(.tmp 3)] [], none⟩,
 ⟨some 5, .move (.tmp 4), none⟩,
 ⟨some 6, .faddr (.tmp 1) 0, (some (5, true))⟩,
 ⟨some 7, .load false 1 (.tmp 6), (some (5, true))⟩,
 ⟨some 8, .bin 0 .gtr (.tmp 7) (.const (.int .i64 0)), (some (5, true))⟩,
 ⟨some 9, .move (.tmp 8), (some (5, true))⟩,
 ⟨some 10, .faddr (.tmp 1) 1, (some (9, false))⟩,
 ⟨some 11, .load false 1 (.tmp 10), (some (9, false))⟩,
 ⟨some 12, .len false (.tmp 11), (some (9, false))⟩,
 ⟨some 13, .bin 0 .gtr (.tmp 12) (.const (.int .i64 0)), (some (9, false))⟩,
 ⟨some 14, .pick (.tmp 9) (.const (.bool true)) (.tmp 13), (some (5, true))⟩,
 ⟨some 15, .pick (.tmp 5) (.tmp 14) (.const (.bool false)), none⟩,
 ⟨some 2, .assign (.tmp 15), none⟩])
 .ret)) }
/-- (*purlin/wire.reader).term -/
def tf513 : TFn := { ntmps := 68, results := [.tmp 2], body :=
 (.seq
 (.region false [
 ⟨some 2, .assign (.const (.sl true 0 5 [] [])), none⟩])
 (.seq
 (.region false [
 ⟨some 9, .move (.tmp 0), none⟩,
 ⟨some 10, .call false (.const (.fn 518 [])) [(.tmp 9), (.const (.int .i64 1)), (.const (.int .i64 256))] [], none⟩,
 ⟨some 3, .assign (.tmp 10), none⟩])
 (.seq
 (.region false [
 ⟨some 4, .assign (.const (.sl true 0 5 [] [])), none⟩])
 (.seq
 (.region false [
 ⟨some 5, .assign (.const (.int .i64 1)), none⟩])
 (.seq
 (.block 0
 (.loop [0, 3, 4, 5]
 (.seq
 (.seq
 (.region false [
 ⟨some 11, .move (.tmp 4), none⟩,
 ⟨some 12, .len false (.tmp 11), none⟩,
 ⟨some 13, .move (.tmp 3), none⟩,
 ⟨some 14, .bin 0 .lss (.tmp 12) (.tmp 13), none⟩,
 ⟨some 15, .move (.tmp 14), none⟩,
 ⟨some 16, .move (.tmp 0), (some (15, true))⟩,
 ⟨some 17, .nilCheck (.tmp 16), (some (15, true))⟩,
 ⟨some 18, .faddr (.tmp 17) 2, (some (15, true))⟩,
 ⟨some 19, .load false 1 (.tmp 18), (some (15, true))⟩,
 ⟨some 20, .un .not (.tmp 19), (some (15, true))⟩,
 ⟨some 21, .pick (.tmp 15) (.tmp 20) (.const (.bool false)), none⟩])
 (.cond (.tmp 21)
 .skip
 (.exit 0)))
 (.block 1
 (.seq
 (.region false [
 ⟨some 22, .move (.tmp 0), none⟩,
 ⟨some 23, .nilCheck (.tmp 22), none⟩,
 ⟨some 24, .faddr (.tmp 23) 1, none⟩,
 ⟨some 25, .load false 1 (.tmp 24), none⟩,
 ⟨some 6, .assign (.tmp 25), none⟩])
 (.seq
 (.region false [
 ⟨some 26, .move (.tmp 0), none⟩,
 ⟨some 27, .call false (.const (.fn 522 [])) [(.tmp 26)] [], none⟩,
 ⟨some 7, .box 5 (.const (.agg [.int .u8 0, .str ⟨#[]⟩, .int .i64 0, .int .i64 0, .int .i64 0])), none⟩,
 ⟨none, .store 5 (.tmp 7) (.tmp 27), none⟩])
 (.seq
 (.region false [
 ⟨some 28, .move (.tmp 5), none⟩,
 ⟨some 29, .bin 0 .sub (.tmp 28) (.const (.int .i64 1)), none⟩,
 ⟨some 5, .assign (.tmp 29), none⟩])
 (.seq
 (.seq
 (.region false [
 ⟨some 30, .faddr (.tmp 7) 0, none⟩,
 ⟨some 31, .load false 1 (.tmp 30), none⟩,
 ⟨some 32, .bin 0 .eql (.tmp 31) (.const (.int .u8 3)), none⟩])
 (.cond (.tmp 32)
 (.region false [
 ⟨some 33, .move (.tmp 5), none⟩,
 ⟨some 34, .faddr (.tmp 7) 2, none⟩,
 ⟨some 35, .load false 1 (.tmp 34), none⟩,
 ⟨some 36, .bin 0 .add (.tmp 33) (.tmp 35), none⟩,
 ⟨some 5, .assign (.tmp 36), none⟩])
 .skip))
 (.seq
 (.region false [
 ⟨some 37, .move (.tmp 3), none⟩,
 ⟨some 38, .move (.tmp 4), none⟩,
 ⟨some 39, .len false (.tmp 38), none⟩,
 ⟨some 40, .bin 0 .sub (.tmp 37) (.tmp 39), none⟩,
 ⟨some 41, .bin 0 .sub (.tmp 40) (.const (.int .i64 1)), none⟩,
 ⟨some 8, .assign (.tmp 41), none⟩])
 (.seq
 (.seq
 (.region false [
 ⟨some 42, .move (.tmp 0), none⟩,
 ⟨some 43, .nilCheck (.tmp 42), none⟩,
 ⟨some 44, .faddr (.tmp 43) 2, none⟩,
 ⟨some 45, .load false 1 (.tmp 44), none⟩,
 ⟨some 46, .un .not (.tmp 45), none⟩,
 ⟨some 47, .move (.tmp 46), none⟩,
 ⟨some 48, .move (.tmp 5), (some (47, true))⟩,
 ⟨some 49, .move (.tmp 8), (some (47, true))⟩,
 ⟨some 50, .bin 0 .gtr (.tmp 48) (.tmp 49), (some (47, true))⟩,
 ⟨some 51, .move (.tmp 50), (some (47, true))⟩,
 ⟨some 52, .move (.tmp 5), (some (51, false))⟩,
 ⟨some 53, .bin 0 .eql (.tmp 52) (.const (.int .i64 0)), (some (51, false))⟩,
 ⟨some 54, .move (.tmp 53), (some (51, false))⟩,
 ⟨some 55, .move (.tmp 8), (some (54, true))⟩,
 ⟨some 56, .bin 0 .gtr (.tmp 55) (.const (.int .i64 0)), (some (54, true))⟩,
 ⟨some 57, .pick (.tmp 54) (.tmp 56) (.const (.bool false)), (some (51, false))⟩,
 ⟨some 58, .pick (.tmp 51) (.const (.bool true)) (.tmp 57), (some (47, true))⟩,
 ⟨some 59, .pick (.tmp 47) (.tmp 58) (.const (.bool false)), none⟩])
 (.cond (.tmp 59)
 (.region false [
 ⟨some 60, .move (.tmp 0), none⟩,
 ⟨some 61, .move (.tmp 6), none⟩,
 ⟨some 62, .call false (.const (.fn 517 [])) [(.tmp 60), (.tmp 61)] [], none⟩])
 .skip))
 (.region false [
 ⟨some 63, .move (.tmp 4), none⟩,
 ⟨some 64, .load true 5 (.tmp 7), none⟩,
 ⟨some 65, .buildSlice 1 5 [.int .u8 0, .str ⟨#[]⟩, .int .i64 0, .int .i64 0, .int .i64 0] [(0, (.tmp 64))], none⟩,
 ⟨some 66, .append 5 48 (.tmp 63) (.tmp 65), none⟩,
 ⟨some 4, .assign (.tmp 66), none⟩])))))))))))
 (.seq
 (.region false [
 ⟨some 67, .move (.tmp 4), none⟩,
 ⟨some 2, .assign (.tmp 67), none⟩])
 .ret)))))) }
/-- (*purlin/wire.writer).text -/
def tf514 : TFn := { ntmps := 17, results := [], body :=
 (.seq
 (.region false [
 ⟨some 4, .move (.tmp 0), none⟩,
 ⟨some 5, .move (.tmp 1), none⟩,
 ⟨some 6, .len true (.tmp 5), none⟩,
 ⟨some 7, .call false (.const (.fn 497 [])) [(.tmp 4), (.tmp 6)] [], none⟩])
 (.region false [
 ⟨some 8, .move (.tmp 0), none⟩,
 ⟨some 9, .move (.tmp 0), none⟩,
 ⟨some 10, .nilCheck (.tmp 9), none⟩,
 ⟨some 11, .faddr (.tmp 10) 0, none⟩,
 ⟨some 12, .load false 1 (.tmp 11), none⟩,
 ⟨some 13, .move (.tmp 1), none⟩,
 ⟨some 14, .append 1 1 (.tmp 12) (.tmp 13), none⟩,
 ⟨some 15, .nilCheck (.tmp 8), none⟩,
 ⟨some 16, .faddr (.tmp 15) 0, none⟩,
 ⟨none, .store 1 (.tmp 16) (.tmp 14), none⟩])) }
/-- (*purlin/wire.reader).one -/
def tf515 : TFn := { ntmps := 41, results := [.tmp 2], body :=
 (.seq
 (.region false [
 ⟨some 2, .assign (.const (.int .u8 0)), none⟩])
 (.seq
 (.seq
 (.region false [
 ⟨some 3, .move (.tmp 0), none⟩,
 ⟨some 4, .nilCheck (.tmp 3), none⟩,
 ⟨some 5, .faddr (.tmp 4) 2, none⟩,
 ⟨some 6, .load false 1 (.tmp 5), none⟩])
 (.cond (.tmp 6)
 (.seq
 (.region false [
 ⟨some 2, .assign (.const (.int .u8 0)), none⟩])
 .ret)
 .skip))
 (.seq
 (.seq
 (.region true [
 ⟨some 7, .move (.tmp 0), none⟩,
 ⟨some 8, .nilCheck (.tmp 7), none⟩,
 ⟨some 9, .faddr (.tmp 8) 1, none⟩,
 ⟨some 10, .load false 1 (.tmp 9), none⟩,
 ⟨some 11, .move (.tmp 0), none⟩,
 ⟨some 12, .nilCheck (.tmp 11), none⟩,
 ⟨some 13, .faddr (.tmp 12) 0, none⟩,
 ⟨some 14, .load false 1 (.tmp 13), none⟩,
 ⟨some 15, .len false (.tmp 14), none⟩,
 ⟨some 16, .bin 0 .eql (.tmp 10) (.tmp 15), none⟩])
 (.cond (.tmp 16)
 (.seq
 (.region false [
 ⟨some 17, .move (.tmp 0), none⟩,
 ⟨some 18, .move (.tmp 0), none⟩,
 ⟨some 19, .nilCheck (.tmp 18), none⟩,
 ⟨some 20, .faddr (.tmp 19) 1, none⟩,
 ⟨some 21, .load false 1 (.tmp 20), none⟩,
 ⟨some 22, .call false (.const (.fn 517 [])) [(.tmp 17), (.tmp 21)] [], none⟩])
 (.seq
 (.region false [
 ⟨some 2, .assign (.const (.int .u8 0)), none⟩])
 .ret))
 .skip))
 (.seq
 (.region false [
 ⟨some 23, .move (.tmp 0), none⟩,
 ⟨some 24, .nilCheck (.tmp 23), none⟩,
 ⟨some 25, .faddr (.tmp 24) 1, none⟩,
 ⟨some 26, .load false 1 (.tmp 25), none⟩,
 ⟨some 27, .bin 0 .add (.tmp 26) (.const (.int .i64 1)), none⟩,
 ⟨some 28, .nilCheck (.tmp 23), none⟩,
 ⟨some 29, .faddr (.tmp 28) 1, none⟩,
 ⟨none, .store 1 (.tmp 29) (.tmp 27), none⟩])
 (.seq
 (.region true [
 ⟨some 30, .move (.tmp 0), none⟩,
 ⟨some 31, .nilCheck (.tmp 30), none⟩,
 ⟨some 32, .faddr (.tmp 31) 0, none⟩,
 ⟨some 33, .load false 1 (.tmp 32), none⟩,
 ⟨some 34, .move (.tmp 0), none⟩,
 ⟨some 35, .nilCheck (.tmp 34), none⟩,
 ⟨some 36, .faddr (.tmp 35) 1, none⟩,
 ⟨some 37, .load false 1 (.tmp 36), none⟩,
 ⟨some 38, .bin 0 .sub (.tmp 37) (.const (.int .i64 1)), none⟩,
 ⟨some 39, .idxAddr (.tmp 33) (.tmp 38) 1, none⟩,
 ⟨some 40, .load false 1 (.tmp 39), none⟩,
 ⟨some 2, .assign (.tmp 40), none⟩])
 .ret))))) }
/-- (*purlin/wire.reader).name -/
def tf516 : TFn := { ntmps := 23, results := [.cell 2 true 2], body :=
 (.seq
 (.region false [
 ⟨some 2, .box 2 (.const (.agg [.int .i64 0, .int .i64 0])), none⟩])
 (.seq
 (.region false [
 ⟨some 5, .move (.tmp 0), none⟩,
 ⟨some 6, .nilCheck (.tmp 5), none⟩,
 ⟨some 7, .faddr (.tmp 6) 1, none⟩,
 ⟨some 8, .load false 1 (.tmp 7), none⟩,
 ⟨some 3, .assign (.tmp 8), none⟩])
 (.seq
 (.region false [
 ⟨some 9, .move (.tmp 0), none⟩,
 ⟨some 10, .call false (.const (.fn 515 [])) [(.tmp 9)] [], none⟩,
 ⟨some 11, .conv .i64 (.tmp 10), none⟩,
 ⟨some 12, .build [.int .i64 0, .int .i64 0] [(0, 1, (.tmp 11))], none⟩,
 ⟨some 4, .box 2 (.const (.agg [.int .i64 0, .int .i64 0])), none⟩,
 ⟨none, .store 2 (.tmp 4) (.tmp 12), none⟩])
 (.seq
 (.seq
 (.region false [
 ⟨some 13, .faddr (.tmp 4) 0, none⟩,
 ⟨some 14, .load false 1 (.tmp 13), none⟩,
 ⟨some 15, .bin 0 .geq (.tmp 14) (.const (.int .i64 4)), none⟩])
 (.cond (.tmp 15)
 (.region false [
 ⟨some 16, .move (.tmp 0), none⟩,
 ⟨some 17, .move (.tmp 3), none⟩,
 ⟨some 18, .call false (.const (.fn 517 [])) [(.tmp 16), (.tmp 17)] [], none⟩])
 .skip))
 (.seq
 (.region false [
 ⟨some 19, .move (.tmp 0), none⟩,
 ⟨some 20, .call false (.const (.fn 518 [])) [(.tmp 19), (.const (.int .i64 0)), (.const (.int .i64 2147483647))] [], none⟩,
 ⟨some 21, .faddr (.tmp 4) 1, none⟩,
 ⟨none, .store 1 (.tmp 21) (.tmp 20), none⟩])
 (.seq
 (.region false [
 ⟨some 22, .load true 2 (.tmp 4), none⟩,
 ⟨none, .store 2 (.tmp 2) (.tmp 22), none⟩])
 .ret)))))) }
/-- (*purlin/wire.reader).fail -/
def tf517 : TFn := { ntmps := 16, results := [], body :=
 (.seq
 (.region false [
 ⟨some 4, .move (.tmp 0), none⟩,
 ⟨some 5, .nilCheck (.tmp 4), none⟩,
 ⟨some 6, .faddr (.tmp 5) 2, none⟩,
 ⟨some 7, .load false 1 (.tmp 6), none⟩,
 ⟨some 8, .un .not (.tmp 7), none⟩])
 (.cond (.tmp 8)
 (.region false [
 ⟨some 9, .move (.tmp 0), none⟩,
 ⟨some 10, .move (.tmp 0), none⟩,
 ⟨some 11, .move (.tmp 1), none⟩,
 ⟨some 12, .nilCheck (.tmp 9), none⟩,
 ⟨some 13, .faddr (.tmp 12) 2, none⟩,
 ⟨none, .store 1 (.tmp 13) (.const (.bool true)), none⟩,
 ⟨some 14, .nilCheck (.tmp 10), none⟩,
 ⟨some 15, .faddr (.tmp 14) 3, none⟩,
 ⟨none, .store 1 (.tmp 15) (.tmp 11), none⟩])
 .skip)) }
/-- (*purlin/wire.reader).number -/
def tf518 : TFn := { ntmps := 68, results := [.tmp 6], body :=
 (.seq
 (.region false [
 ⟨some 6, .assign (.const (.int .i64 0)), none⟩])
 (.seq
 (.region false [
 ⟨some 11, .move (.tmp 0), none⟩,
 ⟨some 12, .nilCheck (.tmp 11), none⟩,
 ⟨some 13, .faddr (.tmp 12) 1, none⟩,
 ⟨some 14, .load false 1 (.tmp 13), none⟩,
 ⟨some 7, .assign (.tmp 14), none⟩,
 ⟨some 8, .assign (.const (.int .i64 0)), none⟩])
 (.seq
 (.seq
 (.region false [
 ⟨some 9, .assign (.const (.int .i64 0)), none⟩])
 (.block 0
 (.loop [0, 1, 2, 7, 8, 9]
 (.seq
 (.block 1
 (.seq
 (.region false [
 ⟨some 17, .move (.tmp 0), none⟩,
 ⟨some 18, .call false (.const (.fn 515 [])) [(.tmp 17)] [], none⟩,
 ⟨some 10, .assign (.tmp 18), none⟩])
 (.seq
 (.seq
 (.region false [
 ⟨some 19, .move (.tmp 0), none⟩,
 ⟨some 20, .nilCheck (.tmp 19), none⟩,
 ⟨some 21, .faddr (.tmp 20) 2, none⟩,
 ⟨some 22, .load false 1 (.tmp 21), none⟩])
 (.cond (.tmp 22)
 (.seq
 (.region false [
 ⟨some 6, .assign (.const (.int .i64 0)), none⟩])
 .ret)
 .skip))
 (.seq
 (.seq
 (.region false [
 ⟨some 23, .move (.tmp 9), none⟩,
 ⟨some 24, .bin 0 .leq (.tmp 23) (.const (.int .i64 42)), none⟩])
 (.cond (.tmp 24)
 (.region false [
 ⟨some 25, .move (.tmp 8), none⟩,
 ⟨some 26, .move (.tmp 10), none⟩,
 ⟨some 27, .bin 0 .and (.tmp 26) (.const (.int .u8 127)), none⟩,
 ⟨some 28, .conv .i64 (.tmp 27), none⟩,
 ⟨some 29, .move (.tmp 9), none⟩,
 ⟨some 30, .bin 0 .shl (.tmp 28) (.tmp 29), none⟩,
 ⟨some 31, .bin 0 .or (.tmp 25) (.tmp 30), none⟩,
 ⟨some 8, .assign (.tmp 31), none⟩])
 .skip))
 (.seq
 (.seq
 (.region false [
 ⟨some 32, .move (.tmp 8), none⟩,
 ⟨some 33, .bin 0 .gtr (.tmp 32) (.const (.int .i64 1099511627776)), none⟩,
 ⟨some 34, .move (.tmp 33), none⟩,
 ⟨some 35, .move (.tmp 9), (some (34, false))⟩,
 ⟨some 36, .bin 0 .gtr (.tmp 35) (.const (.int .i64 42)), (some (34, false))⟩,
 ⟨some 37, .move (.tmp 36), (some (34, false))⟩,
 ⟨some 38, .move (.tmp 10), (some (37, true))⟩,
 ⟨some 39, .bin 0 .and (.tmp 38) (.const (.int .u8 127)), (some (37, true))⟩,
 ⟨some 40, .bin 0 .gtr (.tmp 39) (.const (.int .u8 0)), (some (37, true))⟩,
 ⟨some 41, .pick (.tmp 37) (.tmp 40) (.const (.bool false)), (some (34, false))⟩,
 ⟨some 42, .pick (.tmp 34) (.const (.bool true)) (.tmp 41), none⟩,
 ⟨some 43, .move (.tmp 42), none⟩,
 ⟨some 44, .move (.tmp 10), (some (43, false))⟩,
 ⟨some 45, .bin 0 .eql (.tmp 44) (.const (.int .u8 0)), (some (43, false))⟩,
 ⟨some 46, .move (.tmp 45), (some (43, false))⟩,
 ⟨some 47, .move (.tmp 9), (some (46, true))⟩,
 ⟨some 48, .bin 0 .gtr (.tmp 47) (.const (.int .i64 0)), (some (46, true))⟩,
 ⟨some 49, .pick (.tmp 46) (.tmp 48) (.const (.bool false)), (some (43, false))⟩,
 ⟨some 50, .pick (.tmp 43) (.const (.bool true)) (.tmp 49), none⟩])
 (.cond (.tmp 50)
 (.seq
 (.region false [
 ⟨some 51, .move (.tmp 0), none⟩,
 ⟨some 52, .move (.tmp 7), none⟩,
 ⟨some 53, .call false (.const (.fn 517 [])) [(.tmp 51), (.tmp 52)] [], none⟩])
 (.seq
 (.region false [
 ⟨some 6, .assign (.const (.int .i64 0)), none⟩])
 .ret))
 .skip))
 (.seq
 (.region false [
 ⟨some 54, .move (.tmp 10), none⟩,
 ⟨some 55, .bin 0 .lss (.tmp 54) (.const (.int .u8 128)), none⟩])
 (.cond (.tmp 55)
 (.exit 0)
 .skip)))))))
 (.region false [
 ⟨some 15, .move (.tmp 9), none⟩,
 ⟨some 16, .bin 0 .add (.tmp 15) (.const (.int .i64 7)), none⟩,
 ⟨some 9, .assign (.tmp 16), none⟩])))))
 (.seq
 (.seq
 (.region false [
 ⟨some 56, .move (.tmp 8), none⟩,
 ⟨some 57, .move (.tmp 1), none⟩,
 ⟨some 58, .bin 0 .lss (.tmp 56) (.tmp 57), none⟩,
 ⟨some 59, .move (.tmp 58), none⟩,
 ⟨some 60, .move (.tmp 8), (some (59, false))⟩,
 ⟨some 61, .move (.tmp 2), (some (59, false))⟩,
 ⟨some 62, .bin 0 .gtr (.tmp 60) (.tmp 61), (some (59, false))⟩,
 ⟨some 63, .pick (.tmp 59) (.const (.bool true)) (.tmp 62), none⟩])
 (.cond (.tmp 63)
 (.seq
 (.region false [
 ⟨some 64, .move (.tmp 0), none⟩,
 ⟨some 65, .move (.tmp 7), none⟩,
 ⟨some 66, .call false (.const (.fn 517 [])) [(.tmp 64), (.tmp 65)] [], none⟩])
 (.seq
 (.region false [
 ⟨some 6, .assign (.const (.int .i64 0)), none⟩])
 .ret))
 .skip))
 (.seq
 (.region false [
 ⟨some 67, .move (.tmp 8), none⟩,
 ⟨some 6, .assign (.tmp 67), none⟩])
 .ret))))) }
/-- (*purlin/wire.reader).amount -/
def tf519 : TFn := { ntmps := 35, results := [.cell 2 true 2], body :=
 (.seq
 (.region false [
 ⟨some 2, .box 2 (.const (.agg [.int .i64 0, .sl true 0 1 [] []])), none⟩])
 (.seq
 (.region false [
 ⟨some 6, .move (.tmp 0), none⟩,
 ⟨some 7, .call false (.const (.fn 518 [])) [(.tmp 6), (.const (.int .i64 0)), (.const (.int .i64 2147483647))] [], none⟩,
 ⟨some 8, .build [.int .i64 0, .sl true 0 1 [] []] [(0, 1, (.tmp 7))], none⟩,
 ⟨some 3, .box 2 (.const (.agg [.int .i64 0, .sl true 0 1 [] []])), none⟩,
 ⟨none, .store 2 (.tmp 3) (.tmp 8), none⟩])
 (.seq
 (.region false [
 ⟨some 4, .assign (.const (.int .i64 0)), none⟩])
 (.seq
 (.seq
 (.region false [
 ⟨some 9, .move (.tmp 0), none⟩,
 ⟨some 10, .call false (.const (.fn 518 [])) [(.tmp 9), (.const (.int .i64 0)), (.const (.int .i64 1048576))] [], none⟩,
 ⟨some 5, .assign (.tmp 10), none⟩])
 (.block 0
 (.loop [0, 2, 3, 4, 5]
 (.seq
 (.seq
 (.region false [
 ⟨some 11, .move (.tmp 5), none⟩,
 ⟨some 12, .bin 0 .gtr (.tmp 11) (.const (.int .i64 0)), none⟩,
 ⟨some 13, .move (.tmp 12), none⟩,
 ⟨some 14, .move (.tmp 0), (some (13, true))⟩,
 ⟨some 15, .nilCheck (.tmp 14), (some (13, true))⟩,
 ⟨some 16, .faddr (.tmp 15) 2, (some (13, true))⟩,
 ⟨some 17, .load false 1 (.tmp 16), (some (13, true))⟩,
 ⟨some 18, .un .not (.tmp 17), (some (13, true))⟩,
 ⟨some 19, .pick (.tmp 13) (.tmp 18) (.const (.bool false)), none⟩])
 (.cond (.tmp 19)
 .skip
 (.exit 0)))
 (.seq
 (.block 1
 (.seq
 (.region false [
 ⟨some 22, .move (.tmp 4), none⟩,
 ⟨some 23, .move (.tmp 0), none⟩,
 ⟨some 24, .move (.tmp 4), none⟩,
 ⟨some 25, .bin 0 .sub (.const (.int .i64 1048576)) (.tmp 24), none⟩,
 ⟨some 26, .call false (.const (.fn 518 [])) [(.tmp 23), (.const (.int .i64 1)), (.tmp 25)] [], none⟩,
 ⟨some 27, .bin 0 .add (.tmp 22) (.tmp 26), none⟩,
 ⟨some 4, .assign (.tmp 27), none⟩])
 (.region false [
 ⟨some 28, .faddr (.tmp 3) 1, none⟩,
 ⟨some 29, .load false 1 (.tmp 28), none⟩,
 ⟨some 30, .move (.tmp 4), none⟩,
 ⟨some 31, .buildSlice 1 1 [.int .i64 0] [(0, (.tmp 30))], none⟩,
 ⟨some 32, .append 1 8 (.tmp 29) (.tmp 31), none⟩,
 ⟨some 33, .faddr (.tmp 3) 1, none⟩,
 ⟨none, .store 1 (.tmp 33) (.tmp 32), none⟩])))
 (.region false [
 ⟨some 20, .move (.tmp 5), none⟩,
 ⟨some 21, .bin 0 .sub (.tmp 20) (.const (.int .i64 1)), none⟩,
 ⟨some 5, .assign (.tmp 21), none⟩]))))))
 (.seq
 (.region false [
 ⟨some 34, .load true 2 (.tmp 3), none⟩,
 ⟨none, .store 2 (.tmp 2) (.tmp 34), none⟩])
 .ret))))) }
/-- purlin/wire.rightAmount -/
def tf521 : TFn := { ntmps := 30, results := [.tmp 2], body :=
 (.seq
 (.region false [
 ⟨some 1, .box 2 (.tmp 0), none⟩,
 ⟨some 2, .assign (.const (.bool false)), none⟩])
 (.seq
 (.region false [
 ⟨some 3, .assign (.const (.int .i64 0)), none⟩])
 (.seq
 (.seq
 (.region false [
 ⟨some 6, .faddr (.tmp 1) 1, none⟩,
 ⟨some 7, .load false 1 (.tmp 6), none⟩,
 ⟨some 8, .len false (.tmp 7), none⟩,
 ⟨some 9, .move (.const (.int .i64 0)), none⟩])
 (.block 0
 (.loop [1, 3, 7, 8, 9]
 (.seq
 (.region false [
 ⟨some 10, .bin 0 .lss (.tmp 9) (.tmp 8), none⟩])
 (.seq
 (.cond (.tmp 10)
 .skip
 (.exit 0))
 (.seq
 (.block 1
 (.seq
 (.region false [
 ⟨some 11, .idxAddr (.tmp 7) (.tmp 9) 1, none⟩,
 ⟨some 12, .load false 1 (.tmp 11), none⟩,
 ⟨some 5, .assign (.tmp 12), none⟩])
 (.seq
 (.seq
 (.region false [
 ⟨some 13, .move (.tmp 5), none⟩,
 ⟨some 14, .move (.tmp 3), none⟩,
 ⟨some 15, .bin 0 .leq (.tmp 13) (.tmp 14), none⟩,
 ⟨some 16, .move (.tmp 15), none⟩,
 ⟨some 17, .move (.tmp 5), (some (16, false))⟩,
 ⟨some 18, .bin 0 .gtr (.tmp 17) (.const (.int .i64 1048576)), (some (16, false))⟩,
 ⟨some 19, .pick (.tmp 16) (.const (.bool true)) (.tmp 18), none⟩])
 (.cond (.tmp 19)
 (.seq
 (.region false [
 ⟨some 2, .assign (.const (.bool false)), none⟩])
 .ret)
 .skip))
 (.region false [
 ⟨some 20, .move (.tmp 5), none⟩,
 ⟨some 3, .assign (.tmp 20), none⟩]))))
 (.region false [
 ⟨some 21, .bin 0 .add (.tmp 9) (.const (.int .i64 1)), none⟩,
 ⟨some 9, .move (.tmp 21), none⟩])))))))
 (.seq
 (.region false [
 ⟨some 22, .faddr (.tmp 1) 0, none⟩,
 ⟨some 23, .load false 1 (.tmp 22), none⟩,
 ⟨some 24, .bin 0 .geq (.tmp 23) (.const (.int .i64 0)), none⟩,
 ⟨some 25, .move (.tmp 24), none⟩,
 ⟨some 26, .faddr (.tmp 1) 0, (some (25, true))⟩,
 ⟨some 27, .load false 1 (.tmp 26), (some (25, true))⟩,
 ⟨some 28, .bin 0 .leq (.tmp 27) (.const (.int .i64 2147483647)), (some (25, true))⟩,
 ⟨some 29, .pick (.tmp 25) (.tmp 28) (.const (.bool false)), none⟩,
 ⟨some 2, .assign (.tmp 29), none⟩])
 .ret)))) }
/-- (*purlin/wire.reader).cell -/
def tf522 : TFn := { ntmps := 63, results := [.cell 2 true 5], body :=
 (.seq
 (.region false [
 ⟨some 2, .box 5 (.const (.agg [.int .u8 0, .str ⟨#[]⟩, .int .i64 0, .int .i64 0, .int .i64 0])), none⟩])
 (.seq
 (.region false [
 ⟨some 6, .move (.tmp 0), none⟩,
 ⟨some 7, .nilCheck (.tmp 6), none⟩,
 ⟨some 8, .faddr (.tmp 7) 1, none⟩,
 ⟨some 9, .load false 1 (.tmp 8), none⟩,
 ⟨some 3, .assign (.tmp 9), none⟩])
 (.seq
 (.region false [
 ⟨some 10, .move (.tmp 0), none⟩,
 ⟨some 11, .call false (.const (.fn 515 [])) [(.tmp 10)] [], none⟩,
 ⟨some 12, .build [.int .u8 0, .str ⟨#[]⟩, .int .i64 0, .int .i64 0, .int .i64 0] [(0, 1, (.tmp 11))], none⟩,
 ⟨some 4, .box 5 (.const (.agg [.int .u8 0, .str ⟨#[]⟩, .int .i64 0, .int .i64 0, .int .i64 0])), none⟩,
 ⟨none, .store 5 (.tmp 4) (.tmp 12), none⟩])
 (.seq
 (.seq
 (.region false [
 ⟨some 13, .faddr (.tmp 4) 0, none⟩,
 ⟨some 14, .load false 1 (.tmp 13), none⟩])
 (.block 0
 (.seq
 (.region false [
 ⟨some 16, .bin 0 .eql (.tmp 14) (.const (.int .u8 1)), none⟩,
 ⟨some 15, .assign (.tmp 16), none⟩])
 (.cond (.tmp 15)
 (.seq
 (.region false [
 ⟨some 17, .move (.tmp 0), none⟩,
 ⟨some 18, .call false (.const (.fn 518 [])) [(.tmp 17), (.const (.int .i64 0)), (.const (.int .i64 1099511627776))] [], none⟩,
 ⟨some 5, .assign (.tmp 18), none⟩])
 (.seq
 (.region false [
 ⟨some 19, .move (.tmp 5), none⟩,
 ⟨some 20, .bin 0 .quo (.tmp 19) (.const (.int .i64 2)), none⟩,
 ⟨some 21, .faddr (.tmp 4) 2, none⟩,
 ⟨none, .store 1 (.tmp 21) (.tmp 20), none⟩])
 (.seq
 (.region false [
 ⟨some 22, .move (.tmp 5), none⟩,
 ⟨some 23, .bin 0 .rem (.tmp 22) (.const (.int .i64 2)), none⟩,
 ⟨some 24, .bin 0 .eql (.tmp 23) (.const (.int .i64 1)), none⟩])
 (.cond (.tmp 24)
 (.region false [
 ⟨some 25, .move (.tmp 5), none⟩,
 ⟨some 26, .bin 0 .add (.tmp 25) (.const (.int .i64 1)), none⟩,
 ⟨some 27, .un .neg (.tmp 26), none⟩,
 ⟨some 28, .bin 0 .quo (.tmp 27) (.const (.int .i64 2)), none⟩,
 ⟨some 29, .faddr (.tmp 4) 2, none⟩,
 ⟨none, .store 1 (.tmp 29) (.tmp 28), none⟩])
 .skip))))
 (.seq
 (.region false [
 ⟨some 31, .bin 0 .eql (.tmp 14) (.const (.int .u8 3)), none⟩,
 ⟨some 30, .assign (.tmp 31), none⟩])
 (.cond (.tmp 30)
 (.seq
 (.region false [
 ⟨some 32, .move (.tmp 0), none⟩,
 ⟨some 33, .call false (.const (.fn 523 [])) [(.tmp 32), (.const (.bool true))] [], none⟩,
 ⟨some 34, .faddr (.tmp 4) 1, none⟩,
 ⟨none, .store 1 (.tmp 34) (.tmp 33), none⟩])
 (.region false [
 ⟨some 35, .move (.tmp 0), none⟩,
 ⟨some 36, .call false (.const (.fn 515 [])) [(.tmp 35)] [], none⟩,
 ⟨some 37, .conv .i64 (.tmp 36), none⟩,
 ⟨some 38, .faddr (.tmp 4) 2, none⟩,
 ⟨none, .store 1 (.tmp 38) (.tmp 37), none⟩]))
 (.seq
 (.region false [
 ⟨some 40, .bin 0 .eql (.tmp 14) (.const (.int .u8 2)), none⟩,
 ⟨some 39, .assign (.tmp 40), none⟩])
 (.cond (.tmp 39)
 (.region false [
 ⟨some 41, .move (.tmp 0), none⟩,
 ⟨some 42, .call false (.const (.fn 523 [])) [(.tmp 41), (.const (.bool false))] [], none⟩,
 ⟨some 43, .faddr (.tmp 4) 1, none⟩,
 ⟨none, .store 1 (.tmp 43) (.tmp 42), none⟩])
 (.seq
 (.region false [
 ⟨some 45, .bin 0 .eql (.tmp 14) (.const (.int .u8 4)), none⟩,
 ⟨some 44, .assign (.tmp 45), none⟩])
 (.cond (.tmp 44)
 (.region false [
 ⟨some 46, .move (.tmp 0), none⟩,
 ⟨some 47, .call false (.const (.fn 516 [])) [(.tmp 46)] [], none⟩,
 ⟨some 48, .faddr (.tmp 4) 3, none⟩,
 ⟨none, .store 2 (.tmp 48) (.tmp 47), none⟩])
 .skip))))))))))
 (.seq
 (.seq
 (.region false [
 ⟨some 49, .move (.tmp 0), none⟩,
 ⟨some 50, .nilCheck (.tmp 49), none⟩,
 ⟨some 51, .faddr (.tmp 50) 2, none⟩,
 ⟨some 52, .load false 1 (.tmp 51), none⟩,
 ⟨some 53, .un .not (.tmp 52), none⟩,
 ⟨some 54, .move (.tmp 53), none⟩,
 ⟨some 55, .load true 5 (.tmp 4), (some (54, true))⟩,
 ⟨some 56, .call true (.const (.fn 524 [])) [(.tmp 55)] [], (some (54, true))⟩,
 ⟨some 57, .un .not (.tmp 56), (some (54, true))⟩,
 ⟨some 58, .pick (.tmp 54) (.tmp 57) (.const (.bool false)), none⟩])
 (.cond (.tmp 58)
 (.region false [
 ⟨some 59, .move (.tmp 0), none⟩,
 ⟨some 60, .move (.tmp 3), none⟩,
 ⟨some 61, .call false (.const (.fn 517 [])) [(.tmp 59), (.tmp 60)] [], none⟩])
 .skip))
 (.seq
 (.region false [
 ⟨some 62, .load true 5 (.tmp 4), none⟩,
 ⟨none, .store 5 (.tmp 2) (.tmp 62), none⟩])
 .ret)))))) }
/-- (*purlin/wire.reader).text -/
def tf523 : TFn := { ntmps := 90, results := [.tmp 4], body :=
 (.seq
 (.region false [
 ⟨some 4, .assign (.const (.str ⟨#[]⟩)), none⟩])
 (.seq
 (.region false [
 ⟨some 10, .move (.tmp 0), none⟩,
 ⟨some 11, .nilCheck (.tmp 10), none⟩,
 ⟨some 12, .faddr (.tmp 11) 1, none⟩,
 ⟨some 13, .load false 1 (.tmp 12), none⟩,
 ⟨some 5, .assign (.tmp 13), none⟩])
 (.seq
 (.region false [
 ⟨some 14, .move (.tmp 0), none⟩,
 ⟨some 15, .call false (.const (.fn 518 [])) [(.tmp 14), (.const (.int .i64 0)), (.const (.int .i64 16))] [], none⟩,
 ⟨some 6, .assign (.tmp 15), none⟩])
 (.seq
 (.seq
 (.region false [
 ⟨some 16, .move (.tmp 0), none⟩,
 ⟨some 17, .nilCheck (.tmp 16), none⟩,
 ⟨some 18, .faddr (.tmp 17) 2, none⟩,
 ⟨some 19, .load false 1 (.tmp 18), none⟩])
 (.cond (.tmp 19)
 (.seq
 (.region false [
 ⟨some 4, .assign (.const (.str ⟨#[]⟩)), none⟩])
 .ret)
 .skip))
 (.seq
 (.seq
 (.region true [
 ⟨some 20, .move (.tmp 0), none⟩,
 ⟨some 21, .nilCheck (.tmp 20), none⟩,
 ⟨some 22, .faddr (.tmp 21) 0, none⟩,
 ⟨some 23, .load false 1 (.tmp 22), none⟩,
 ⟨some 24, .len false (.tmp 23), none⟩,
 ⟨some 25, .move (.tmp 0), none⟩,
 ⟨some 26, .nilCheck (.tmp 25), none⟩,
 ⟨some 27, .faddr (.tmp 26) 1, none⟩,
 ⟨some 28, .load false 1 (.tmp 27), none⟩,
 ⟨some 29, .bin 0 .sub (.tmp 24) (.tmp 28), none⟩,
 ⟨some 30, .move (.tmp 6), none⟩,
 ⟨some 31, .bin 0 .lss (.tmp 29) (.tmp 30), none⟩])
 (.cond (.tmp 31)
 (.seq
 (.region false [
 ⟨some 32, .move (.tmp 0), none⟩,
 ⟨some 33, .move (.tmp 0), none⟩,
 ⟨some 34, .nilCheck (.tmp 33), none⟩,
 ⟨some 35, .faddr (.tmp 34) 0, none⟩,
 ⟨some 36, .load false 1 (.tmp 35), none⟩,
 ⟨some 37, .len false (.tmp 36), none⟩,
 ⟨some 38, .call false (.const (.fn 517 [])) [(.tmp 32), (.tmp 37)] [], none⟩])
 (.seq
 (.region false [
 ⟨some 4, .assign (.const (.str ⟨#[]⟩)), none⟩])
 .ret))
 .skip))
 (.seq
 (.region true [
 ⟨some 39, .move (.tmp 0), none⟩,
 ⟨some 40, .nilCheck (.tmp 39), none⟩,
 ⟨some 41, .faddr (.tmp 40) 0, none⟩,
 ⟨some 42, .load false 1 (.tmp 41), none⟩,
 ⟨some 43, .move (.tmp 0), none⟩,
 ⟨some 44, .nilCheck (.tmp 43), none⟩,
 ⟨some 45, .faddr (.tmp 44) 1, none⟩,
 ⟨some 46, .load false 1 (.tmp 45), none⟩,
 ⟨some 47, .move (.tmp 0), none⟩,
 ⟨some 48, .nilCheck (.tmp 47), none⟩,
 ⟨some 49, .faddr (.tmp 48) 1, none⟩,
 ⟨some 50, .load false 1 (.tmp 49), none⟩,
 ⟨some 51, .move (.tmp 6), none⟩,
 ⟨some 52, .bin 0 .add (.tmp 50) (.tmp 51), none⟩,
 ⟨some 53, .move (.tmp 0), none⟩,
 ⟨some 54, .nilCheck (.tmp 53), none⟩,
 ⟨some 55, .faddr (.tmp 54) 1, none⟩,
 ⟨some 56, .load false 1 (.tmp 55), none⟩,
 ⟨some 57, .move (.tmp 6), none⟩,
 ⟨some 58, .bin 0 .add (.tmp 56) (.tmp 57), none⟩,
 ⟨some 59, .slice3 1 (.tmp 42) (some (.tmp 46)) (.tmp 52) (.tmp 58), none⟩,
 ⟨some 60, .strOf (.tmp 59), none⟩,
 ⟨some 7, .assign (.tmp 60), none⟩])
 (.seq
 (.region false [
 ⟨some 61, .move (.tmp 0), none⟩,
 ⟨some 62, .nilCheck (.tmp 61), none⟩,
 ⟨some 63, .faddr (.tmp 62) 1, none⟩,
 ⟨some 64, .load false 1 (.tmp 63), none⟩,
 ⟨some 65, .move (.tmp 6), none⟩,
 ⟨some 66, .bin 0 .add (.tmp 64) (.tmp 65), none⟩,
 ⟨some 67, .nilCheck (.tmp 61), none⟩,
 ⟨some 68, .faddr (.tmp 67) 1, none⟩,
 ⟨none, .store 1 (.tmp 68) (.tmp 66), none⟩])
 (.seq
 (.seq
 (.region false [
 ⟨some 69, .move (.tmp 7), none⟩,
 ⟨some 70, .call true (.const (.fn 1 [])) [(.tmp 69)] [], none⟩,
 ⟨some 71, .un .not (.tmp 70), none⟩])
 (.cond (.tmp 71)
 (.seq
 (.region false [
 ⟨some 73, .move (.tmp 7), none⟩,
 ⟨some 74, .call true (.const (.fn 9 [])) [(.const (.int .i64 0))] [], none⟩,
 ⟨some 75, .call true (.const (.fn 9 [])) [(.const (.int .i64 0))] [], none⟩,
 ⟨some 76, .buildSlice 2 1 [.sl true 0 5 [] []] [(0, (.tmp 74)), (1, (.tmp 75))], none⟩,
 ⟨some 77, .call true (.const (.fn 7 [])) [(.tmp 73), (.tmp 76)] [], none⟩,
 ⟨some 72, .move (.tmp 77), none⟩,
 ⟨some 78, .extract (.tmp 72) 0, none⟩,
 ⟨some 79, .extract (.tmp 72) 1, none⟩,
 ⟨some 8, .assign (.tmp 78), none⟩,
 ⟨some 9, .assign (.tmp 79), none⟩])
 (.seq
 (.region false [
 ⟨some 80, .move (.tmp 1), none⟩,
 ⟨some 81, .un .not (.tmp 80), none⟩,
 ⟨some 82, .move (.tmp 81), none⟩,
 ⟨some 83, .move (.tmp 9), (some (82, false))⟩,
 ⟨some 84, .bin 0 .neq (.tmp 83) (.const (.int .i64 0)), (some (82, false))⟩,
 ⟨some 85, .pick (.tmp 82) (.const (.bool true)) (.tmp 84), none⟩])
 (.cond (.tmp 85)
 (.region false [
 ⟨some 86, .move (.tmp 0), none⟩,
 ⟨some 87, .move (.tmp 5), none⟩,
 ⟨some 88, .call false (.const (.fn 517 [])) [(.tmp 86), (.tmp 87)] [], none⟩])
 .skip)))
 .skip))
 (.seq
 (.region false [
 ⟨some 89, .move (.tmp 7), none⟩,
 ⟨some 4, .assign (.tmp 89), none⟩])
 .ret))))))))) }
/-- purlin/wire.rightCell -/
def tf524 : TFn := { ntmps := 21, results := [.tmp 2], body :=
 (.seq
 (.region false [
 ⟨some 1, .box 5 (.tmp 0), none⟩,
 ⟨some 2, .assign (.const (.bool false)), none⟩])
 (.seq
 (.region false [
 ⟨some 4, .load true 5 (.tmp 1), none⟩,
 ⟨some 5, .buildSlice 1 5 [.int .u8 0, .str ⟨#[]⟩, .int .i64 0, .int .i64 0, .int .i64 0] [(0, (.tmp 4))], none⟩,
 ⟨some 3, .assign (.tmp 5), none⟩])
 (.seq
 (.seq
 (.region false [
 ⟨some 6, .faddr (.tmp 1) 0, none⟩,
 ⟨some 7, .load false 1 (.tmp 6), none⟩,
 ⟨some 8, .bin 0 .eql (.tmp 7) (.const (.int .u8 3)), none⟩])
 (.cond (.tmp 8)
 (.seq
 (.region false [
 ⟨some 9, .faddr (.tmp 1) 2, none⟩,
 ⟨some 10, .load false 1 (.tmp 9), none⟩,
 ⟨some 11, .minmax false (.tmp 10) (.const (.int .i64 9)), none⟩,
 ⟨some 12, .minmax true (.const (.int .i64 0)) (.tmp 11), none⟩,
 ⟨some 13, .move (.const (.int .i64 0)), none⟩])
 (.block 0
 (.loop [3, 12, 13]
 (.seq
 (.region false [
 ⟨some 14, .bin 0 .lss (.tmp 13) (.tmp 12), none⟩])
 (.seq
 (.cond (.tmp 14)
 .skip
 (.exit 0))
 (.seq
 (.block 1
 (.region false [
 ⟨some 15, .move (.tmp 3), none⟩,
 ⟨some 16, .call true (.const (.fn 9 [])) [(.const (.int .i64 0))] [], none⟩,
 ⟨some 17, .append 5 48 (.tmp 15) (.tmp 16), none⟩,
 ⟨some 3, .assign (.tmp 17), none⟩]))
 (.region false [
 ⟨some 18, .bin 0 .add (.tmp 13) (.const (.int .i64 1)), none⟩,
 ⟨some 13, .move (.tmp 18), none⟩])))))))
 .skip))
 (.seq
 (.region false [
 ⟨some 19, .move (.tmp 3), none⟩,
 ⟨some 20, .call true (.const (.fn 30 [])) [(.tmp 19)] [], none⟩,
 ⟨some 2, .assign (.tmp 20), none⟩])
 .ret)))) }
def fnTable11 : List (Nat × TFn) := [(483, tf483), (486, tf486), (490, tf490), (495, tf495), (496, tf496), (497, tf497), (498, tf498), (499, tf499), (500, tf500), (501, tf501), (506, tf506), (508, tf508), (509, tf509), (510, tf510), (513, tf513), (514, tf514), (515, tf515), (516, tf516), (517, tf517), (518, tf518), (519, tf519), (521, tf521), (522, tf522), (523, tf523), (524, tf524)]
end Tree
