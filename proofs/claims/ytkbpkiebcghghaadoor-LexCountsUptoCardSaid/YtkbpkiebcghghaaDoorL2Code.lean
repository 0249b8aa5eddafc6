/- Layer 2: the program's functions as E-code. -/
import Derived.Test.YtkbpkiebcghghaaDoorTA
set_option autoImplicit false
namespace Tree
open Go
/-- purlin/purlinlaw02.LexJoins -/
def tf604 : TFn := { ntmps := 40, results := [.tmp 2], body :=
 (.seq
 (.region false [
 ⟨some 2, .assign (.const (.bool false)), none⟩])
 (.seq
 (.region false [
 ⟨some 3, .assign (.const (.sl true 0 5 [] [])), none⟩])
 (.seq
 (.region false [
 ⟨some 4, .assign (.const (.sl true 0 5 [] [])), none⟩])
 (.seq
 (.seq
 (.region false [
 ⟨some 5, .assign (.const (.int .i64 0)), none⟩])
 (.block 0
 (.loop [0, 3, 4, 5]
 (.seq
 (.seq
 (.region false [
 ⟨some 6, .move (.tmp 5), none⟩,
 ⟨some 7, .move (.tmp 0), none⟩,
 ⟨some 8, .len false (.tmp 7), none⟩,
 ⟨some 9, .bin 0 .lss (.tmp 6) (.tmp 8), none⟩])
 (.cond (.tmp 9)
 .skip
 (.exit 0)))
 (.seq
 (.block 1
 (.seq
 (.region false [
 ⟨some 12, .move (.tmp 3), none⟩,
 ⟨some 13, .move (.tmp 0), none⟩,
 ⟨some 14, .move (.tmp 5), none⟩,
 ⟨some 15, .idxAddr (.tmp 13) (.tmp 14) 1, none⟩,
 ⟨some 16, .load false 1 (.tmp 15), none⟩,
 ⟨some 17, .build [.int .u8 0, .str ⟨#[]⟩, .int .i64 0, .int .i64 0, .int .i64 0] [(0, 1, (.const (.int .u8 5))), (1, 1, (.tmp 16))], none⟩,
 ⟨some 18, .buildSlice 1 5 [.int .u8 0, .str ⟨#[]⟩, .int .i64 0, .int .i64 0, .int .i64 0] [(0, (.tmp 17))], none⟩,
 ⟨some 19, .append 5 48 (.tmp 12) (.tmp 18), none⟩,
 ⟨some 3, .assign (.tmp 19), none⟩])
 (.region false [
 ⟨some 20, .move (.tmp 4), none⟩,
 ⟨some 21, .move (.tmp 0), none⟩,
 ⟨some 22, .move (.tmp 5), none⟩,
 ⟨some 23, .idxAddr (.tmp 21) (.tmp 22) 1, none⟩,
 ⟨some 24, .load false 1 (.tmp 23), none⟩,
 ⟨some 25, .build [.int .i64 0, .str ⟨#[]⟩, .int .i64 0, .int .i64 0, .int .i64 0] [(0, 1, (.const (.int .i64 5))), (1, 1, (.tmp 24))], none⟩,
 ⟨some 26, .buildSlice 1 5 [.int .i64 0, .str ⟨#[]⟩, .int .i64 0, .int .i64 0, .int .i64 0] [(0, (.tmp 25))], none⟩,
 ⟨some 27, .append 5 48 (.tmp 20) (.tmp 26), none⟩,
 ⟨some 4, .assign (.tmp 27), none⟩])))
 (.region false [
 ⟨some 10, .move (.tmp 5), none⟩,
 ⟨some 11, .bin 0 .add (.tmp 10) (.const (.int .i64 1)), none⟩,
 ⟨some 5, .assign (.tmp 11), none⟩]))))))
 (.seq
 (.region false [
 ⟨some 28, .call true (.const (.fn 337 [])) [] [], none⟩,
 ⟨some 29, .move (.tmp 28), none⟩,
 ⟨some 30, .move (.tmp 3), (some (29, true))⟩,
 ⟨some 31, .call true (.const (.fn 341 [])) [(.tmp 30)] [], (some (29, true))⟩,
 ⟨some 32, .move (.tmp 4), (some (29, true))⟩,
 ⟨some 33, .call true (.const (.fn 342 [])) [(.tmp 32)] [], (some (29, true))⟩,
 ⟨some 34, .bin 0 .eql (.tmp 31) (.tmp 33), (some (29, true))⟩,
 ⟨some 35, .pick (.tmp 29) (.tmp 34) (.const (.bool false)), none⟩,
 ⟨some 36, .move (.tmp 35), none⟩,
 ⟨some 37, .call true (.const (.fn 341 [])) [(.const (.sl true 0 5 [] []))] [], (some (36, true))⟩,
 ⟨some 38, .bin 0 .eql (.tmp 37) (.const (.str ⟨#[]⟩)), (some (36, true))⟩,
 ⟨some 39, .pick (.tmp 36) (.tmp 38) (.const (.bool false)), none⟩,
 ⟨some 2, .assign (.tmp 39), none⟩])
 .ret))))) }
/-- purlin/purlinlaw02.LexBack -/
def tf605 : TFn := { ntmps := 100, results := [.tmp 2], body :=
 (.seq
 (.region false [
 ⟨some 2, .assign (.const (.bool false)), none⟩])
 (.seq
 (.region false [
 ⟨some 11, .move (.tmp 0), none⟩,
 ⟨some 12, .call true (.const (.fn 335 [])) [(.tmp 11)] [], none⟩,
 ⟨some 10, .move (.tmp 12), none⟩,
 ⟨some 13, .extract (.tmp 10) 0, none⟩,
 ⟨some 14, .extract (.tmp 10) 1, none⟩,
 ⟨some 15, .extract (.tmp 10) 2, none⟩,
 ⟨some 3, .assign (.tmp 13), none⟩,
 ⟨some 4, .assign (.tmp 14), none⟩,
 ⟨some 5, .assign (.tmp 15), none⟩])
 (.seq
 (.seq
 (.region false [
 ⟨some 16, .move (.tmp 4), none⟩,
 ⟨some 17, .bin 0 .neq (.tmp 16) (.const (.int .i64 0)), none⟩])
 (.cond (.tmp 17)
 (.seq
 (.region false [
 ⟨some 18, .call true (.const (.fn 337 [])) [] [], none⟩,
 ⟨some 19, .move (.tmp 18), none⟩,
 ⟨some 20, .move (.tmp 3), (some (19, true))⟩,
 ⟨some 21, .len false (.tmp 20), (some (19, true))⟩,
 ⟨some 22, .bin 0 .eql (.tmp 21) (.const (.int .i64 0)), (some (19, true))⟩,
 ⟨some 23, .pick (.tmp 19) (.tmp 22) (.const (.bool false)), none⟩,
 ⟨some 2, .assign (.tmp 23), none⟩])
 .ret)
 .skip))
 (.seq
 (.region false [
 ⟨some 25, .move (.tmp 3), none⟩,
 ⟨some 26, .call true (.const (.fn 341 [])) [(.tmp 25)] [], none⟩,
 ⟨some 27, .call true (.const (.fn 335 [])) [(.tmp 26)] [], none⟩,
 ⟨some 24, .move (.tmp 27), none⟩,
 ⟨some 28, .extract (.tmp 24) 0, none⟩,
 ⟨some 29, .extract (.tmp 24) 1, none⟩,
 ⟨some 30, .extract (.tmp 24) 2, none⟩,
 ⟨some 6, .assign (.tmp 28), none⟩,
 ⟨some 7, .assign (.tmp 29), none⟩,
 ⟨some 8, .assign (.tmp 30), none⟩])
 (.seq
 (.seq
 (.region false [
 ⟨some 31, .call true (.const (.fn 337 [])) [] [], none⟩,
 ⟨some 32, .un .not (.tmp 31), none⟩,
 ⟨some 33, .move (.tmp 32), none⟩,
 ⟨some 34, .move (.tmp 7), (some (33, false))⟩,
 ⟨some 35, .bin 0 .neq (.tmp 34) (.const (.int .i64 0)), (some (33, false))⟩,
 ⟨some 36, .pick (.tmp 33) (.const (.bool true)) (.tmp 35), none⟩,
 ⟨some 37, .move (.tmp 36), none⟩,
 ⟨some 38, .move (.tmp 6), (some (37, false))⟩,
 ⟨some 39, .len false (.tmp 38), (some (37, false))⟩,
 ⟨some 40, .move (.tmp 3), (some (37, false))⟩,
 ⟨some 41, .len false (.tmp 40), (some (37, false))⟩,
 ⟨some 42, .bin 0 .neq (.tmp 39) (.tmp 41), (some (37, false))⟩,
 ⟨some 43, .pick (.tmp 37) (.const (.bool true)) (.tmp 42), none⟩])
 (.cond (.tmp 43)
 (.seq
 (.region false [
 ⟨some 2, .assign (.const (.bool false)), none⟩])
 .ret)
 .skip))
 (.seq
 (.seq
 (.region false [
 ⟨some 9, .assign (.const (.int .i64 0)), none⟩])
 (.block 0
 (.loop [3, 6, 9]
 (.seq
 (.seq
 (.region false [
 ⟨some 44, .move (.tmp 9), none⟩,
 ⟨some 45, .move (.tmp 3), none⟩,
 ⟨some 46, .len false (.tmp 45), none⟩,
 ⟨some 47, .bin 0 .lss (.tmp 44) (.tmp 46), none⟩])
 (.cond (.tmp 47)
 .skip
 (.exit 0)))
 (.seq
 (.block 1
 (.seq
 (.region true [
 ⟨some 50, .move (.tmp 3), none⟩,
 ⟨some 51, .move (.tmp 9), none⟩,
 ⟨some 52, .idxAddr (.tmp 50) (.tmp 51) 5, none⟩,
 ⟨some 53, .faddr (.tmp 52) 0, none⟩,
 ⟨some 54, .load false 1 (.tmp 53), none⟩,
 ⟨some 55, .move (.tmp 6), none⟩,
 ⟨some 56, .move (.tmp 9), none⟩,
 ⟨some 57, .idxAddr (.tmp 55) (.tmp 56) 5, none⟩,
 ⟨some 58, .faddr (.tmp 57) 0, none⟩,
 ⟨some 59, .load false 1 (.tmp 58), none⟩,
 ⟨some 60, .bin 0 .neq (.tmp 54) (.tmp 59), none⟩,
 ⟨some 61, .move (.tmp 60), none⟩,
 ⟨some 62, .move (.tmp 3), (some (61, false))⟩,
 ⟨some 63, .move (.tmp 9), (some (61, false))⟩,
 ⟨some 64, .idxAddr (.tmp 62) (.tmp 63) 5, (some (61, false))⟩,
 ⟨some 65, .faddr (.tmp 64) 1, (some (61, false))⟩,
 ⟨some 66, .load false 1 (.tmp 65), (some (61, false))⟩,
 ⟨some 67, .move (.tmp 6), (some (61, false))⟩,
 ⟨some 68, .move (.tmp 9), (some (61, false))⟩,
 ⟨some 69, .idxAddr (.tmp 67) (.tmp 68) 5, (some (61, false))⟩,
 ⟨some 70, .faddr (.tmp 69) 1, (some (61, false))⟩,
 ⟨some 71, .load false 1 (.tmp 70), (some (61, false))⟩,
 ⟨some 72, .bin 0 .neq (.tmp 66) (.tmp 71), (some (61, false))⟩,
 ⟨some 73, .pick (.tmp 61) (.const (.bool true)) (.tmp 72), none⟩,
 ⟨some 74, .move (.tmp 73), none⟩,
 ⟨some 75, .move (.tmp 3), (some (74, false))⟩,
 ⟨some 76, .move (.tmp 9), (some (74, false))⟩,
 ⟨some 77, .idxAddr (.tmp 75) (.tmp 76) 5, (some (74, false))⟩,
 ⟨some 78, .faddr (.tmp 77) 2, (some (74, false))⟩,
 ⟨some 79, .load false 1 (.tmp 78), (some (74, false))⟩,
 ⟨some 80, .move (.tmp 6), (some (74, false))⟩,
 ⟨some 81, .move (.tmp 9), (some (74, false))⟩,
 ⟨some 82, .idxAddr (.tmp 80) (.tmp 81) 5, (some (74, false))⟩,
 ⟨some 83, .faddr (.tmp 82) 2, (some (74, false))⟩,
 ⟨some 84, .load false 1 (.tmp 83), (some (74, false))⟩,
 ⟨some 85, .bin 0 .neq (.tmp 79) (.tmp 84), (some (74, false))⟩,
 ⟨some 86, .pick (.tmp 74) (.const (.bool true)) (.tmp 85), none⟩,
 ⟨some 87, .move (.tmp 86), none⟩,
 ⟨some 88, .move (.tmp 3), (some (87, false))⟩,
 ⟨some 89, .move (.tmp 9), (some (87, false))⟩,
 ⟨some 90, .idxAddr (.tmp 88) (.tmp 89) 5, (some (87, false))⟩,
 ⟨some 91, .faddr (.tmp 90) 3, (some (87, false))⟩,
 ⟨some 92, .load false 1 (.tmp 91), (some (87, false))⟩,
 ⟨some 93, .move (.tmp 6), (some (87, false))⟩,
 ⟨some 94, .move (.tmp 9), (some (87, false))⟩,
 ⟨some 95, .idxAddr (.tmp 93) (.tmp 94) 5, (some (87, false))⟩,
 ⟨some 96, .faddr (.tmp 95) 3, (some (87, false))⟩,
 ⟨some 97, .load false 1 (.tmp 96), (some (87, false))⟩,
 ⟨some 98, .bin 0 .neq (.tmp 92) (.tmp 97), (some (87, false))⟩,
 ⟨some 99, .pick (.tmp 87) (.const (.bool true)) (.tmp 98), none⟩])
 (.cond (.tmp 99)
 (.seq
 (.region false [
 ⟨some 2, .assign (.const (.bool false)), none⟩])
 .ret)
 .skip)))
 (.region false [
 ⟨some 48, .move (.tmp 9), none⟩,
 ⟨some 49, .bin 0 .add (.tmp 48) (.const (.int .i64 1)), none⟩,
 ⟨some 9, .assign (.tmp 49), none⟩]))))))
 (.seq
 (.region false [
 ⟨some 2, .assign (.const (.bool true)), none⟩])
 .ret))))))) }
/-- purlin/purlinlaw02.LexCounts -/
def tf606 : TFn := { ntmps := 67, results := [.tmp 6], body :=
 (.seq
 (.region false [
 ⟨some 6, .assign (.const (.bool false)), none⟩])
 (.seq
 (.region false [
 ⟨some 15, .move (.tmp 0), none⟩,
 ⟨some 16, .move (.tmp 1), none⟩,
 ⟨some 17, .call true (.const (.fn 343 [])) [(.tmp 15), (.tmp 16)] [], none⟩,
 ⟨some 14, .move (.tmp 17), none⟩,
 ⟨some 18, .extract (.tmp 14) 0, none⟩,
 ⟨some 19, .extract (.tmp 14) 1, none⟩,
 ⟨some 7, .assign (.tmp 18), none⟩,
 ⟨some 8, .assign (.tmp 19), none⟩])
 (.seq
 (.region false [
 ⟨some 21, .move (.tmp 0), none⟩,
 ⟨some 22, .move (.tmp 1), none⟩,
 ⟨some 23, .call true (.const (.fn 344 [])) [(.tmp 21), (.tmp 22)] [], none⟩,
 ⟨some 20, .move (.tmp 23), none⟩,
 ⟨some 24, .extract (.tmp 20) 0, none⟩,
 ⟨some 25, .extract (.tmp 20) 1, none⟩,
 ⟨some 9, .assign (.tmp 24), none⟩,
 ⟨some 10, .assign (.tmp 25), none⟩])
 (.seq
 (.region false [
 ⟨some 11, .assign (.const (.sl true 0 1 [] [])), none⟩])
 (.seq
 (.region false [
 ⟨some 12, .assign (.const (.sl true 0 1 [] [])), none⟩])
 (.seq
 (.seq
 (.region false [
 ⟨some 13, .assign (.const (.int .i64 0)), none⟩])
 (.block 0
 (.loop [0, 2, 7, 8, 9, 10, 11, 12, 13]
 (.seq
 (.seq
 (.region false [
 ⟨some 26, .move (.tmp 13), none⟩,
 ⟨some 27, .move (.tmp 2), none⟩,
 ⟨some 28, .len false (.tmp 27), none⟩,
 ⟨some 29, .bin 0 .lss (.tmp 26) (.tmp 28), none⟩])
 (.cond (.tmp 29)
 .skip
 (.exit 0)))
 (.seq
 (.block 1
 (.seq
 (.region false [
 ⟨some 32, .move (.tmp 11), none⟩,
 ⟨some 33, .move (.tmp 2), none⟩,
 ⟨some 34, .move (.tmp 13), none⟩,
 ⟨some 35, .idxAddr (.tmp 33) (.tmp 34) 1, none⟩,
 ⟨some 36, .load false 1 (.tmp 35), none⟩,
 ⟨some 37, .buildSlice 1 1 [.int .u8 0] [(0, (.tmp 36))], none⟩,
 ⟨some 38, .append 1 1 (.tmp 32) (.tmp 37), none⟩,
 ⟨some 11, .assign (.tmp 38), none⟩])
 (.region false [
 ⟨some 39, .move (.tmp 12), none⟩,
 ⟨some 40, .move (.tmp 2), none⟩,
 ⟨some 41, .move (.tmp 13), none⟩,
 ⟨some 42, .idxAddr (.tmp 40) (.tmp 41) 1, none⟩,
 ⟨some 43, .load false 1 (.tmp 42), none⟩,
 ⟨some 44, .conv .i64 (.tmp 43), none⟩,
 ⟨some 45, .buildSlice 1 1 [.int .i64 0] [(0, (.tmp 44))], none⟩,
 ⟨some 46, .append 1 8 (.tmp 39) (.tmp 45), none⟩,
 ⟨some 12, .assign (.tmp 46), none⟩])))
 (.region false [
 ⟨some 30, .move (.tmp 13), none⟩,
 ⟨some 31, .bin 0 .add (.tmp 30) (.const (.int .i64 1)), none⟩,
 ⟨some 13, .assign (.tmp 31), none⟩]))))))
 (.seq
 (.region false [
 ⟨some 47, .call true (.const (.fn 337 [])) [] [], none⟩,
 ⟨some 48, .move (.tmp 47), none⟩,
 ⟨some 49, .move (.tmp 7), (some (48, true))⟩,
 ⟨some 50, .move (.tmp 9), (some (48, true))⟩,
 ⟨some 51, .bin 0 .eql (.tmp 49) (.tmp 50), (some (48, true))⟩,
 ⟨some 52, .pick (.tmp 48) (.tmp 51) (.const (.bool false)), none⟩,
 ⟨some 53, .move (.tmp 52), none⟩,
 ⟨some 54, .move (.tmp 8), (some (53, true))⟩,
 ⟨some 55, .move (.tmp 10), (some (53, true))⟩,
 ⟨some 56, .bin 0 .eql (.tmp 54) (.tmp 55), (some (53, true))⟩,
 ⟨some 57, .pick (.tmp 53) (.tmp 56) (.const (.bool false)), none⟩,
 ⟨some 58, .move (.tmp 57), none⟩,
 ⟨some 59, .move (.tmp 0), (some (58, true))⟩,
 ⟨some 60, .move (.tmp 11), (some (58, true))⟩,
 ⟨some 61, .call true (.const (.fn 345 [])) [(.tmp 59), (.tmp 60)] [], (some (58, true))⟩,
 ⟨some 62, .move (.tmp 0), (some (58, true))⟩,
 ⟨some 63, .move (.tmp 12), (some (58, true))⟩,
 ⟨some 64, .call true (.const (.fn 346 [])) [(.tmp 62), (.tmp 63)] [], (some (58, true))⟩,
 ⟨some 65, .bin 0 .eql (.tmp 61) (.tmp 64), (some (58, true))⟩,
 ⟨some 66, .pick (.tmp 58) (.tmp 65) (.const (.bool false)), none⟩,
 ⟨some 6, .assign (.tmp 66), none⟩])
 .ret))))))) }
/-- purlin/lex.All -/
def tf335 : TFn := { ntmps := 22, results := [.cell 2 false 1, .cell 3 false 1, .cell 4 false 1], body :=
 (.seq
 (.region false [
 ⟨some 2, .new 1 (.const (.sl true 0 5 [] [])), none⟩,
 ⟨some 3, .new 1 (.const (.int .i64 0)), none⟩,
 ⟨some 4, .new 1 (.const (.int .i64 0)), none⟩])
 (.seq
 (.region false [
 ⟨some 5, .new 1 (.const (.sl true 0 5 [] [])), none⟩])
 (.seq
 (.seq
 (.region false [
 ⟨some 8, .move (.tmp 0), none⟩,
 ⟨some 9, .call true (.const (.fn 607 [])) [(.tmp 8)] [], none⟩])
 (.block 0
 (.range 2 (.tmp 9) [2, 3, 4, 5, 6, 7, 10, 11, 12, 13, 14, 15, 16, 17, 18, 19, 20])))
 (.seq
 (.region false [
 ⟨some 21, .load false 1 (.tmp 5), none⟩,
 ⟨none, .store 1 (.tmp 2) (.tmp 21), none⟩,
 ⟨none, .store 1 (.tmp 3) (.const (.int .i64 0)), none⟩,
 ⟨none, .store 1 (.tmp 4) (.const (.int .i64 0)), none⟩])
 .ret)))) }
/-- purlin/purlinref02.All -/
def tf336 : TFn := { ntmps := 30, results := [.tmp 2, .tmp 3, .tmp 4], body :=
 (.seq
 (.region false [
 ⟨some 2, .assign (.const (.sl true 0 5 [] [])), none⟩,
 ⟨some 3, .assign (.const (.int .i64 0)), none⟩,
 ⟨some 4, .assign (.const (.int .i64 0)), none⟩])
 (.seq
 (.region false [
 ⟨some 5, .assign (.const (.sl true 0 5 [] [])), none⟩])
 (.seq
 (.region false [
 ⟨some 6, .assign (.const (.int .i64 0)), none⟩])
 (.block 0
 (.loop [0, 5, 6]
 (.block 1
 (.seq
 (.region false [
 ⟨some 11, .move (.tmp 0), none⟩,
 ⟨some 12, .move (.tmp 6), none⟩,
 ⟨some 13, .call true (.const (.fn 340 [])) [(.tmp 11), (.tmp 12)] [], none⟩,
 ⟨some 10, .move (.tmp 13), none⟩,
 ⟨some 14, .extract (.tmp 10) 0, none⟩,
 ⟨some 15, .extract (.tmp 10) 1, none⟩,
 ⟨some 16, .extract (.tmp 10) 2, none⟩,
 ⟨some 7, .box 5 (.const (.agg [.int .i64 0, .str ⟨#[]⟩, .int .i64 0, .int .i64 0, .int .i64 0])), none⟩,
 ⟨none, .store 5 (.tmp 7) (.tmp 14), none⟩,
 ⟨some 8, .assign (.tmp 15), none⟩,
 ⟨some 9, .assign (.tmp 16), none⟩])
 (.seq
 (.seq
 (.region false [
 ⟨some 17, .move (.tmp 9), none⟩,
 ⟨some 18, .bin 0 .neq (.tmp 17) (.const (.int .i64 0)), none⟩])
 (.cond (.tmp 18)
 (.seq
 (.region false [
 ⟨some 19, .move (.tmp 9), none⟩,
 ⟨some 20, .move (.tmp 8), none⟩,
 ⟨some 2, .assign (.const (.sl true 0 5 [] [])), none⟩,
 ⟨some 3, .assign (.tmp 19), none⟩,
 ⟨some 4, .assign (.tmp 20), none⟩])
 .ret)
 .skip))
 (.seq
 (.region false [
 ⟨some 21, .move (.tmp 5), none⟩,
 ⟨some 22, .load true 5 (.tmp 7), none⟩,
 ⟨some 23, .buildSlice 1 5 [.int .i64 0, .str ⟨#[]⟩, .int .i64 0, .int .i64 0, .int .i64 0] [(0, (.tmp 22))], none⟩,
 ⟨some 24, .append 5 48 (.tmp 21) (.tmp 23), none⟩,
 ⟨some 5, .assign (.tmp 24), none⟩])
 (.seq
 (.seq
 (.region false [
 ⟨some 25, .faddr (.tmp 7) 0, none⟩,
 ⟨some 26, .load false 1 (.tmp 25), none⟩,
 ⟨some 27, .bin 0 .eql (.tmp 26) (.const (.int .i64 0)), none⟩])
 (.cond (.tmp 27)
 (.seq
 (.region false [
 ⟨some 28, .move (.tmp 5), none⟩,
 ⟨some 2, .assign (.tmp 28), none⟩,
 ⟨some 3, .assign (.const (.int .i64 0)), none⟩,
 ⟨some 4, .assign (.const (.int .i64 0)), none⟩])
 .ret)
 .skip))
 (.region false [
 ⟨some 29, .move (.tmp 8), none⟩,
 ⟨some 6, .assign (.tmp 29), none⟩]))))))))))) }
/-- purlin/purlinlaw02.live -/
def tf337 : TFn := { ntmps := 69, results := [.tmp 0], body :=
 (.seq
 (.region false [
 ⟨some 0, .assign (.const (.bool false)), none⟩])
 (.seq
 (.region false [
 ⟨some 5, .call true (.const (.fn 335 [])) [(.const (.str ⟨#[112, 40, 88, 49, 41, 58, 45, 88, 49, 61, 60, 63, 49, 95, 50, 48, 46]⟩))] [], none⟩,
 ⟨some 4, .move (.tmp 5), none⟩,
 ⟨some 6, .extract (.tmp 4) 0, none⟩,
 ⟨some 7, .extract (.tmp 4) 1, none⟩,
 ⟨some 8, .extract (.tmp 4) 2, none⟩,
 ⟨some 1, .assign (.tmp 6), none⟩,
 ⟨some 2, .assign (.tmp 7), none⟩,
 ⟨some 3, .assign (.tmp 8), none⟩])
 (.seq
 (.region false [
 ⟨some 9, .move (.tmp 2), none⟩,
 ⟨some 10, .bin 0 .eql (.tmp 9) (.const (.int .i64 0)), none⟩,
 ⟨some 11, .move (.tmp 10), none⟩,
 ⟨some 12, .move (.tmp 3), (some (11, true))⟩,
 ⟨some 13, .bin 0 .eql (.tmp 12) (.const (.int .i64 0)), (some (11, true))⟩,
 ⟨some 14, .pick (.tmp 11) (.tmp 13) (.const (.bool false)), none⟩,
 ⟨some 15, .move (.tmp 14), none⟩,
 ⟨some 16, .move (.tmp 1), (some (15, true))⟩,
 ⟨some 17, .len false (.tmp 16), (some (15, true))⟩,
 ⟨some 18, .bin 0 .eql (.tmp 17) (.const (.int .i64 10)), (some (15, true))⟩,
 ⟨some 19, .pick (.tmp 15) (.tmp 18) (.const (.bool false)), none⟩,
 ⟨some 20, .move (.tmp 19), none⟩,
 ⟨some 21, .move (.tmp 1), (some (20, true))⟩,
 ⟨some 22, .idxAddr (.tmp 21) (.const (.int .i64 1)) 5, (some (20, true))⟩,
 ⟨some 23, .faddr (.tmp 22) 1, (some (20, true))⟩,
 ⟨some 24, .load false 1 (.tmp 23), (some (20, true))⟩,
 ⟨some 25, .bin 0 .eql (.tmp 24) (.const (.str ⟨#[40]⟩)), (some (20, true))⟩,
 ⟨some 26, .pick (.tmp 20) (.tmp 25) (.const (.bool false)), none⟩,
 ⟨some 27, .move (.tmp 26), none⟩,
 ⟨some 28, .move (.tmp 1), (some (27, true))⟩,
 ⟨some 29, .idxAddr (.tmp 28) (.const (.int .i64 4)) 5, (some (27, true))⟩,
 ⟨some 30, .faddr (.tmp 29) 1, (some (27, true))⟩,
 ⟨some 31, .load false 1 (.tmp 30), (some (27, true))⟩,
 ⟨some 32, .bin 0 .eql (.tmp 31) (.const (.str ⟨#[58, 45]⟩)), (some (27, true))⟩,
 ⟨some 33, .pick (.tmp 27) (.tmp 32) (.const (.bool false)), none⟩,
 ⟨some 34, .move (.tmp 33), none⟩,
 ⟨some 35, .move (.tmp 1), (some (34, true))⟩,
 ⟨some 36, .idxAddr (.tmp 35) (.const (.int .i64 6)) 5, (some (34, true))⟩,
 ⟨some 37, .faddr (.tmp 36) 1, (some (34, true))⟩,
 ⟨some 38, .load false 1 (.tmp 37), (some (34, true))⟩,
 ⟨some 39, .bin 0 .eql (.tmp 38) (.const (.str ⟨#[61, 60]⟩)), (some (34, true))⟩,
 ⟨some 40, .pick (.tmp 34) (.tmp 39) (.const (.bool false)), none⟩,
 ⟨some 41, .move (.tmp 40), none⟩,
 ⟨some 42, .move (.tmp 1), (some (41, true))⟩,
 ⟨some 43, .idxAddr (.tmp 42) (.const (.int .i64 7)) 5, (some (41, true))⟩,
 ⟨some 44, .faddr (.tmp 43) 0, (some (41, true))⟩,
 ⟨some 45, .load false 1 (.tmp 44), (some (41, true))⟩,
 ⟨some 46, .bin 0 .eql (.tmp 45) (.const (.int .u8 4)), (some (41, true))⟩,
 ⟨some 47, .pick (.tmp 41) (.tmp 46) (.const (.bool false)), none⟩,
 ⟨some 48, .move (.tmp 47), none⟩,
 ⟨some 49, .move (.tmp 1), (some (48, true))⟩,
 ⟨some 50, .idxAddr (.tmp 49) (.const (.int .i64 7)) 5, (some (48, true))⟩,
 ⟨some 51, .faddr (.tmp 50) 3, (some (48, true))⟩,
 ⟨some 52, .load false 1 (.tmp 51), (some (48, true))⟩,
 ⟨some 53, .bin 0 .eql (.tmp 52) (.const (.int .i64 1)), (some (48, true))⟩,
 ⟨some 54, .pick (.tmp 48) (.tmp 53) (.const (.bool false)), none⟩,
 ⟨some 55, .move (.tmp 54), none⟩,
 ⟨some 56, .move (.tmp 1), (some (55, true))⟩,
 ⟨some 57, .idxAddr (.tmp 56) (.const (.int .i64 7)) 5, (some (55, true))⟩,
 ⟨some 58, .faddr (.tmp 57) 2, (some (55, true))⟩,
 ⟨some 59, .load false 1 (.tmp 58), (some (55, true))⟩,
 ⟨some 60, .bin 0 .eql (.tmp 59) (.const (.int .i64 20)), (some (55, true))⟩,
 ⟨some 61, .pick (.tmp 55) (.tmp 60) (.const (.bool false)), none⟩,
 ⟨some 62, .move (.tmp 61), none⟩,
 ⟨some 63, .move (.tmp 1), (some (62, true))⟩,
 ⟨some 64, .idxAddr (.tmp 63) (.const (.int .i64 9)) 5, (some (62, true))⟩,
 ⟨some 65, .faddr (.tmp 64) 0, (some (62, true))⟩,
 ⟨some 66, .load false 1 (.tmp 65), (some (62, true))⟩,
 ⟨some 67, .bin 0 .eql (.tmp 66) (.const (.int .u8 0)), (some (62, true))⟩,
 ⟨some 68, .pick (.tmp 62) (.tmp 67) (.const (.bool false)), none⟩,
 ⟨some 0, .assign (.tmp 68), none⟩])
 .ret))) }
/-- purlin/lex.Next -/
def tf339 : TFn := { ntmps := 114, results := [.cell 4 true 5, .tmp 5, .tmp 6], body :=
 (.seq
 (.region false [
 ⟨some 4, .box 5 (.const (.agg [.int .u8 0, .str ⟨#[]⟩, .int .i64 0, .int .i64 0, .int .i64 0])), none⟩,
 ⟨some 5, .assign (.const (.int .i64 0)), none⟩,
 ⟨some 6, .assign (.const (.int .i64 0)), none⟩])
 (.seq
 (.seq
 (.region false [
 ⟨some 15, .move (.tmp 1), none⟩,
 ⟨some 16, .bin 0 .lss (.tmp 15) (.const (.int .i64 0)), none⟩,
 ⟨some 17, .move (.tmp 16), none⟩,
 ⟨some 18, .move (.tmp 1), (some (17, false))⟩,
 ⟨some 19, .move (.tmp 0), (some (17, false))⟩,
 ⟨some 20, .len true (.tmp 19), (some (17, false))⟩,
 ⟨some 21, .bin 0 .gtr (.tmp 18) (.tmp 20), (some (17, false))⟩,
 ⟨some 22, .pick (.tmp 17) (.const (.bool true)) (.tmp 21), none⟩])
 (.cond (.tmp 22)
 (.seq
 (.region false [
 ⟨some 23, .build [.int .u8 0, .str ⟨#[]⟩, .int .i64 0, .int .i64 0, .int .i64 0] [], none⟩,
 ⟨none, .store 5 (.tmp 4) (.tmp 23), none⟩,
 ⟨some 5, .assign (.const (.int .i64 0)), none⟩,
 ⟨some 6, .assign (.const (.int .i64 2)), none⟩])
 .ret)
 .skip))
 (.seq
 (.region false [
 ⟨some 24, .move (.tmp 0), none⟩,
 ⟨some 25, .move (.tmp 1), none⟩,
 ⟨some 26, .call true (.const (.fn 347 [])) [(.tmp 24), (.tmp 25)] [], none⟩,
 ⟨some 1, .assign (.tmp 26), none⟩])
 (.seq
 (.seq
 (.region false [
 ⟨some 27, .move (.tmp 1), none⟩,
 ⟨some 28, .move (.tmp 0), none⟩,
 ⟨some 29, .len true (.tmp 28), none⟩,
 ⟨some 30, .bin 0 .eql (.tmp 27) (.tmp 29), none⟩])
 (.cond (.tmp 30)
 (.seq
 (.region false [
 ⟨some 31, .move (.tmp 1), none⟩,
 ⟨some 32, .build [.int .u8 0, .str ⟨#[]⟩, .int .i64 0, .int .i64 0, .int .i64 0] [(4, 1, (.tmp 31))], none⟩,
 ⟨some 33, .move (.tmp 1), none⟩,
 ⟨none, .store 5 (.tmp 4) (.tmp 32), none⟩,
 ⟨some 5, .assign (.tmp 33), none⟩,
 ⟨some 6, .assign (.const (.int .i64 0)), none⟩])
 .ret)
 .skip))
 (.seq
 (.region false [
 ⟨some 7, .assign (.const (.int .u8 1)), none⟩])
 (.seq
 (.seq
 (.region false [
 ⟨some 34, .move (.tmp 0), none⟩,
 ⟨some 35, .move (.tmp 1), none⟩,
 ⟨some 36, .idxStr (.tmp 34) (.tmp 35), none⟩,
 ⟨some 8, .assign (.tmp 36), none⟩])
 (.block 0
 (.seq
 (.block 4
 (.seq
 (.block 3
 (.seq
 (.block 2
 (.seq
 (.block 1
 (.seq
 (.seq
 (.seq
 (.region false [
 ⟨some 38, .move (.tmp 8), none⟩,
 ⟨some 39, .bin 0 .eql (.tmp 38) (.const (.int .u8 63)), none⟩,
 ⟨some 37, .assign (.tmp 39), none⟩])
 (.cond (.tmp 37)
 (.exit 1)
 .skip))
 (.seq
 (.seq
 (.region false [
 ⟨some 41, .move (.tmp 8), none⟩,
 ⟨some 42, .call true (.const (.fn 348 [])) [(.tmp 41)] [], none⟩,
 ⟨some 40, .assign (.tmp 42), none⟩])
 (.cond (.tmp 40)
 (.exit 2)
 .skip))
 (.seq
 (.seq
 (.region false [
 ⟨some 44, .move (.tmp 8), none⟩,
 ⟨some 45, .call true (.const (.fn 349 [])) [(.tmp 44)] [], none⟩,
 ⟨some 43, .assign (.tmp 45), none⟩])
 (.cond (.tmp 43)
 (.exit 3)
 .skip))
 (.seq
 (.region false [
 ⟨some 47, .move (.tmp 8), none⟩,
 ⟨some 48, .call true (.const (.fn 350 [])) [(.tmp 47)] [], none⟩,
 ⟨some 46, .assign (.tmp 48), none⟩])
 (.cond (.tmp 46)
 (.exit 4)
 .skip)))))
 (.exit 0)))
 (.seq
 (.seq
 (.region false [
 ⟨some 49, .move (.tmp 0), none⟩,
 ⟨some 50, .move (.tmp 1), none⟩,
 ⟨some 51, .call true (.const (.fn 351 [])) [(.tmp 49), (.tmp 50)] [], none⟩,
 ⟨some 52, .extract (.tmp 51) 0, none⟩,
 ⟨some 53, .extract (.tmp 51) 1, none⟩,
 ⟨some 54, .extract (.tmp 51) 2, none⟩,
 ⟨none, .store 5 (.tmp 4) (.tmp 52), none⟩,
 ⟨some 5, .assign (.tmp 53), none⟩,
 ⟨some 6, .assign (.tmp 54), none⟩])
 .ret)
 (.exit 0))))
 (.seq
 (.seq
 (.region false [
 ⟨some 55, .move (.tmp 0), none⟩,
 ⟨some 56, .move (.tmp 1), none⟩,
 ⟨some 57, .call true (.const (.fn 352 [])) [(.tmp 55), (.tmp 56), (.const (.fn 348 []))] [], none⟩,
 ⟨some 9, .assign (.tmp 57), none⟩])
 (.seq
 (.region false [
 ⟨some 59, .move (.tmp 0), none⟩,
 ⟨some 60, .move (.tmp 1), none⟩,
 ⟨some 61, .move (.tmp 9), none⟩,
 ⟨some 62, .sliceStr (.tmp 59) (some (.tmp 60)) (some (.tmp 61)), none⟩,
 ⟨some 63, .call true (.const (.fn 353 [])) [(.tmp 62)] [], none⟩,
 ⟨some 58, .move (.tmp 63), none⟩,
 ⟨some 64, .extract (.tmp 58) 0, none⟩,
 ⟨some 65, .extract (.tmp 58) 1, none⟩,
 ⟨some 10, .assign (.tmp 64), none⟩,
 ⟨some 11, .assign (.tmp 65), none⟩])
 (.seq
 (.seq
 (.region false [
 ⟨some 66, .move (.tmp 11), none⟩,
 ⟨some 67, .un .not (.tmp 66), none⟩])
 (.cond (.tmp 67)
 (.seq
 (.region false [
 ⟨some 68, .build [.int .u8 0, .str ⟨#[]⟩, .int .i64 0, .int .i64 0, .int .i64 0] [], none⟩,
 ⟨some 69, .move (.tmp 1), none⟩,
 ⟨none, .store 5 (.tmp 4) (.tmp 68), none⟩,
 ⟨some 5, .assign (.tmp 69), none⟩,
 ⟨some 6, .assign (.const (.int .i64 21)), none⟩])
 .ret)
 .skip))
 (.seq
 (.region false [
 ⟨some 70, .move (.tmp 0), none⟩,
 ⟨some 71, .move (.tmp 1), none⟩,
 ⟨some 72, .move (.tmp 9), none⟩,
 ⟨some 73, .sliceStr (.tmp 70) (some (.tmp 71)) (some (.tmp 72)), none⟩,
 ⟨some 74, .move (.tmp 10), none⟩,
 ⟨some 75, .move (.tmp 1), none⟩,
 ⟨some 76, .build [.int .u8 0, .str ⟨#[]⟩, .int .i64 0, .int .i64 0, .int .i64 0] [(0, 1, (.const (.int .u8 3))), (1, 1, (.tmp 73)), (2, 1, (.tmp 74)), (4, 1, (.tmp 75))], none⟩,
 ⟨some 77, .move (.tmp 9), none⟩,
 ⟨none, .store 5 (.tmp 4) (.tmp 76), none⟩,
 ⟨some 5, .assign (.tmp 77), none⟩,
 ⟨some 6, .assign (.const (.int .i64 0)), none⟩])
 .ret))))
 (.exit 0))))
 (.region false [
 ⟨some 7, .assign (.const (.int .u8 2)), none⟩])))
 (.seq
 (.seq
 (.region false [
 ⟨some 78, .move (.tmp 0), none⟩,
 ⟨some 79, .move (.tmp 1), none⟩,
 ⟨some 80, .call true (.const (.fn 352 [])) [(.tmp 78), (.tmp 79), (.const (.fn 354 []))] [], none⟩,
 ⟨some 12, .assign (.tmp 80), none⟩])
 (.seq
 (.seq
 (.region false [
 ⟨some 81, .move (.tmp 12), none⟩,
 ⟨some 82, .move (.tmp 1), none⟩,
 ⟨some 83, .bin 0 .sub (.tmp 81) (.tmp 82), none⟩,
 ⟨some 84, .bin 0 .gtr (.tmp 83) (.const (.int .i64 16)), none⟩])
 (.cond (.tmp 84)
 (.seq
 (.region false [
 ⟨some 85, .build [.int .u8 0, .str ⟨#[]⟩, .int .i64 0, .int .i64 0, .int .i64 0] [], none⟩,
 ⟨some 86, .move (.tmp 1), none⟩,
 ⟨none, .store 5 (.tmp 4) (.tmp 85), none⟩,
 ⟨some 5, .assign (.tmp 86), none⟩,
 ⟨some 6, .assign (.const (.int .i64 5)), none⟩])
 .ret)
 .skip))
 (.seq
 (.region false [
 ⟨some 87, .move (.tmp 7), none⟩,
 ⟨some 88, .move (.tmp 0), none⟩,
 ⟨some 89, .move (.tmp 1), none⟩,
 ⟨some 90, .move (.tmp 12), none⟩,
 ⟨some 91, .sliceStr (.tmp 88) (some (.tmp 89)) (some (.tmp 90)), none⟩,
 ⟨some 92, .move (.tmp 1), none⟩,
 ⟨some 93, .build [.int .u8 0, .str ⟨#[]⟩, .int .i64 0, .int .i64 0, .int .i64 0] [(0, 1, (.tmp 87)), (1, 1, (.tmp 91)), (4, 1, (.tmp 92))], none⟩,
 ⟨some 94, .move (.tmp 12), none⟩,
 ⟨none, .store 5 (.tmp 4) (.tmp 93), none⟩,
 ⟨some 5, .assign (.tmp 94), none⟩,
 ⟨some 6, .assign (.const (.int .i64 0)), none⟩])
 .ret)))
 (.exit 0)))))
 (.seq
 (.seq
 (.region false [
 ⟨some 95, .build [.str ⟨#[]⟩, .str ⟨#[]⟩, .str ⟨#[]⟩, .str ⟨#[]⟩, .str ⟨#[]⟩, .str ⟨#[]⟩, .str ⟨#[]⟩, .str ⟨#[]⟩, .str ⟨#[]⟩, .str ⟨#[]⟩, .str ⟨#[]⟩, .str ⟨#[]⟩, .str ⟨#[]⟩, .str ⟨#[]⟩, .str ⟨#[]⟩, .str ⟨#[]⟩, .str ⟨#[]⟩, .str ⟨#[]⟩] [(0, 1, (.const (.str ⟨#[61, 58, 61]⟩))), (1, 1, (.const (.str ⟨#[61, 92, 61]⟩))), (2, 1, (.const (.str ⟨#[58, 45]⟩))), (3, 1, (.const (.str ⟨#[58, 61]⟩))), (4, 1, (.const (.str ⟨#[61, 60]⟩))), (5, 1, (.const (.str ⟨#[62, 61]⟩))), (6, 1, (.const (.str ⟨#[40]⟩))), (7, 1, (.const (.str ⟨#[41]⟩))), (8, 1, (.const (.str ⟨#[44]⟩))), (9, 1, (.const (.str ⟨#[46]⟩))), (10, 1, (.const (.str ⟨#[124]⟩))), (11, 1, (.const (.str ⟨#[64]⟩))), (12, 1, (.const (.str ⟨#[61]⟩))), (13, 1, (.const (.str ⟨#[43]⟩))), (14, 1, (.const (.str ⟨#[45]⟩))), (15, 1, (.const (.str ⟨#[42]⟩))), (16, 1, (.const (.str ⟨#[60]⟩))), (17, 1, (.const (.str ⟨#[62]⟩)))], none⟩,
 ⟨some 96, .move (.const (.int .i64 0)), none⟩])
 (.block 5
 (.loop [0, 1, 4, 95, 96]
 (.seq
 (.region false [
 ⟨some 97, .bin 0 .lss (.tmp 96) (.const (.int .i64 18)), none⟩])
 (.seq
 (.cond (.tmp 97)
 .skip
 (.exit 5))
 (.seq
 (.block 6
 (.seq
 (.region false [
 ⟨some 98, .idxAgg false 18 1 (.tmp 95) (.tmp 96), none⟩,
 ⟨some 14, .assign (.tmp 98), none⟩])
 (.seq
 (.region false [
 ⟨some 99, .move (.tmp 0), none⟩,
 ⟨some 100, .move (.tmp 1), none⟩,
 ⟨some 101, .sliceStr (.tmp 99) (some (.tmp 100)) none, none⟩,
 ⟨some 102, .move (.tmp 14), none⟩,
 ⟨some 103, .call true (.const (.fn 608 [])) [(.tmp 101), (.tmp 102)] [], none⟩])
 (.cond (.tmp 103)
 (.seq
 (.region false [
 ⟨some 104, .move (.tmp 14), none⟩,
 ⟨some 105, .move (.tmp 1), none⟩,
 ⟨some 106, .build [.int .u8 0, .str ⟨#[]⟩, .int .i64 0, .int .i64 0, .int .i64 0] [(0, 1, (.const (.int .u8 5))), (1, 1, (.tmp 104)), (4, 1, (.tmp 105))], none⟩,
 ⟨some 107, .move (.tmp 1), none⟩,
 ⟨some 108, .move (.tmp 14), none⟩,
 ⟨some 109, .len true (.tmp 108), none⟩,
 ⟨some 110, .bin 0 .add (.tmp 107) (.tmp 109), none⟩,
 ⟨none, .store 5 (.tmp 4) (.tmp 106), none⟩,
 ⟨some 5, .assign (.tmp 110), none⟩,
 ⟨some 6, .assign (.const (.int .i64 0)), none⟩])
 .ret)
 .skip))))
 (.region false [
 ⟨some 111, .bin 0 .add (.tmp 96) (.const (.int .i64 1)), none⟩,
 ⟨some 96, .move (.tmp 111), none⟩])))))))
 (.seq
 (.region false [
 ⟨some 112, .build [.int .u8 0, .str ⟨#[]⟩, .int .i64 0, .int .i64 0, .int .i64 0] [], none⟩,
 ⟨some 113, .move (.tmp 1), none⟩,
 ⟨none, .store 5 (.tmp 4) (.tmp 112), none⟩,
 ⟨some 5, .assign (.tmp 113), none⟩,
 ⟨some 6, .assign (.const (.int .i64 20)), none⟩])
 .ret)))))))) }
/-- purlin/purlinref02.Next -/
def tf340 : TFn := { ntmps := 165, results := [.cell 4 true 5, .tmp 5, .tmp 6], body :=
 (.seq
 (.region false [
 ⟨some 4, .box 5 (.const (.agg [.int .i64 0, .str ⟨#[]⟩, .int .i64 0, .int .i64 0, .int .i64 0])), none⟩,
 ⟨some 5, .assign (.const (.int .i64 0)), none⟩,
 ⟨some 6, .assign (.const (.int .i64 0)), none⟩])
 (.seq
 (.seq
 (.region false [
 ⟨some 15, .move (.tmp 1), none⟩,
 ⟨some 16, .bin 0 .lss (.tmp 15) (.const (.int .i64 0)), none⟩,
 ⟨some 17, .move (.tmp 16), none⟩,
 ⟨some 18, .move (.tmp 1), (some (17, false))⟩,
 ⟨some 19, .move (.tmp 0), (some (17, false))⟩,
 ⟨some 20, .len true (.tmp 19), (some (17, false))⟩,
 ⟨some 21, .bin 0 .gtr (.tmp 18) (.tmp 20), (some (17, false))⟩,
 ⟨some 22, .pick (.tmp 17) (.const (.bool true)) (.tmp 21), none⟩])
 (.cond (.tmp 22)
 (.seq
 (.region false [
 ⟨some 23, .build [.int .i64 0, .str ⟨#[]⟩, .int .i64 0, .int .i64 0, .int .i64 0] [], none⟩,
 ⟨none, .store 5 (.tmp 4) (.tmp 23), none⟩,
 ⟨some 5, .assign (.const (.int .i64 0)), none⟩,
 ⟨some 6, .assign (.const (.int .i64 2)), none⟩])
 .ret)
 .skip))
 (.seq
 (.region false [
 ⟨some 24, .move (.tmp 0), none⟩,
 ⟨some 25, .move (.tmp 1), none⟩,
 ⟨some 26, .call true (.const (.fn 355 [])) [(.tmp 24), (.tmp 25)] [], none⟩,
 ⟨some 1, .assign (.tmp 26), none⟩])
 (.seq
 (.seq
 (.region false [
 ⟨some 27, .move (.tmp 1), none⟩,
 ⟨some 28, .move (.tmp 0), none⟩,
 ⟨some 29, .len true (.tmp 28), none⟩,
 ⟨some 30, .bin 0 .eql (.tmp 27) (.tmp 29), none⟩])
 (.cond (.tmp 30)
 (.seq
 (.region false [
 ⟨some 31, .move (.tmp 1), none⟩,
 ⟨some 32, .build [.int .i64 0, .str ⟨#[]⟩, .int .i64 0, .int .i64 0, .int .i64 0] [(4, 1, (.tmp 31))], none⟩,
 ⟨some 33, .move (.tmp 1), none⟩,
 ⟨none, .store 5 (.tmp 4) (.tmp 32), none⟩,
 ⟨some 5, .assign (.tmp 33), none⟩,
 ⟨some 6, .assign (.const (.int .i64 0)), none⟩])
 .ret)
 .skip))
 (.seq
 (.region false [
 ⟨some 34, .move (.tmp 0), none⟩,
 ⟨some 35, .move (.tmp 1), none⟩,
 ⟨some 36, .idxStr (.tmp 34) (.tmp 35), none⟩,
 ⟨some 7, .assign (.tmp 36), none⟩])
 (.seq
 (.block 0
 (.seq
 (.region false [
 ⟨some 38, .move (.tmp 7), none⟩,
 ⟨some 39, .call true (.const (.fn 356 [])) [(.tmp 38)] [], none⟩,
 ⟨some 40, .move (.tmp 39), none⟩,
 ⟨some 41, .move (.tmp 7), (some (40, false))⟩,
 ⟨some 42, .call true (.const (.fn 357 [])) [(.tmp 41)] [], (some (40, false))⟩,
 ⟨some 43, .pick (.tmp 40) (.const (.bool true)) (.tmp 42), none⟩,
 ⟨some 37, .assign (.tmp 43), none⟩])
 (.cond (.tmp 37)
 (.seq
 (.region false [
 ⟨some 44, .move (.tmp 1), none⟩,
 ⟨some 8, .assign (.tmp 44), none⟩])
 (.seq
 (.block 1
 (.loop [0, 1, 4, 7, 8]
 (.seq
 (.seq
 (.region false [
 ⟨some 45, .move (.tmp 8), none⟩,
 ⟨some 46, .move (.tmp 0), none⟩,
 ⟨some 47, .len true (.tmp 46), none⟩,
 ⟨some 48, .bin 0 .lss (.tmp 45) (.tmp 47), none⟩,
 ⟨some 49, .move (.tmp 48), none⟩,
 ⟨some 50, .move (.tmp 0), (some (49, true))⟩,
 ⟨some 51, .move (.tmp 8), (some (49, true))⟩,
 ⟨some 52, .idxStr (.tmp 50) (.tmp 51), (some (49, true))⟩,
 ⟨some 53, .call true (.const (.fn 356 [])) [(.tmp 52)] [], (some (49, true))⟩,
 ⟨some 54, .move (.tmp 53), (some (49, true))⟩,
 ⟨some 55, .move (.tmp 0), (some (54, false))⟩,
 ⟨some 56, .move (.tmp 8), (some (54, false))⟩,
 ⟨some 57, .idxStr (.tmp 55) (.tmp 56), (some (54, false))⟩,
 ⟨some 58, .call true (.const (.fn 357 [])) [(.tmp 57)] [], (some (54, false))⟩,
 ⟨some 59, .pick (.tmp 54) (.const (.bool true)) (.tmp 58), (some (49, true))⟩,
 ⟨some 60, .move (.tmp 59), (some (49, true))⟩,
 ⟨some 61, .move (.tmp 0), (some (60, false))⟩,
 ⟨some 62, .move (.tmp 8), (some (60, false))⟩,
 ⟨some 63, .idxStr (.tmp 61) (.tmp 62), (some (60, false))⟩,
 ⟨some 64, .call true (.const (.fn 358 [])) [(.tmp 63)] [], (some (60, false))⟩,
 ⟨some 65, .pick (.tmp 60) (.const (.bool true)) (.tmp 64), (some (49, true))⟩,
 ⟨some 66, .pick (.tmp 49) (.tmp 65) (.const (.bool false)), none⟩])
 (.cond (.tmp 66)
 .skip
 (.exit 1)))
 (.block 2
 (.region false [
 ⟨some 67, .move (.tmp 8), none⟩,
 ⟨some 68, .bin 0 .add (.tmp 67) (.const (.int .i64 1)), none⟩,
 ⟨some 8, .assign (.tmp 68), none⟩])))))
 (.seq
 (.seq
 (.region false [
 ⟨some 69, .move (.tmp 8), none⟩,
 ⟨some 70, .move (.tmp 1), none⟩,
 ⟨some 71, .bin 0 .sub (.tmp 69) (.tmp 70), none⟩,
 ⟨some 72, .bin 0 .gtr (.tmp 71) (.const (.int .i64 16)), none⟩])
 (.cond (.tmp 72)
 (.seq
 (.region false [
 ⟨some 73, .build [.int .i64 0, .str ⟨#[]⟩, .int .i64 0, .int .i64 0, .int .i64 0] [], none⟩,
 ⟨some 74, .move (.tmp 1), none⟩,
 ⟨none, .store 5 (.tmp 4) (.tmp 73), none⟩,
 ⟨some 5, .assign (.tmp 74), none⟩,
 ⟨some 6, .assign (.const (.int .i64 5)), none⟩])
 .ret)
 .skip))
 (.seq
 (.region false [
 ⟨some 9, .assign (.const (.int .i64 1)), none⟩])
 (.seq
 (.seq
 (.region false [
 ⟨some 75, .move (.tmp 7), none⟩,
 ⟨some 76, .call true (.const (.fn 357 [])) [(.tmp 75)] [], none⟩])
 (.cond (.tmp 76)
 (.region false [
 ⟨some 9, .assign (.const (.int .i64 2)), none⟩])
 .skip))
 (.seq
 (.region false [
 ⟨some 77, .move (.tmp 9), none⟩,
 ⟨some 78, .move (.tmp 0), none⟩,
 ⟨some 79, .move (.tmp 1), none⟩,
 ⟨some 80, .move (.tmp 8), none⟩,
 ⟨some 81, .sliceStr (.tmp 78) (some (.tmp 79)) (some (.tmp 80)), none⟩,
 ⟨some 82, .move (.tmp 1), none⟩,
 ⟨some 83, .build [.int .i64 0, .str ⟨#[]⟩, .int .i64 0, .int .i64 0, .int .i64 0] [(0, 1, (.tmp 77)), (1, 1, (.tmp 81)), (4, 1, (.tmp 82))], none⟩,
 ⟨some 84, .move (.tmp 8), none⟩,
 ⟨none, .store 5 (.tmp 4) (.tmp 83), none⟩,
 ⟨some 5, .assign (.tmp 84), none⟩,
 ⟨some 6, .assign (.const (.int .i64 0)), none⟩])
 .ret))))))
 (.seq
 (.region false [
 ⟨some 86, .move (.tmp 7), none⟩,
 ⟨some 87, .call true (.const (.fn 358 [])) [(.tmp 86)] [], none⟩,
 ⟨some 85, .assign (.tmp 87), none⟩])
 (.cond (.tmp 85)
 (.seq
 (.region false [
 ⟨some 89, .move (.tmp 0), none⟩,
 ⟨some 90, .move (.tmp 1), none⟩,
 ⟨some 91, .call true (.const (.fn 359 [])) [(.tmp 89), (.tmp 90)] [], none⟩,
 ⟨some 88, .move (.tmp 91), none⟩,
 ⟨some 92, .extract (.tmp 88) 0, none⟩,
 ⟨some 93, .extract (.tmp 88) 1, none⟩,
 ⟨some 94, .extract (.tmp 88) 2, none⟩,
 ⟨some 10, .assign (.tmp 92), none⟩,
 ⟨some 11, .assign (.tmp 93), none⟩,
 ⟨some 12, .assign (.tmp 94), none⟩])
 (.seq
 (.seq
 (.region false [
 ⟨some 95, .move (.tmp 12), none⟩,
 ⟨some 96, .un .not (.tmp 95), none⟩])
 (.cond (.tmp 96)
 (.seq
 (.region false [
 ⟨some 97, .build [.int .i64 0, .str ⟨#[]⟩, .int .i64 0, .int .i64 0, .int .i64 0] [], none⟩,
 ⟨some 98, .move (.tmp 1), none⟩,
 ⟨none, .store 5 (.tmp 4) (.tmp 97), none⟩,
 ⟨some 5, .assign (.tmp 98), none⟩,
 ⟨some 6, .assign (.const (.int .i64 21)), none⟩])
 .ret)
 .skip))
 (.seq
 (.region false [
 ⟨some 99, .move (.tmp 0), none⟩,
 ⟨some 100, .move (.tmp 1), none⟩,
 ⟨some 101, .move (.tmp 10), none⟩,
 ⟨some 102, .sliceStr (.tmp 99) (some (.tmp 100)) (some (.tmp 101)), none⟩,
 ⟨some 103, .move (.tmp 11), none⟩,
 ⟨some 104, .move (.tmp 1), none⟩,
 ⟨some 105, .build [.int .i64 0, .str ⟨#[]⟩, .int .i64 0, .int .i64 0, .int .i64 0] [(0, 1, (.const (.int .i64 3))), (1, 1, (.tmp 102)), (2, 1, (.tmp 103)), (4, 1, (.tmp 104))], none⟩,
 ⟨some 106, .move (.tmp 10), none⟩,
 ⟨none, .store 5 (.tmp 4) (.tmp 105), none⟩,
 ⟨some 5, .assign (.tmp 106), none⟩,
 ⟨some 6, .assign (.const (.int .i64 0)), none⟩])
 .ret)))
 (.seq
 (.region false [
 ⟨some 108, .move (.tmp 7), none⟩,
 ⟨some 109, .bin 0 .eql (.tmp 108) (.const (.int .u8 63)), none⟩,
 ⟨some 107, .assign (.tmp 109), none⟩])
 (.cond (.tmp 107)
 (.seq
 (.region false [
 ⟨some 110, .move (.tmp 0), none⟩,
 ⟨some 111, .move (.tmp 1), none⟩,
 ⟨some 112, .call true (.const (.fn 360 [])) [(.tmp 110), (.tmp 111)] [], none⟩,
 ⟨some 113, .extract (.tmp 112) 0, none⟩,
 ⟨some 114, .extract (.tmp 112) 1, none⟩,
 ⟨some 115, .extract (.tmp 112) 2, none⟩,
 ⟨none, .store 5 (.tmp 4) (.tmp 113), none⟩,
 ⟨some 5, .assign (.tmp 114), none⟩,
 ⟨some 6, .assign (.tmp 115), none⟩])
 .ret)
 .skip)))))))
 (.seq
 (.region false [
 ⟨some 116, .call true (.const (.fn 361 [])) [] [], none⟩,
 ⟨some 13, .assign (.tmp 116), none⟩])
 (.seq
 (.seq
 (.region false [
 ⟨some 14, .assign (.const (.int .i64 0)), none⟩])
 (.block 3
 (.loop [0, 1, 4, 13, 14]
 (.seq
 (.seq
 (.region false [
 ⟨some 117, .move (.tmp 14), none⟩,
 ⟨some 118, .move (.tmp 13), none⟩,
 ⟨some 119, .len false (.tmp 118), none⟩,
 ⟨some 120, .bin 0 .lss (.tmp 117) (.tmp 119), none⟩])
 (.cond (.tmp 120)
 .skip
 (.exit 3)))
 (.seq
 (.block 4
 (.seq
 (.region true [
 ⟨some 123, .move (.tmp 1), none⟩,
 ⟨some 124, .move (.tmp 13), none⟩,
 ⟨some 125, .move (.tmp 14), none⟩,
 ⟨some 126, .idxAddr (.tmp 124) (.tmp 125) 1, none⟩,
 ⟨some 127, .load false 1 (.tmp 126), none⟩,
 ⟨some 128, .len true (.tmp 127), none⟩,
 ⟨some 129, .bin 0 .add (.tmp 123) (.tmp 128), none⟩,
 ⟨some 130, .move (.tmp 0), none⟩,
 ⟨some 131, .len true (.tmp 130), none⟩,
 ⟨some 132, .bin 0 .leq (.tmp 129) (.tmp 131), none⟩,
 ⟨some 133, .move (.tmp 132), none⟩,
 ⟨some 134, .move (.tmp 0), (some (133, true))⟩,
 ⟨some 135, .move (.tmp 1), (some (133, true))⟩,
 ⟨some 136, .move (.tmp 1), (some (133, true))⟩,
 ⟨some 137, .move (.tmp 13), (some (133, true))⟩,
 ⟨some 138, .move (.tmp 14), (some (133, true))⟩,
 ⟨some 139, .idxAddr (.tmp 137) (.tmp 138) 1, (some (133, true))⟩,
 ⟨some 140, .load false 1 (.tmp 139), (some (133, true))⟩,
 ⟨some 141, .len true (.tmp 140), (some (133, true))⟩,
 ⟨some 142, .bin 0 .add (.tmp 136) (.tmp 141), (some (133, true))⟩,
 ⟨some 143, .sliceStr (.tmp 134) (some (.tmp 135)) (some (.tmp 142)), (some (133, true))⟩,
 ⟨some 144, .move (.tmp 13), (some (133, true))⟩,
 ⟨some 145, .move (.tmp 14), (some (133, true))⟩,
 ⟨some 146, .idxAddr (.tmp 144) (.tmp 145) 1, (some (133, true))⟩,
 ⟨some 147, .load false 1 (.tmp 146), (some (133, true))⟩,
 ⟨some 148, .bin 0 .eql (.tmp 143) (.tmp 147), (some (133, true))⟩,
 ⟨some 149, .pick (.tmp 133) (.tmp 148) (.const (.bool false)), none⟩])
 (.cond (.tmp 149)
 (.seq
 (.region true [
 ⟨some 150, .move (.tmp 13), none⟩,
 ⟨some 151, .move (.tmp 14), none⟩,
 ⟨some 152, .idxAddr (.tmp 150) (.tmp 151) 1, none⟩,
 ⟨some 153, .load false 1 (.tmp 152), none⟩,
 ⟨some 154, .move (.tmp 1), none⟩,
 ⟨some 155, .build [.int .i64 0, .str ⟨#[]⟩, .int .i64 0, .int .i64 0, .int .i64 0] [(0, 1, (.const (.int .i64 5))), (1, 1, (.tmp 153)), (4, 1, (.tmp 154))], none⟩,
 ⟨some 156, .move (.tmp 1), none⟩,
 ⟨some 157, .move (.tmp 13), none⟩,
 ⟨some 158, .move (.tmp 14), none⟩,
 ⟨some 159, .idxAddr (.tmp 157) (.tmp 158) 1, none⟩,
 ⟨some 160, .loadR none false 1 (.tmp 159), none⟩,
 ⟨some 161, .len true (.tmp 160), none⟩,
 ⟨some 162, .bin 0 .add (.tmp 156) (.tmp 161), none⟩,
 ⟨none, .storeR (some 4) 5 (.tmp 4) (.tmp 155), none⟩,
 ⟨some 5, .assign (.tmp 162), none⟩,
 ⟨some 6, .assign (.const (.int .i64 0)), none⟩])
 .ret)
 .skip)))
 (.region false [
 ⟨some 121, .move (.tmp 14), none⟩,
 ⟨some 122, .bin 0 .add (.tmp 121) (.const (.int .i64 1)), none⟩,
 ⟨some 14, .assign (.tmp 122), none⟩]))))))
 (.seq
 (.region false [
 ⟨some 163, .build [.int .i64 0, .str ⟨#[]⟩, .int .i64 0, .int .i64 0, .int .i64 0] [], none⟩,
 ⟨some 164, .move (.tmp 1), none⟩,
 ⟨none, .store 5 (.tmp 4) (.tmp 163), none⟩,
 ⟨some 5, .assign (.tmp 164), none⟩,
 ⟨some 6, .assign (.const (.int .i64 20)), none⟩])
 .ret))))))))) }
/-- purlin/lex.Join -/
def tf341 : TFn := { ntmps := 23, results := [.tmp 2], body :=
 (.seq
 (.region false [
 ⟨some 2, .assign (.const (.str ⟨#[]⟩)), none⟩])
 (.seq
 (.region false [
 ⟨some 3, .assign (.const (.sl true 0 1 [] [])), none⟩])
 (.seq
 (.seq
 (.region false [
 ⟨some 6, .move (.tmp 0), none⟩,
 ⟨some 7, .len false (.tmp 6), none⟩,
 ⟨some 8, .move (.const (.int .i64 0)), none⟩])
 (.block 0
 (.loop [3, 6, 7, 8]
 (.seq
 (.region false [
 ⟨some 9, .bin 0 .lss (.tmp 8) (.tmp 7), none⟩])
 (.seq
 (.cond (.tmp 9)
 .skip
 (.exit 0))
 (.seq
 (.block 1
 (.seq
 (.region false [
 ⟨some 10, .idxAddr (.tmp 6) (.tmp 8) 5, none⟩,
 ⟨some 11, .load true 5 (.tmp 10), none⟩,
 ⟨some 5, .box 5 (.const (.agg [.int .u8 0, .str ⟨#[]⟩, .int .i64 0, .int .i64 0, .int .i64 0])), none⟩,
 ⟨none, .store 5 (.tmp 5) (.tmp 11), none⟩])
 (.seq
 (.region false [
 ⟨some 12, .faddr (.tmp 5) 1, none⟩,
 ⟨some 13, .load false 1 (.tmp 12), none⟩,
 ⟨some 14, .bin 0 .neq (.tmp 13) (.const (.str ⟨#[]⟩)), none⟩])
 (.cond (.tmp 14)
 (.region false [
 ⟨some 15, .move (.tmp 3), none⟩,
 ⟨some 16, .faddr (.tmp 5) 1, none⟩,
 ⟨some 17, .load false 1 (.tmp 16), none⟩,
 ⟨some 18, .buildSlice 1 1 [.str ⟨#[]⟩] [(0, (.tmp 17))], none⟩,
 ⟨some 19, .append 1 16 (.tmp 15) (.tmp 18), none⟩,
 ⟨some 3, .assign (.tmp 19), none⟩])
 .skip))))
 (.region false [
 ⟨some 20, .bin 0 .add (.tmp 8) (.const (.int .i64 1)), none⟩,
 ⟨some 8, .move (.tmp 20), none⟩])))))))
 (.seq
 (.region false [
 ⟨some 21, .move (.tmp 3), none⟩,
 ⟨some 22, .call true (.const (.fn 362 [])) [(.tmp 21), (.const (.str ⟨#[32]⟩))] [], none⟩,
 ⟨some 2, .assign (.tmp 22), none⟩])
 .ret)))) }
/-- purlin/purlinref02.Join -/
def tf342 : TFn := { ntmps := 29, results := [.tmp 2], body :=
 (.seq
 (.region false [
 ⟨some 2, .assign (.const (.str ⟨#[]⟩)), none⟩])
 (.seq
 (.region false [
 ⟨some 3, .assign (.const (.str ⟨#[]⟩)), none⟩])
 (.seq
 (.seq
 (.region false [
 ⟨some 4, .assign (.const (.int .i64 0)), none⟩])
 (.block 0
 (.loop [0, 3, 4]
 (.seq
 (.seq
 (.region false [
 ⟨some 5, .move (.tmp 4), none⟩,
 ⟨some 6, .move (.tmp 0), none⟩,
 ⟨some 7, .len false (.tmp 6), none⟩,
 ⟨some 8, .bin 0 .lss (.tmp 5) (.tmp 7), none⟩])
 (.cond (.tmp 8)
 .skip
 (.exit 0)))
 (.seq
 (.block 1
 (.seq
 (.seq
 (.region false [
 ⟨some 11, .move (.tmp 0), none⟩,
 ⟨some 12, .move (.tmp 4), none⟩,
 ⟨some 13, .idxAddr (.tmp 11) (.tmp 12) 5, none⟩,
 ⟨some 14, .faddr (.tmp 13) 1, none⟩,
 ⟨some 15, .load false 1 (.tmp 14), none⟩,
 ⟨some 16, .bin 0 .eql (.tmp 15) (.const (.str ⟨#[]⟩)), none⟩])
 (.cond (.tmp 16)
 (.exit 1)
 .skip))
 (.seq
 (.seq
 (.region false [
 ⟨some 17, .move (.tmp 3), none⟩,
 ⟨some 18, .bin 0 .neq (.tmp 17) (.const (.str ⟨#[]⟩)), none⟩])
 (.cond (.tmp 18)
 (.region false [
 ⟨some 19, .move (.tmp 3), none⟩,
 ⟨some 20, .bin 0 .add (.tmp 19) (.const (.str ⟨#[32]⟩)), none⟩,
 ⟨some 3, .assign (.tmp 20), none⟩])
 .skip))
 (.region false [
 ⟨some 21, .move (.tmp 3), none⟩,
 ⟨some 22, .move (.tmp 0), none⟩,
 ⟨some 23, .move (.tmp 4), none⟩,
 ⟨some 24, .idxAddr (.tmp 22) (.tmp 23) 5, none⟩,
 ⟨some 25, .faddr (.tmp 24) 1, none⟩,
 ⟨some 26, .load false 1 (.tmp 25), none⟩,
 ⟨some 27, .bin 0 .add (.tmp 21) (.tmp 26), none⟩,
 ⟨some 3, .assign (.tmp 27), none⟩]))))
 (.region false [
 ⟨some 9, .move (.tmp 4), none⟩,
 ⟨some 10, .bin 0 .add (.tmp 9) (.const (.int .i64 1)), none⟩,
 ⟨some 4, .assign (.tmp 10), none⟩]))))))
 (.seq
 (.region false [
 ⟨some 28, .move (.tmp 3), none⟩,
 ⟨some 2, .assign (.tmp 28), none⟩])
 .ret)))) }
/-- purlin/lex.Line -/
def tf343 : TFn := { ntmps := 22, results := [.tmp 4, .tmp 5], body :=
 (.seq
 (.region false [
 ⟨some 4, .assign (.const (.int .i64 0)), none⟩,
 ⟨some 5, .assign (.const (.int .i64 0)), none⟩])
 (.seq
 (.region false [
 ⟨some 7, .move (.tmp 0), none⟩,
 ⟨some 8, .move (.tmp 1), none⟩,
 ⟨some 9, .minmax true (.tmp 8) (.const (.int .i64 0)), none⟩,
 ⟨some 10, .move (.tmp 0), none⟩,
 ⟨some 11, .len true (.tmp 10), none⟩,
 ⟨some 12, .minmax false (.tmp 9) (.tmp 11), none⟩,
 ⟨some 13, .sliceStr (.tmp 7) none (some (.tmp 12)), none⟩,
 ⟨some 6, .assign (.tmp 13), none⟩])
 (.seq
 (.region false [
 ⟨some 14, .move (.tmp 6), none⟩,
 ⟨some 15, .call true (.const (.fn 363 [])) [(.tmp 14), (.const (.str ⟨#[10]⟩))] [], none⟩,
 ⟨some 16, .bin 0 .add (.tmp 15) (.const (.int .i64 1)), none⟩,
 ⟨some 17, .move (.tmp 6), none⟩,
 ⟨some 18, .len true (.tmp 17), none⟩,
 ⟨some 19, .move (.tmp 6), none⟩,
 ⟨some 20, .call true (.const (.fn 364 [])) [(.tmp 19), (.const (.int .u8 10))] [], none⟩,
 ⟨some 21, .bin 0 .sub (.tmp 18) (.tmp 20), none⟩,
 ⟨some 4, .assign (.tmp 16), none⟩,
 ⟨some 5, .assign (.tmp 21), none⟩])
 .ret))) }
/-- purlin/purlinref02.Line -/
def tf344 : TFn := { ntmps := 30, results := [.tmp 4, .tmp 5], body :=
 (.seq
 (.region false [
 ⟨some 4, .assign (.const (.int .i64 0)), none⟩,
 ⟨some 5, .assign (.const (.int .i64 0)), none⟩])
 (.seq
 (.region false [
 ⟨some 6, .assign (.const (.int .i64 1)), none⟩])
 (.seq
 (.region false [
 ⟨some 7, .assign (.const (.int .i64 1)), none⟩])
 (.seq
 (.seq
 (.region false [
 ⟨some 8, .assign (.const (.int .i64 0)), none⟩])
 (.block 0
 (.loop [0, 1, 6, 7, 8]
 (.seq
 (.seq
 (.region false [
 ⟨some 9, .move (.tmp 8), none⟩,
 ⟨some 10, .move (.tmp 1), none⟩,
 ⟨some 11, .bin 0 .lss (.tmp 9) (.tmp 10), none⟩,
 ⟨some 12, .move (.tmp 11), none⟩,
 ⟨some 13, .move (.tmp 8), (some (12, true))⟩,
 ⟨some 14, .move (.tmp 0), (some (12, true))⟩,
 ⟨some 15, .len true (.tmp 14), (some (12, true))⟩,
 ⟨some 16, .bin 0 .lss (.tmp 13) (.tmp 15), (some (12, true))⟩,
 ⟨some 17, .pick (.tmp 12) (.tmp 16) (.const (.bool false)), none⟩])
 (.cond (.tmp 17)
 .skip
 (.exit 0)))
 (.seq
 (.block 1
 (.seq
 (.region false [
 ⟨some 20, .move (.tmp 7), none⟩,
 ⟨some 21, .bin 0 .add (.tmp 20) (.const (.int .i64 1)), none⟩,
 ⟨some 7, .assign (.tmp 21), none⟩])
 (.seq
 (.region false [
 ⟨some 22, .move (.tmp 0), none⟩,
 ⟨some 23, .move (.tmp 8), none⟩,
 ⟨some 24, .idxStr (.tmp 22) (.tmp 23), none⟩,
 ⟨some 25, .bin 0 .eql (.tmp 24) (.const (.int .u8 10)), none⟩])
 (.cond (.tmp 25)
 (.seq
 (.region false [
 ⟨some 26, .move (.tmp 6), none⟩,
 ⟨some 27, .bin 0 .add (.tmp 26) (.const (.int .i64 1)), none⟩,
 ⟨some 6, .assign (.tmp 27), none⟩])
 (.region false [
 ⟨some 7, .assign (.const (.int .i64 1)), none⟩]))
 .skip))))
 (.region false [
 ⟨some 18, .move (.tmp 8), none⟩,
 ⟨some 19, .bin 0 .add (.tmp 18) (.const (.int .i64 1)), none⟩,
 ⟨some 8, .assign (.tmp 19), none⟩]))))))
 (.seq
 (.region false [
 ⟨some 28, .move (.tmp 6), none⟩,
 ⟨some 29, .move (.tmp 7), none⟩,
 ⟨some 4, .assign (.tmp 28), none⟩,
 ⟨some 5, .assign (.tmp 29), none⟩])
 .ret))))) }
/-- purlin/lex.Count -/
def tf345 : TFn := { ntmps := 31, results := [.tmp 4], body :=
 (.seq
 (.region false [
 ⟨some 4, .assign (.const (.int .i64 0)), none⟩])
 (.seq
 (.region false [
 ⟨some 12, .move (.tmp 0), none⟩,
 ⟨some 13, .call true (.const (.fn 335 [])) [(.tmp 12)] [], none⟩,
 ⟨some 11, .move (.tmp 13), none⟩,
 ⟨some 14, .extract (.tmp 11) 0, none⟩,
 ⟨some 15, .extract (.tmp 11) 1, none⟩,
 ⟨some 16, .extract (.tmp 11) 2, none⟩,
 ⟨some 5, .assign (.tmp 14), none⟩,
 ⟨some 6, .assign (.tmp 15), none⟩,
 ⟨some 7, .assign (.tmp 16), none⟩])
 (.seq
 (.region false [
 ⟨some 8, .assign (.const (.int .i64 0)), none⟩])
 (.seq
 (.seq
 (.region false [
 ⟨some 17, .move (.tmp 5), none⟩,
 ⟨some 18, .len false (.tmp 17), none⟩,
 ⟨some 19, .move (.const (.int .i64 0)), none⟩])
 (.block 0
 (.loop [1, 8, 17, 18, 19]
 (.seq
 (.region false [
 ⟨some 20, .bin 0 .lss (.tmp 19) (.tmp 18), none⟩])
 (.seq
 (.cond (.tmp 20)
 .skip
 (.exit 0))
 (.seq
 (.block 1
 (.seq
 (.region false [
 ⟨some 21, .idxAddr (.tmp 17) (.tmp 19) 5, none⟩,
 ⟨some 22, .load true 5 (.tmp 21), none⟩,
 ⟨some 10, .box 5 (.const (.agg [.int .u8 0, .str ⟨#[]⟩, .int .i64 0, .int .i64 0, .int .i64 0])), none⟩,
 ⟨none, .store 5 (.tmp 10) (.tmp 22), none⟩])
 (.seq
 (.region false [
 ⟨some 23, .move (.tmp 1), none⟩,
 ⟨some 24, .faddr (.tmp 10) 0, none⟩,
 ⟨some 25, .load false 1 (.tmp 24), none⟩,
 ⟨some 26, .call true (.const (.fn 365 [])) [(.tmp 23), (.tmp 25)] [], none⟩])
 (.cond (.tmp 26)
 (.region false [
 ⟨some 27, .move (.tmp 8), none⟩,
 ⟨some 28, .bin 0 .add (.tmp 27) (.const (.int .i64 1)), none⟩,
 ⟨some 8, .assign (.tmp 28), none⟩])
 .skip))))
 (.region false [
 ⟨some 29, .bin 0 .add (.tmp 19) (.const (.int .i64 1)), none⟩,
 ⟨some 19, .move (.tmp 29), none⟩])))))))
 (.seq
 (.region false [
 ⟨some 30, .move (.tmp 8), none⟩,
 ⟨some 4, .assign (.tmp 30), none⟩])
 .ret))))) }
/-- purlin/purlinref02.Count -/
def tf346 : TFn := { ntmps := 42, results := [.tmp 4], body :=
 (.seq
 (.region false [
 ⟨some 4, .assign (.const (.int .i64 0)), none⟩])
 (.seq
 (.region false [
 ⟨some 12, .move (.tmp 0), none⟩,
 ⟨some 13, .call true (.const (.fn 336 [])) [(.tmp 12)] [], none⟩,
 ⟨some 11, .move (.tmp 13), none⟩,
 ⟨some 14, .extract (.tmp 11) 0, none⟩,
 ⟨some 15, .extract (.tmp 11) 1, none⟩,
 ⟨some 16, .extract (.tmp 11) 2, none⟩,
 ⟨some 5, .assign (.tmp 14), none⟩,
 ⟨some 6, .assign (.tmp 15), none⟩,
 ⟨some 7, .assign (.tmp 16), none⟩])
 (.seq
 (.region false [
 ⟨some 8, .assign (.const (.int .i64 0)), none⟩])
 (.seq
 (.seq
 (.region false [
 ⟨some 9, .assign (.const (.int .i64 0)), none⟩])
 (.block 0
 (.loop [1, 5, 8, 9]
 (.seq
 (.seq
 (.region false [
 ⟨some 17, .move (.tmp 9), none⟩,
 ⟨some 18, .move (.tmp 5), none⟩,
 ⟨some 19, .len false (.tmp 18), none⟩,
 ⟨some 20, .bin 0 .lss (.tmp 17) (.tmp 19), none⟩])
 (.cond (.tmp 20)
 .skip
 (.exit 0)))
 (.seq
 (.block 1
 (.seq
 (.region false [
 ⟨some 10, .assign (.const (.int .i64 0)), none⟩])
 (.block 2
 (.loop [1, 5, 8, 9, 10]
 (.seq
 (.seq
 (.region false [
 ⟨some 23, .move (.tmp 10), none⟩,
 ⟨some 24, .move (.tmp 1), none⟩,
 ⟨some 25, .len false (.tmp 24), none⟩,
 ⟨some 26, .bin 0 .lss (.tmp 23) (.tmp 25), none⟩])
 (.cond (.tmp 26)
 .skip
 (.exit 2)))
 (.seq
 (.block 3
 (.seq
 (.region true [
 ⟨some 29, .move (.tmp 1), none⟩,
 ⟨some 30, .move (.tmp 10), none⟩,
 ⟨some 31, .idxAddr (.tmp 29) (.tmp 30) 1, none⟩,
 ⟨some 32, .load false 1 (.tmp 31), none⟩,
 ⟨some 33, .move (.tmp 5), none⟩,
 ⟨some 34, .move (.tmp 9), none⟩,
 ⟨some 35, .idxAddr (.tmp 33) (.tmp 34) 5, none⟩,
 ⟨some 36, .faddr (.tmp 35) 0, none⟩,
 ⟨some 37, .load false 1 (.tmp 36), none⟩,
 ⟨some 38, .bin 0 .eql (.tmp 32) (.tmp 37), none⟩])
 (.cond (.tmp 38)
 (.seq
 (.region false [
 ⟨some 39, .move (.tmp 8), none⟩,
 ⟨some 40, .bin 0 .add (.tmp 39) (.const (.int .i64 1)), none⟩,
 ⟨some 8, .assign (.tmp 40), none⟩])
 (.exit 2))
 .skip)))
 (.region false [
 ⟨some 27, .move (.tmp 10), none⟩,
 ⟨some 28, .bin 0 .add (.tmp 27) (.const (.int .i64 1)), none⟩,
 ⟨some 10, .assign (.tmp 28), none⟩])))))))
 (.region false [
 ⟨some 21, .move (.tmp 9), none⟩,
 ⟨some 22, .bin 0 .add (.tmp 21) (.const (.int .i64 1)), none⟩,
 ⟨some 9, .assign (.tmp 22), none⟩]))))))
 (.seq
 (.region false [
 ⟨some 41, .move (.tmp 8), none⟩,
 ⟨some 4, .assign (.tmp 41), none⟩])
 .ret))))) }
/-- purlin/lex.walk -/
def tf607 : TFn := { ntmps := 4, results := [.tmp 2], body :=
 (.seq
 (.region false [
 ⟨some 1, .box 1 (.tmp 0), none⟩,
 ⟨some 2, .assign (.const .nilfn), none⟩])
 (.seq
 (.region false [
 ⟨some 3, .makeFunc 366 [(.tmp 1)], none⟩,
 ⟨some 2, .assign (.tmp 3), none⟩])
 .ret)) }
/-- purlin/lex.skip -/
def tf347 : TFn := { ntmps := 26, results := [.tmp 4], body :=
 (.seq
 (.region false [
 ⟨some 4, .assign (.const (.int .i64 0)), none⟩])
 (.seq
 (.block 0
 (.loop [0, 1]
 (.seq
 (.seq
 (.region false [
 ⟨some 5, .move (.tmp 1), none⟩,
 ⟨some 6, .move (.tmp 0), none⟩,
 ⟨some 7, .len true (.tmp 6), none⟩,
 ⟨some 8, .bin 0 .lss (.tmp 5) (.tmp 7), none⟩])
 (.cond (.tmp 8)
 .skip
 (.exit 0)))
 (.block 1
 (.seq
 (.region false [
 ⟨some 9, .move (.tmp 0), none⟩,
 ⟨some 10, .move (.tmp 1), none⟩,
 ⟨some 11, .idxStr (.tmp 9) (.tmp 10), none⟩])
 (.block 2
 (.seq
 (.seq
 (.region false [
 ⟨some 14, .bin 0 .eql (.tmp 11) (.const (.int .u8 32)), none⟩,
 ⟨some 13, .assign (.tmp 14), none⟩])
 (.cond (.tmp 13)
 .skip
 (.seq
 (.region false [
 ⟨some 15, .bin 0 .eql (.tmp 11) (.const (.int .u8 9)), none⟩,
 ⟨some 13, .assign (.tmp 15), none⟩])
 (.cond (.tmp 13)
 .skip
 (.seq
 (.region false [
 ⟨some 16, .bin 0 .eql (.tmp 11) (.const (.int .u8 10)), none⟩,
 ⟨some 13, .assign (.tmp 16), none⟩])
 (.cond (.tmp 13)
 .skip
 (.region false [
 ⟨some 17, .bin 0 .eql (.tmp 11) (.const (.int .u8 13)), none⟩,
 ⟨some 13, .assign (.tmp 17), none⟩])))))))
 (.cond (.tmp 13)
 (.region false [
 ⟨some 18, .move (.tmp 1), none⟩,
 ⟨some 19, .bin 0 .add (.tmp 18) (.const (.int .i64 1)), none⟩,
 ⟨some 1, .assign (.tmp 19), none⟩])
 (.seq
 (.region false [
 ⟨some 21, .bin 0 .eql (.tmp 11) (.const (.int .u8 37)), none⟩,
 ⟨some 20, .assign (.tmp 21), none⟩])
 (.cond (.tmp 20)
 (.region false [
 ⟨some 22, .move (.tmp 0), none⟩,
 ⟨some 23, .move (.tmp 1), none⟩,
 ⟨some 24, .call true (.const (.fn 352 [])) [(.tmp 22), (.tmp 23), (.const (.fn 367 []))] [], none⟩,
 ⟨some 1, .assign (.tmp 24), none⟩])
 (.seq
 (.region false [
 ⟨some 12, .move (.tmp 1), none⟩,
 ⟨some 4, .assign (.tmp 12), none⟩])
 .ret)))))))))))
 (.seq
 (.region false [
 ⟨some 25, .move (.tmp 1), none⟩,
 ⟨some 4, .assign (.tmp 25), none⟩])
 .ret))) }
/-- purlin/lex.global -/
def tf351 : TFn := { ntmps := 80, results := [.cell 4 true 5, .tmp 5, .tmp 6], body :=
 (.seq
 (.region false [
 ⟨some 4, .box 5 (.const (.agg [.int .u8 0, .str ⟨#[]⟩, .int .i64 0, .int .i64 0, .int .i64 0])), none⟩,
 ⟨some 5, .assign (.const (.int .i64 0)), none⟩,
 ⟨some 6, .assign (.const (.int .i64 0)), none⟩])
 (.seq
 (.region false [
 ⟨some 13, .move (.tmp 0), none⟩,
 ⟨some 14, .move (.tmp 1), none⟩,
 ⟨some 15, .bin 0 .add (.tmp 14) (.const (.int .i64 1)), none⟩,
 ⟨some 16, .call true (.const (.fn 352 [])) [(.tmp 13), (.tmp 15), (.const (.fn 348 []))] [], none⟩,
 ⟨some 7, .assign (.tmp 16), none⟩])
 (.seq
 (.seq
 (.region false [
 ⟨some 17, .move (.tmp 7), none⟩,
 ⟨some 18, .move (.tmp 1), none⟩,
 ⟨some 19, .bin 0 .add (.tmp 18) (.const (.int .i64 1)), none⟩,
 ⟨some 20, .bin 0 .eql (.tmp 17) (.tmp 19), none⟩,
 ⟨some 21, .move (.tmp 20), none⟩,
 ⟨some 22, .move (.tmp 7), (some (21, false))⟩,
 ⟨some 23, .move (.tmp 0), (some (21, false))⟩,
 ⟨some 24, .len true (.tmp 23), (some (21, false))⟩,
 ⟨some 25, .bin 0 .eql (.tmp 22) (.tmp 24), (some (21, false))⟩,
 ⟨some 26, .pick (.tmp 21) (.const (.bool true)) (.tmp 25), none⟩,
 ⟨some 27, .move (.tmp 26), none⟩,
 ⟨some 28, .move (.tmp 0), (some (27, false))⟩,
 ⟨some 29, .move (.tmp 7), (some (27, false))⟩,
 ⟨some 30, .idxStr (.tmp 28) (.tmp 29), (some (27, false))⟩,
 ⟨some 31, .bin 0 .neq (.tmp 30) (.const (.int .u8 95)), (some (27, false))⟩,
 ⟨some 32, .pick (.tmp 27) (.const (.bool true)) (.tmp 31), none⟩])
 (.cond (.tmp 32)
 (.seq
 (.region false [
 ⟨some 33, .build [.int .u8 0, .str ⟨#[]⟩, .int .i64 0, .int .i64 0, .int .i64 0] [], none⟩,
 ⟨some 34, .move (.tmp 1), none⟩,
 ⟨none, .store 5 (.tmp 4) (.tmp 33), none⟩,
 ⟨some 5, .assign (.tmp 34), none⟩,
 ⟨some 6, .assign (.const (.int .i64 20)), none⟩])
 .ret)
 .skip))
 (.seq
 (.region false [
 ⟨some 35, .move (.tmp 0), none⟩,
 ⟨some 36, .move (.tmp 7), none⟩,
 ⟨some 37, .bin 0 .add (.tmp 36) (.const (.int .i64 1)), none⟩,
 ⟨some 38, .call true (.const (.fn 352 [])) [(.tmp 35), (.tmp 37), (.const (.fn 348 []))] [], none⟩,
 ⟨some 8, .assign (.tmp 38), none⟩])
 (.seq
 (.seq
 (.region false [
 ⟨some 39, .move (.tmp 8), none⟩,
 ⟨some 40, .move (.tmp 7), none⟩,
 ⟨some 41, .bin 0 .add (.tmp 40) (.const (.int .i64 1)), none⟩,
 ⟨some 42, .bin 0 .eql (.tmp 39) (.tmp 41), none⟩])
 (.cond (.tmp 42)
 (.seq
 (.region false [
 ⟨some 43, .build [.int .u8 0, .str ⟨#[]⟩, .int .i64 0, .int .i64 0, .int .i64 0] [], none⟩,
 ⟨some 44, .move (.tmp 1), none⟩,
 ⟨none, .store 5 (.tmp 4) (.tmp 43), none⟩,
 ⟨some 5, .assign (.tmp 44), none⟩,
 ⟨some 6, .assign (.const (.int .i64 20)), none⟩])
 .ret)
 .skip))
 (.seq
 (.region false [
 ⟨some 46, .move (.tmp 0), none⟩,
 ⟨some 47, .move (.tmp 1), none⟩,
 ⟨some 48, .bin 0 .add (.tmp 47) (.const (.int .i64 1)), none⟩,
 ⟨some 49, .move (.tmp 7), none⟩,
 ⟨some 50, .sliceStr (.tmp 46) (some (.tmp 48)) (some (.tmp 49)), none⟩,
 ⟨some 51, .call true (.const (.fn 353 [])) [(.tmp 50)] [], none⟩,
 ⟨some 45, .move (.tmp 51), none⟩,
 ⟨some 52, .extract (.tmp 45) 0, none⟩,
 ⟨some 53, .extract (.tmp 45) 1, none⟩,
 ⟨some 9, .assign (.tmp 52), none⟩,
 ⟨some 10, .assign (.tmp 53), none⟩])
 (.seq
 (.region false [
 ⟨some 55, .move (.tmp 0), none⟩,
 ⟨some 56, .move (.tmp 7), none⟩,
 ⟨some 57, .bin 0 .add (.tmp 56) (.const (.int .i64 1)), none⟩,
 ⟨some 58, .move (.tmp 8), none⟩,
 ⟨some 59, .sliceStr (.tmp 55) (some (.tmp 57)) (some (.tmp 58)), none⟩,
 ⟨some 60, .call true (.const (.fn 353 [])) [(.tmp 59)] [], none⟩,
 ⟨some 54, .move (.tmp 60), none⟩,
 ⟨some 61, .extract (.tmp 54) 0, none⟩,
 ⟨some 62, .extract (.tmp 54) 1, none⟩,
 ⟨some 11, .assign (.tmp 61), none⟩,
 ⟨some 12, .assign (.tmp 62), none⟩])
 (.seq
 (.seq
 (.region false [
 ⟨some 63, .move (.tmp 10), none⟩,
 ⟨some 64, .un .not (.tmp 63), none⟩,
 ⟨some 65, .move (.tmp 64), none⟩,
 ⟨some 66, .move (.tmp 12), (some (65, false))⟩,
 ⟨some 67, .un .not (.tmp 66), (some (65, false))⟩,
 ⟨some 68, .pick (.tmp 65) (.const (.bool true)) (.tmp 67), none⟩])
 (.cond (.tmp 68)
 (.seq
 (.region false [
 ⟨some 69, .build [.int .u8 0, .str ⟨#[]⟩, .int .i64 0, .int .i64 0, .int .i64 0] [], none⟩,
 ⟨some 70, .move (.tmp 1), none⟩,
 ⟨none, .store 5 (.tmp 4) (.tmp 69), none⟩,
 ⟨some 5, .assign (.tmp 70), none⟩,
 ⟨some 6, .assign (.const (.int .i64 21)), none⟩])
 .ret)
 .skip))
 (.seq
 (.region false [
 ⟨some 71, .move (.tmp 0), none⟩,
 ⟨some 72, .move (.tmp 1), none⟩,
 ⟨some 73, .move (.tmp 8), none⟩,
 ⟨some 74, .sliceStr (.tmp 71) (some (.tmp 72)) (some (.tmp 73)), none⟩,
 ⟨some 75, .move (.tmp 11), none⟩,
 ⟨some 76, .move (.tmp 9), none⟩,
 ⟨some 77, .move (.tmp 1), none⟩,
 ⟨some 78, .build [.int .u8 0, .str ⟨#[]⟩, .int .i64 0, .int .i64 0, .int .i64 0] [(0, 1, (.const (.int .u8 4))), (1, 1, (.tmp 74)), (2, 1, (.tmp 75)), (3, 1, (.tmp 76)), (4, 1, (.tmp 77))], none⟩,
 ⟨some 79, .move (.tmp 8), none⟩,
 ⟨none, .store 5 (.tmp 4) (.tmp 78), none⟩,
 ⟨some 5, .assign (.tmp 79), none⟩,
 ⟨some 6, .assign (.const (.int .i64 0)), none⟩])
 .ret))))))))) }
/-- purlin/lex.isDigit -/
def tf348 : TFn := { ntmps := 9, results := [.tmp 2], body :=
 (.seq
 (.region false [
 ⟨some 2, .assign (.const (.bool false)), none⟩])
 (.seq
 (.region false [
 ⟨some 3, .move (.tmp 0), none⟩,
 ⟨some 4, .bin 0 .geq (.tmp 3) (.const (.int .u8 48)), none⟩,
 ⟨some 5, .move (.tmp 4), none⟩,
 ⟨some 6, .move (.tmp 0), (some (5, true))⟩,
 ⟨some 7, .bin 0 .leq (.tmp 6) (.const (.int .u8 57)), (some (5, true))⟩,
 ⟨some 8, .pick (.tmp 5) (.tmp 7) (.const (.bool false)), none⟩,
 ⟨some 2, .assign (.tmp 8), none⟩])
 .ret)) }
/-- purlin/lex.span -/
def tf352 : TFn := { ntmps := 21, results := [.tmp 6], body :=
 (.seq
 (.region false [
 ⟨some 6, .assign (.const (.int .i64 0)), none⟩])
 (.seq
 (.block 0
 (.loop [0, 1, 2]
 (.seq
 (.seq
 (.region false [
 ⟨some 7, .move (.tmp 1), none⟩,
 ⟨some 8, .move (.tmp 0), none⟩,
 ⟨some 9, .len true (.tmp 8), none⟩,
 ⟨some 10, .bin 0 .lss (.tmp 7) (.tmp 9), none⟩,
 ⟨some 11, .move (.tmp 10), none⟩,
 ⟨some 12, .move (.tmp 2), (some (11, true))⟩,
 ⟨some 13, .move (.tmp 0), (some (11, true))⟩,
 ⟨some 14, .move (.tmp 1), (some (11, true))⟩,
 ⟨some 15, .idxStr (.tmp 13) (.tmp 14), (some (11, true))⟩,
 ⟨some 16, .call true (.tmp 12) [(.tmp 15)] [], (some (11, true))⟩,
 ⟨some 17, .pick (.tmp 11) (.tmp 16) (.const (.bool false)), none⟩])
 (.cond (.tmp 17)
 .skip
 (.exit 0)))
 (.block 1
 (.region false [
 ⟨some 18, .move (.tmp 1), none⟩,
 ⟨some 19, .bin 0 .add (.tmp 18) (.const (.int .i64 1)), none⟩,
 ⟨some 1, .assign (.tmp 19), none⟩])))))
 (.seq
 (.region false [
 ⟨some 20, .move (.tmp 1), none⟩,
 ⟨some 6, .assign (.tmp 20), none⟩])
 .ret))) }
/-- purlin/lex.isCapital -/
def tf349 : TFn := { ntmps := 13, results := [.tmp 2], body :=
 (.seq
 (.region false [
 ⟨some 2, .assign (.const (.bool false)), none⟩])
 (.seq
 (.region false [
 ⟨some 3, .move (.tmp 0), none⟩,
 ⟨some 4, .bin 0 .geq (.tmp 3) (.const (.int .u8 65)), none⟩,
 ⟨some 5, .move (.tmp 4), none⟩,
 ⟨some 6, .move (.tmp 0), (some (5, true))⟩,
 ⟨some 7, .bin 0 .leq (.tmp 6) (.const (.int .u8 90)), (some (5, true))⟩,
 ⟨some 8, .pick (.tmp 5) (.tmp 7) (.const (.bool false)), none⟩,
 ⟨some 9, .move (.tmp 8), none⟩,
 ⟨some 10, .move (.tmp 0), (some (9, false))⟩,
 ⟨some 11, .bin 0 .eql (.tmp 10) (.const (.int .u8 95)), (some (9, false))⟩,
 ⟨some 12, .pick (.tmp 9) (.const (.bool true)) (.tmp 11), none⟩,
 ⟨some 2, .assign (.tmp 12), none⟩])
 .ret)) }
/-- purlin/lex.isSmall -/
def tf350 : TFn := { ntmps := 9, results := [.tmp 2], body :=
 (.seq
 (.region false [
 ⟨some 2, .assign (.const (.bool false)), none⟩])
 (.seq
 (.region false [
 ⟨some 3, .move (.tmp 0), none⟩,
 ⟨some 4, .bin 0 .geq (.tmp 3) (.const (.int .u8 97)), none⟩,
 ⟨some 5, .move (.tmp 4), none⟩,
 ⟨some 6, .move (.tmp 0), (some (5, true))⟩,
 ⟨some 7, .bin 0 .leq (.tmp 6) (.const (.int .u8 122)), (some (5, true))⟩,
 ⟨some 8, .pick (.tmp 5) (.tmp 7) (.const (.bool false)), none⟩,
 ⟨some 2, .assign (.tmp 8), none⟩])
 .ret)) }
/-- purlin/lex.Next$1 -/
def tf354 : TFn := { ntmps := 13, results := [.tmp 2], body :=
 (.seq
 (.region false [
 ⟨some 2, .assign (.const (.bool false)), none⟩])
 (.seq
 (.region false [
 ⟨some 3, .move (.tmp 0), none⟩,
 ⟨some 4, .call true (.const (.fn 350 [])) [(.tmp 3)] [], none⟩,
 ⟨some 5, .move (.tmp 4), none⟩,
 ⟨some 6, .move (.tmp 0), (some (5, false))⟩,
 ⟨some 7, .call true (.const (.fn 349 [])) [(.tmp 6)] [], (some (5, false))⟩,
 ⟨some 8, .pick (.tmp 5) (.const (.bool true)) (.tmp 7), none⟩,
 ⟨some 9, .move (.tmp 8), none⟩,
 ⟨some 10, .move (.tmp 0), (some (9, false))⟩,
 ⟨some 11, .call true (.const (.fn 348 [])) [(.tmp 10)] [], (some (9, false))⟩,
 ⟨some 12, .pick (.tmp 9) (.const (.bool true)) (.tmp 11), none⟩,
 ⟨some 2, .assign (.tmp 12), none⟩])
 .ret)) }
/-- strings.HasPrefix -/
def tf608 : TFn := { ntmps := 8, results := [.tmp 4], body :=
 (.seq
 (.region false [
 ⟨some 4, .assign (.const (.bool false)), none⟩])
 (.seq
 (.region false [
 ⟨some 5, .move (.tmp 0), none⟩,
 ⟨some 6, .move (.tmp 1), none⟩,
 ⟨some 7, .call true (.const (.fn 369 [])) [(.tmp 5), (.tmp 6)] [], none⟩,
 ⟨some 4, .assign (.tmp 7), none⟩])
 .ret)) }
/-- purlin/purlinref02.begin -/
def tf355 : TFn := { ntmps := 53, results := [.tmp 4], body :=
 (.seq
 (.region false [
 ⟨some 4, .assign (.const (.int .i64 0)), none⟩])
 (.seq
 (.block 0
 (.loop [0, 1]
 (.seq
 (.seq
 (.region false [
 ⟨some 5, .move (.tmp 1), none⟩,
 ⟨some 6, .move (.tmp 0), none⟩,
 ⟨some 7, .len true (.tmp 6), none⟩,
 ⟨some 8, .bin 0 .lss (.tmp 5) (.tmp 7), none⟩])
 (.cond (.tmp 8)
 .skip
 (.exit 0)))
 (.block 1
 (.block 2
 (.seq
 (.region false [
 ⟨some 11, .move (.tmp 0), none⟩,
 ⟨some 12, .move (.tmp 1), none⟩,
 ⟨some 13, .idxStr (.tmp 11) (.tmp 12), none⟩,
 ⟨some 14, .bin 0 .eql (.tmp 13) (.const (.int .u8 32)), none⟩,
 ⟨some 15, .move (.tmp 14), none⟩,
 ⟨some 16, .move (.tmp 0), (some (15, false))⟩,
 ⟨some 17, .move (.tmp 1), (some (15, false))⟩,
 ⟨some 18, .idxStr (.tmp 16) (.tmp 17), (some (15, false))⟩,
 ⟨some 19, .bin 0 .eql (.tmp 18) (.const (.int .u8 9)), (some (15, false))⟩,
 ⟨some 20, .pick (.tmp 15) (.const (.bool true)) (.tmp 19), none⟩,
 ⟨some 21, .move (.tmp 20), none⟩,
 ⟨some 22, .move (.tmp 0), (some (21, false))⟩,
 ⟨some 23, .move (.tmp 1), (some (21, false))⟩,
 ⟨some 24, .idxStr (.tmp 22) (.tmp 23), (some (21, false))⟩,
 ⟨some 25, .bin 0 .eql (.tmp 24) (.const (.int .u8 10)), (some (21, false))⟩,
 ⟨some 26, .pick (.tmp 21) (.const (.bool true)) (.tmp 25), none⟩,
 ⟨some 27, .move (.tmp 26), none⟩,
 ⟨some 28, .move (.tmp 0), (some (27, false))⟩,
 ⟨some 29, .move (.tmp 1), (some (27, false))⟩,
 ⟨some 30, .idxStr (.tmp 28) (.tmp 29), (some (27, false))⟩,
 ⟨some 31, .bin 0 .eql (.tmp 30) (.const (.int .u8 13)), (some (27, false))⟩,
 ⟨some 32, .pick (.tmp 27) (.const (.bool true)) (.tmp 31), none⟩,
 ⟨some 10, .assign (.tmp 32), none⟩])
 (.cond (.tmp 10)
 (.region false [
 ⟨some 33, .move (.tmp 1), none⟩,
 ⟨some 34, .bin 0 .add (.tmp 33) (.const (.int .i64 1)), none⟩,
 ⟨some 1, .assign (.tmp 34), none⟩])
 (.seq
 (.region false [
 ⟨some 36, .move (.tmp 0), none⟩,
 ⟨some 37, .move (.tmp 1), none⟩,
 ⟨some 38, .idxStr (.tmp 36) (.tmp 37), none⟩,
 ⟨some 39, .bin 0 .eql (.tmp 38) (.const (.int .u8 37)), none⟩,
 ⟨some 35, .assign (.tmp 39), none⟩])
 (.cond (.tmp 35)
 (.block 3
 (.loop [0, 1]
 (.seq
 (.seq
 (.region false [
 ⟨some 40, .move (.tmp 1), none⟩,
 ⟨some 41, .move (.tmp 0), none⟩,
 ⟨some 42, .len true (.tmp 41), none⟩,
 ⟨some 43, .bin 0 .lss (.tmp 40) (.tmp 42), none⟩,
 ⟨some 44, .move (.tmp 43), none⟩,
 ⟨some 45, .move (.tmp 0), (some (44, true))⟩,
 ⟨some 46, .move (.tmp 1), (some (44, true))⟩,
 ⟨some 47, .idxStr (.tmp 45) (.tmp 46), (some (44, true))⟩,
 ⟨some 48, .bin 0 .neq (.tmp 47) (.const (.int .u8 10)), (some (44, true))⟩,
 ⟨some 49, .pick (.tmp 44) (.tmp 48) (.const (.bool false)), none⟩])
 (.cond (.tmp 49)
 .skip
 (.exit 3)))
 (.block 4
 (.region false [
 ⟨some 50, .move (.tmp 1), none⟩,
 ⟨some 51, .bin 0 .add (.tmp 50) (.const (.int .i64 1)), none⟩,
 ⟨some 1, .assign (.tmp 51), none⟩])))))
 (.seq
 (.region false [
 ⟨some 9, .move (.tmp 1), none⟩,
 ⟨some 4, .assign (.tmp 9), none⟩])
 .ret))))))))))
 (.seq
 (.region false [
 ⟨some 52, .move (.tmp 1), none⟩,
 ⟨some 4, .assign (.tmp 52), none⟩])
 .ret))) }
/-- purlin/purlinref02.small -/
def tf356 : TFn := { ntmps := 9, results := [.tmp 2], body :=
 (.seq
 (.region false [
 ⟨some 2, .assign (.const (.bool false)), none⟩])
 (.seq
 (.region false [
 ⟨some 3, .move (.tmp 0), none⟩,
 ⟨some 4, .bin 0 .geq (.tmp 3) (.const (.int .u8 97)), none⟩,
 ⟨some 5, .move (.tmp 4), none⟩,
 ⟨some 6, .move (.tmp 0), (some (5, true))⟩,
 ⟨some 7, .bin 0 .leq (.tmp 6) (.const (.int .u8 122)), (some (5, true))⟩,
 ⟨some 8, .pick (.tmp 5) (.tmp 7) (.const (.bool false)), none⟩,
 ⟨some 2, .assign (.tmp 8), none⟩])
 .ret)) }
/-- purlin/purlinref02.capital -/
def tf357 : TFn := { ntmps := 13, results := [.tmp 2], body :=
 (.seq
 (.region false [
 ⟨some 2, .assign (.const (.bool false)), none⟩])
 (.seq
 (.region false [
 ⟨some 3, .move (.tmp 0), none⟩,
 ⟨some 4, .bin 0 .geq (.tmp 3) (.const (.int .u8 65)), none⟩,
 ⟨some 5, .move (.tmp 4), none⟩,
 ⟨some 6, .move (.tmp 0), (some (5, true))⟩,
 ⟨some 7, .bin 0 .leq (.tmp 6) (.const (.int .u8 90)), (some (5, true))⟩,
 ⟨some 8, .pick (.tmp 5) (.tmp 7) (.const (.bool false)), none⟩,
 ⟨some 9, .move (.tmp 8), none⟩,
 ⟨some 10, .move (.tmp 0), (some (9, false))⟩,
 ⟨some 11, .bin 0 .eql (.tmp 10) (.const (.int .u8 95)), (some (9, false))⟩,
 ⟨some 12, .pick (.tmp 9) (.const (.bool true)) (.tmp 11), none⟩,
 ⟨some 2, .assign (.tmp 12), none⟩])
 .ret)) }
/-- purlin/purlinref02.digit -/
def tf358 : TFn := { ntmps := 9, results := [.tmp 2], body :=
 (.seq
 (.region false [
 ⟨some 2, .assign (.const (.bool false)), none⟩])
 (.seq
 (.region false [
 ⟨some 3, .move (.tmp 0), none⟩,
 ⟨some 4, .bin 0 .geq (.tmp 3) (.const (.int .u8 48)), none⟩,
 ⟨some 5, .move (.tmp 4), none⟩,
 ⟨some 6, .move (.tmp 0), (some (5, true))⟩,
 ⟨some 7, .bin 0 .leq (.tmp 6) (.const (.int .u8 57)), (some (5, true))⟩,
 ⟨some 8, .pick (.tmp 5) (.tmp 7) (.const (.bool false)), none⟩,
 ⟨some 2, .assign (.tmp 8), none⟩])
 .ret)) }
/-- purlin/purlinref02.digits -/
def tf359 : TFn := { ntmps := 48, results := [.tmp 4, .tmp 5, .tmp 6], body :=
 (.seq
 (.region false [
 ⟨some 4, .assign (.const (.int .i64 0)), none⟩,
 ⟨some 5, .assign (.const (.int .i64 0)), none⟩,
 ⟨some 6, .assign (.const (.bool false)), none⟩])
 (.seq
 (.region false [
 ⟨some 9, .move (.tmp 1), none⟩,
 ⟨some 7, .assign (.tmp 9), none⟩])
 (.seq
 (.region false [
 ⟨some 8, .assign (.const (.int .i64 0)), none⟩])
 (.seq
 (.block 0
 (.loop [0, 1, 7, 8]
 (.seq
 (.seq
 (.region false [
 ⟨some 10, .move (.tmp 1), none⟩,
 ⟨some 11, .move (.tmp 0), none⟩,
 ⟨some 12, .len true (.tmp 11), none⟩,
 ⟨some 13, .bin 0 .lss (.tmp 10) (.tmp 12), none⟩,
 ⟨some 14, .move (.tmp 13), none⟩,
 ⟨some 15, .move (.tmp 0), (some (14, true))⟩,
 ⟨some 16, .move (.tmp 1), (some (14, true))⟩,
 ⟨some 17, .idxStr (.tmp 15) (.tmp 16), (some (14, true))⟩,
 ⟨some 18, .call true (.const (.fn 358 [])) [(.tmp 17)] [], (some (14, true))⟩,
 ⟨some 19, .pick (.tmp 14) (.tmp 18) (.const (.bool false)), none⟩])
 (.cond (.tmp 19)
 .skip
 (.exit 0)))
 (.block 1
 (.seq
 (.seq
 (.region false [
 ⟨some 20, .move (.tmp 8), none⟩,
 ⟨some 21, .bin 0 .leq (.tmp 20) (.const (.int .i64 1099511627776)), none⟩])
 (.cond (.tmp 21)
 (.region false [
 ⟨some 22, .move (.tmp 8), none⟩,
 ⟨some 23, .bin 0 .mul (.tmp 22) (.const (.int .i64 10)), none⟩,
 ⟨some 24, .move (.tmp 0), none⟩,
 ⟨some 25, .move (.tmp 1), none⟩,
 ⟨some 26, .idxStr (.tmp 24) (.tmp 25), none⟩,
 ⟨some 27, .bin 0 .sub (.tmp 26) (.const (.int .u8 48)), none⟩,
 ⟨some 28, .conv .i64 (.tmp 27), none⟩,
 ⟨some 29, .bin 0 .add (.tmp 23) (.tmp 28), none⟩,
 ⟨some 8, .assign (.tmp 29), none⟩])
 .skip))
 (.region false [
 ⟨some 30, .move (.tmp 1), none⟩,
 ⟨some 31, .bin 0 .add (.tmp 30) (.const (.int .i64 1)), none⟩,
 ⟨some 1, .assign (.tmp 31), none⟩]))))))
 (.seq
 (.region true [
 ⟨some 32, .move (.tmp 1), none⟩,
 ⟨some 33, .move (.tmp 8), none⟩,
 ⟨some 34, .move (.tmp 8), none⟩,
 ⟨some 35, .bin 0 .leq (.tmp 34) (.const (.int .i64 1099511627776)), none⟩,
 ⟨some 36, .move (.tmp 35), none⟩,
 ⟨some 37, .move (.tmp 1), (some (36, true))⟩,
 ⟨some 38, .move (.tmp 7), (some (36, true))⟩,
 ⟨some 39, .bin 0 .add (.tmp 38) (.const (.int .i64 1)), (some (36, true))⟩,
 ⟨some 40, .bin 0 .leq (.tmp 37) (.tmp 39), (some (36, true))⟩,
 ⟨some 41, .move (.tmp 40), (some (36, true))⟩,
 ⟨some 42, .move (.tmp 0), (some (41, false))⟩,
 ⟨some 43, .move (.tmp 7), (some (41, false))⟩,
 ⟨some 44, .idxStr (.tmp 42) (.tmp 43), (some (41, false))⟩,
 ⟨some 45, .bin 0 .neq (.tmp 44) (.const (.int .u8 48)), (some (41, false))⟩,
 ⟨some 46, .pick (.tmp 41) (.const (.bool true)) (.tmp 45), (some (36, true))⟩,
 ⟨some 47, .pick (.tmp 36) (.tmp 46) (.const (.bool false)), none⟩,
 ⟨some 4, .move (.tmp 32), none⟩,
 ⟨some 5, .move (.tmp 33), none⟩,
 ⟨some 6, .assign (.tmp 47), none⟩])
 .ret))))) }
/-- purlin/purlinref02.global -/
def tf360 : TFn := { ntmps := 70, results := [.cell 4 true 5, .tmp 5, .tmp 6], body :=
 (.seq
 (.region false [
 ⟨some 4, .box 5 (.const (.agg [.int .i64 0, .str ⟨#[]⟩, .int .i64 0, .int .i64 0, .int .i64 0])), none⟩,
 ⟨some 5, .assign (.const (.int .i64 0)), none⟩,
 ⟨some 6, .assign (.const (.int .i64 0)), none⟩])
 (.seq
 (.region false [
 ⟨some 14, .move (.tmp 0), none⟩,
 ⟨some 15, .move (.tmp 1), none⟩,
 ⟨some 16, .bin 0 .add (.tmp 15) (.const (.int .i64 1)), none⟩,
 ⟨some 17, .call true (.const (.fn 359 [])) [(.tmp 14), (.tmp 16)] [], none⟩,
 ⟨some 13, .move (.tmp 17), none⟩,
 ⟨some 18, .extract (.tmp 13) 0, none⟩,
 ⟨some 19, .extract (.tmp 13) 1, none⟩,
 ⟨some 20, .extract (.tmp 13) 2, none⟩,
 ⟨some 7, .assign (.tmp 18), none⟩,
 ⟨some 8, .assign (.tmp 19), none⟩,
 ⟨some 9, .assign (.tmp 20), none⟩])
 (.seq
 (.seq
 (.region false [
 ⟨some 21, .move (.tmp 7), none⟩,
 ⟨some 22, .move (.tmp 1), none⟩,
 ⟨some 23, .bin 0 .add (.tmp 22) (.const (.int .i64 1)), none⟩,
 ⟨some 24, .bin 0 .eql (.tmp 21) (.tmp 23), none⟩,
 ⟨some 25, .move (.tmp 24), none⟩,
 ⟨some 26, .move (.tmp 7), (some (25, false))⟩,
 ⟨some 27, .move (.tmp 0), (some (25, false))⟩,
 ⟨some 28, .len true (.tmp 27), (some (25, false))⟩,
 ⟨some 29, .bin 0 .eql (.tmp 26) (.tmp 28), (some (25, false))⟩,
 ⟨some 30, .pick (.tmp 25) (.const (.bool true)) (.tmp 29), none⟩,
 ⟨some 31, .move (.tmp 30), none⟩,
 ⟨some 32, .move (.tmp 0), (some (31, false))⟩,
 ⟨some 33, .move (.tmp 7), (some (31, false))⟩,
 ⟨some 34, .idxStr (.tmp 32) (.tmp 33), (some (31, false))⟩,
 ⟨some 35, .bin 0 .neq (.tmp 34) (.const (.int .u8 95)), (some (31, false))⟩,
 ⟨some 36, .pick (.tmp 31) (.const (.bool true)) (.tmp 35), none⟩])
 (.cond (.tmp 36)
 (.seq
 (.region false [
 ⟨some 37, .build [.int .i64 0, .str ⟨#[]⟩, .int .i64 0, .int .i64 0, .int .i64 0] [], none⟩,
 ⟨some 38, .move (.tmp 1), none⟩,
 ⟨none, .store 5 (.tmp 4) (.tmp 37), none⟩,
 ⟨some 5, .assign (.tmp 38), none⟩,
 ⟨some 6, .assign (.const (.int .i64 20)), none⟩])
 .ret)
 .skip))
 (.seq
 (.region false [
 ⟨some 40, .move (.tmp 0), none⟩,
 ⟨some 41, .move (.tmp 7), none⟩,
 ⟨some 42, .bin 0 .add (.tmp 41) (.const (.int .i64 1)), none⟩,
 ⟨some 43, .call true (.const (.fn 359 [])) [(.tmp 40), (.tmp 42)] [], none⟩,
 ⟨some 39, .move (.tmp 43), none⟩,
 ⟨some 44, .extract (.tmp 39) 0, none⟩,
 ⟨some 45, .extract (.tmp 39) 1, none⟩,
 ⟨some 46, .extract (.tmp 39) 2, none⟩,
 ⟨some 10, .assign (.tmp 44), none⟩,
 ⟨some 11, .assign (.tmp 45), none⟩,
 ⟨some 12, .assign (.tmp 46), none⟩])
 (.seq
 (.seq
 (.region false [
 ⟨some 47, .move (.tmp 10), none⟩,
 ⟨some 48, .move (.tmp 7), none⟩,
 ⟨some 49, .bin 0 .add (.tmp 48) (.const (.int .i64 1)), none⟩,
 ⟨some 50, .bin 0 .eql (.tmp 47) (.tmp 49), none⟩])
 (.cond (.tmp 50)
 (.seq
 (.region false [
 ⟨some 51, .build [.int .i64 0, .str ⟨#[]⟩, .int .i64 0, .int .i64 0, .int .i64 0] [], none⟩,
 ⟨some 52, .move (.tmp 1), none⟩,
 ⟨none, .store 5 (.tmp 4) (.tmp 51), none⟩,
 ⟨some 5, .assign (.tmp 52), none⟩,
 ⟨some 6, .assign (.const (.int .i64 20)), none⟩])
 .ret)
 .skip))
 (.seq
 (.seq
 (.region false [
 ⟨some 53, .move (.tmp 9), none⟩,
 ⟨some 54, .un .not (.tmp 53), none⟩,
 ⟨some 55, .move (.tmp 54), none⟩,
 ⟨some 56, .move (.tmp 12), (some (55, false))⟩,
 ⟨some 57, .un .not (.tmp 56), (some (55, false))⟩,
 ⟨some 58, .pick (.tmp 55) (.const (.bool true)) (.tmp 57), none⟩])
 (.cond (.tmp 58)
 (.seq
 (.region false [
 ⟨some 59, .build [.int .i64 0, .str ⟨#[]⟩, .int .i64 0, .int .i64 0, .int .i64 0] [], none⟩,
 ⟨some 60, .move (.tmp 1), none⟩,
 ⟨none, .store 5 (.tmp 4) (.tmp 59), none⟩,
 ⟨some 5, .assign (.tmp 60), none⟩,
 ⟨some 6, .assign (.const (.int .i64 21)), none⟩])
 .ret)
 .skip))
 (.seq
 (.region false [
 ⟨some 61, .move (.tmp 0), none⟩,
 ⟨some 62, .move (.tmp 1), none⟩,
 ⟨some 63, .move (.tmp 10), none⟩,
 ⟨some 64, .sliceStr (.tmp 61) (some (.tmp 62)) (some (.tmp 63)), none⟩,
 ⟨some 65, .move (.tmp 11), none⟩,
 ⟨some 66, .move (.tmp 8), none⟩,
 ⟨some 67, .move (.tmp 1), none⟩,
 ⟨some 68, .build [.int .i64 0, .str ⟨#[]⟩, .int .i64 0, .int .i64 0, .int .i64 0] [(0, 1, (.const (.int .i64 4))), (1, 1, (.tmp 64)), (2, 1, (.tmp 65)), (3, 1, (.tmp 66)), (4, 1, (.tmp 67))], none⟩,
 ⟨some 69, .move (.tmp 10), none⟩,
 ⟨none, .store 5 (.tmp 4) (.tmp 68), none⟩,
 ⟨some 5, .assign (.tmp 69), none⟩,
 ⟨some 6, .assign (.const (.int .i64 0)), none⟩])
 .ret))))))) }
/-- purlin/purlinref02.signs -/
def tf361 : TFn := { ntmps := 2, results := [.tmp 0], body :=
 (.seq
 (.region false [
 ⟨some 0, .assign (.const (.sl true 0 1 [] [])), none⟩])
 (.seq
 (.region false [
 ⟨some 1, .buildSlice 18 1 [.str ⟨#[]⟩] [(0, (.const (.str ⟨#[61, 58, 61]⟩))), (1, (.const (.str ⟨#[61, 92, 61]⟩))), (2, (.const (.str ⟨#[58, 45]⟩))), (3, (.const (.str ⟨#[58, 61]⟩))), (4, (.const (.str ⟨#[61, 60]⟩))), (5, (.const (.str ⟨#[62, 61]⟩))), (6, (.const (.str ⟨#[40]⟩))), (7, (.const (.str ⟨#[41]⟩))), (8, (.const (.str ⟨#[44]⟩))), (9, (.const (.str ⟨#[46]⟩))), (10, (.const (.str ⟨#[124]⟩))), (11, (.const (.str ⟨#[64]⟩))), (12, (.const (.str ⟨#[61]⟩))), (13, (.const (.str ⟨#[43]⟩))), (14, (.const (.str ⟨#[45]⟩))), (15, (.const (.str ⟨#[42]⟩))), (16, (.const (.str ⟨#[60]⟩))), (17, (.const (.str ⟨#[62]⟩)))], none⟩,
 ⟨some 0, .assign (.tmp 1), none⟩])
 .ret)) }
/-- slices.Contains[[]purlin/lex.Kind,purlin/lex.Kind] -/
def tf365 : TFn := { ntmps := 9, results := [.tmp 4], body :=
 (.seq
 (.region false [
 ⟨some 4, .assign (.const (.bool false)), none⟩])
 (.seq
 (.region false [
 ⟨some 5, .move (.tmp 0), none⟩,
 ⟨some 6, .move (.tmp 1), none⟩,
 ⟨some 7, .call true (.const (.fn 374 [])) [(.tmp 5), (.tmp 6)] [], none⟩,
 ⟨some 8, .bin 0 .geq (.tmp 7) (.const (.int .i64 0)), none⟩,
 ⟨some 4, .assign (.tmp 8), none⟩])
 .ret)) }
/-- purlin/lex.walk$1 -/
def tf366 : TFn := { ntmps := 33, results := [], body :=
 (.seq
 (.region false [
 ⟨some 3, .assign (.const (.int .i64 0)), none⟩])
 (.block 0
 (.loop [0, 1, 3]
 (.block 1
 (.seq
 (.region false [
 ⟨some 8, .load false 1 (.tmp 1), none⟩,
 ⟨some 9, .move (.tmp 3), none⟩,
 ⟨some 10, .call true (.const (.fn 339 [])) [(.tmp 8), (.tmp 9)] [], none⟩,
 ⟨some 7, .move (.tmp 10), none⟩,
 ⟨some 11, .extract (.tmp 7) 0, none⟩,
 ⟨some 12, .extract (.tmp 7) 1, none⟩,
 ⟨some 13, .extract (.tmp 7) 2, none⟩,
 ⟨some 4, .box 5 (.const (.agg [.int .u8 0, .str ⟨#[]⟩, .int .i64 0, .int .i64 0, .int .i64 0])), none⟩,
 ⟨none, .store 5 (.tmp 4) (.tmp 11), none⟩,
 ⟨some 5, .assign (.tmp 12), none⟩,
 ⟨some 6, .assign (.tmp 13), none⟩])
 (.seq
 (.seq
 (.region false [
 ⟨some 14, .move (.tmp 6), none⟩,
 ⟨some 15, .bin 0 .neq (.tmp 14) (.const (.int .i64 0)), none⟩])
 (.cond (.tmp 15)
 (.region false [
 ⟨some 16, .move (.tmp 5), none⟩,
 ⟨some 17, .faddr (.tmp 4) 4, none⟩,
 ⟨none, .store 1 (.tmp 17) (.tmp 16), none⟩])
 .skip))
 (.seq
 (.seq
 (.region false [
 ⟨some 18, .move (.tmp 0), none⟩,
 ⟨some 19, .load true 5 (.tmp 4), none⟩,
 ⟨some 20, .move (.tmp 6), none⟩,
 ⟨some 21, .call false (.tmp 18) [(.tmp 19), (.tmp 20)] [], none⟩,
 ⟨some 22, .un .not (.tmp 21), none⟩,
 ⟨some 23, .move (.tmp 22), none⟩,
 ⟨some 24, .move (.tmp 6), (some (23, false))⟩,
 ⟨some 25, .bin 0 .neq (.tmp 24) (.const (.int .i64 0)), (some (23, false))⟩,
 ⟨some 26, .pick (.tmp 23) (.const (.bool true)) (.tmp 25), none⟩,
 ⟨some 27, .move (.tmp 26), none⟩,
 ⟨some 28, .faddr (.tmp 4) 0, (some (27, false))⟩,
 ⟨some 29, .load false 1 (.tmp 28), (some (27, false))⟩,
 ⟨some 30, .bin 0 .eql (.tmp 29) (.const (.int .u8 0)), (some (27, false))⟩,
 ⟨some 31, .pick (.tmp 27) (.const (.bool true)) (.tmp 30), none⟩])
 (.cond (.tmp 31)
 .ret
 .skip))
 (.region false [
 ⟨some 32, .move (.tmp 5), none⟩,
 ⟨some 3, .assign (.tmp 32), none⟩])))))))) }
/-- purlin/lex.skip$1 -/
def tf367 : TFn := { ntmps := 5, results := [.tmp 2], body :=
 (.seq
 (.region false [
 ⟨some 2, .assign (.const (.bool false)), none⟩])
 (.seq
 (.region false [
 ⟨some 3, .move (.tmp 0), none⟩,
 ⟨some 4, .bin 0 .neq (.tmp 3) (.const (.int .u8 10)), none⟩,
 ⟨some 2, .assign (.tmp 4), none⟩])
 .ret)) }
/-- internal/stringslite.HasPrefix -/
def tf369 : TFn := { ntmps := 18, results := [.tmp 4], body :=
 (.seq
 (.region false [
 ⟨some 4, .assign (.const (.bool false)), none⟩])
 (.seq
 (.region false [
 ⟨some 5, .move (.tmp 0), none⟩,
 ⟨some 6, .len true (.tmp 5), none⟩,
 ⟨some 7, .move (.tmp 1), none⟩,
 ⟨some 8, .len true (.tmp 7), none⟩,
 ⟨some 9, .bin 0 .geq (.tmp 6) (.tmp 8), none⟩,
 ⟨some 10, .move (.tmp 9), none⟩,
 ⟨some 11, .move (.tmp 0), (some (10, true))⟩,
 ⟨some 12, .move (.tmp 1), (some (10, true))⟩,
 ⟨some 13, .len true (.tmp 12), (some (10, true))⟩,
 ⟨some 14, .sliceStr (.tmp 11) none (some (.tmp 13)), (some (10, true))⟩,
 ⟨some 15, .move (.tmp 1), (some (10, true))⟩,
 ⟨some 16, .bin 0 .eql (.tmp 14) (.tmp 15), (some (10, true))⟩,
 ⟨some 17, .pick (.tmp 10) (.tmp 16) (.const (.bool false)), none⟩,
 ⟨some 4, .assign (.tmp 17), none⟩])
 .ret)) }
/-- slices.Index[[]purlin/lex.Kind,purlin/lex.Kind] -/
def tf374 : TFn := { ntmps := 19, results := [.tmp 4], body :=
 (.seq
 (.region false [
 ⟨some 4, .assign (.const (.int .i64 0)), none⟩])
 (.seq
 (.seq
 (.region false [
 ⟨some 6, .move (.tmp 0), none⟩,
 ⟨some 7, .len false (.tmp 6), none⟩,
 ⟨some 8, .move (.const (.int .i64 0)), none⟩])
 (.block 0
 (.loop [0, 1, 7, 8]
 (.seq
 (.region false [
 ⟨some 9, .bin 0 .lss (.tmp 8) (.tmp 7), none⟩])
 (.seq
 (.cond (.tmp 9)
 .skip
 (.exit 0))
 (.seq
 (.block 1
 (.seq
 (.region false [
 ⟨some 10, .move (.tmp 8), none⟩,
 ⟨some 5, .assign (.tmp 10), none⟩])
 (.seq
 (.region false [
 ⟨some 11, .move (.tmp 1), none⟩,
 ⟨some 12, .move (.tmp 0), none⟩,
 ⟨some 13, .move (.tmp 5), none⟩,
 ⟨some 14, .idxAddr (.tmp 12) (.tmp 13) 1, none⟩,
 ⟨some 15, .load false 1 (.tmp 14), none⟩,
 ⟨some 16, .bin 0 .eql (.tmp 11) (.tmp 15), none⟩])
 (.cond (.tmp 16)
 (.seq
 (.region false [
 ⟨some 17, .move (.tmp 5), none⟩,
 ⟨some 4, .assign (.tmp 17), none⟩])
 .ret)
 .skip))))
 (.region false [
 ⟨some 18, .bin 0 .add (.tmp 8) (.const (.int .i64 1)), none⟩,
 ⟨some 8, .move (.tmp 18), none⟩])))))))
 (.seq
 (.region false [
 ⟨some 4, .assign (.const (.int .i64 (-1))), none⟩])
 .ret))) }
def lp2 : List Nat × TCode × TCode := ([10, 11],
 (.seq
 (.region false [
 ⟨some 6, .box 5 (.const (.agg [.int .u8 0, .str ⟨#[]⟩, .int .i64 0, .int .i64 0, .int .i64 0])), none⟩,
 ⟨none, .store 5 (.tmp 6) (.tmp 10), none⟩])
 (.region false [
 ⟨some 7, .assign (.tmp 11), none⟩])),
 (.block 1
 (.seq
 (.seq
 (.region false [
 ⟨some 12, .move (.tmp 7), none⟩,
 ⟨some 13, .bin 0 .neq (.tmp 12) (.const (.int .i64 0)), none⟩])
 (.cond (.tmp 13)
 (.seq
 (.region true [
 ⟨some 14, .move (.tmp 7), none⟩,
 ⟨some 15, .faddr (.tmp 6) 4, none⟩,
 ⟨some 16, .loadR (some 6) false 1 (.tmp 15), none⟩,
 ⟨none, .storeR none 1 (.tmp 2) (.const (.sl true 0 5 [] [])), none⟩,
 ⟨none, .storeR none 1 (.tmp 3) (.tmp 14), none⟩,
 ⟨none, .store 1 (.tmp 4) (.tmp 16), none⟩])
 .ret)
 .skip))
 (.region false [
 ⟨some 17, .load false 1 (.tmp 5), none⟩,
 ⟨some 18, .load true 5 (.tmp 6), none⟩,
 ⟨some 19, .buildSlice 1 5 [.int .u8 0, .str ⟨#[]⟩, .int .i64 0, .int .i64 0, .int .i64 0] [(0, (.tmp 18))], none⟩,
 ⟨some 20, .append 5 48 (.tmp 17) (.tmp 19), none⟩,
 ⟨none, .store 1 (.tmp 5) (.tmp 20), none⟩]))))
def fnTable2 : List (Nat × TFn) := [(604, tf604), (605, tf605), (606, tf606), (335, tf335), (336, tf336), (337, tf337), (339, tf339), (340, tf340), (341, tf341), (342, tf342), (343, tf343), (344, tf344), (345, tf345), (346, tf346), (607, tf607), (347, tf347), (351, tf351), (348, tf348), (352, tf352), (349, tf349), (350, tf350), (354, tf354), (608, tf608), (355, tf355), (356, tf356), (357, tf357), (358, tf358), (359, tf359), (360, tf360), (361, tf361), (365, tf365), (366, tf366), (367, tf367), (369, tf369), (374, tf374)]
def nuTable2 : List (Nat × Nat) := [(3, 601), (4, 602), (5, 603), (6, 604), (7, 605), (8, 606), (9, 335), (10, 336), (11, 337), (12, 338), (13, 339), (14, 340), (15, 341), (16, 342), (17, 343), (18, 344), (19, 345), (20, 346), (21, 607), (22, 347), (23, 351), (24, 348), (25, 352), (26, 353), (27, 349), (28, 350), (29, 354), (30, 608), (31, 355), (32, 356), (33, 357), (34, 358), (35, 359), (36, 360), (37, 361), (38, 362), (39, 363), (40, 364), (41, 365), (42, 366), (43, 367), (45, 369), (53, 374)]
def lpTable2 : List (Nat × List Nat × TCode × TCode) := [(2, lp2)]
def eqTable2 : List (Nat × Nat) := [(345102, 33)]
end Tree
