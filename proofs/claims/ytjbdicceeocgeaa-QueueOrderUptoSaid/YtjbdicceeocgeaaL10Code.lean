/- Layer 10: the program's functions as E-code. -/
import Derived.Test.YtjbdicceeocgeaaTE
set_option autoImplicit false
namespace Tree
open Go
/-- purlin/purlinlaw10.live -/
def tf145 : TFn := { ntmps := 75, results := [.tmp 0], body :=
 (.seq
 (.region false [
 ⟨some 0, .assign (.const (.bool false)), none⟩])
 (.seq
 (.region false [
 ⟨some 9, .call false (.const (.fn 146 [])) [] [], none⟩,
 ⟨some 1, .assign (.tmp 9), none⟩])
 (.seq
 (.region false [
 ⟨some 10, .build [.int .i64 0, .int .i64 0] [(1, 1, (.const (.int .i64 1)))], none⟩,
 ⟨some 2, .box 2 (.const (.agg [.int .i64 0, .int .i64 0])), none⟩,
 ⟨none, .store 2 (.tmp 2) (.tmp 10), none⟩])
 (.seq
 (.region false [
 ⟨some 11, .build [.int .i64 0, .int .i64 0] [(1, 1, (.const (.int .i64 2)))], none⟩,
 ⟨some 3, .box 2 (.const (.agg [.int .i64 0, .int .i64 0])), none⟩,
 ⟨none, .store 2 (.tmp 3) (.tmp 11), none⟩])
 (.seq
 (.seq
 (.region true [
 ⟨some 12, .move (.tmp 1), none⟩,
 ⟨some 13, .call true (.const (.fn 170 [])) [(.const (.int .i64 1))] [], none⟩,
 ⟨some 14, .call true (.const (.fn 170 [])) [(.const (.int .i64 2))] [], none⟩,
 ⟨some 15, .buildSlice 2 3 [.int .i64 0, .int .i64 0, .sl true 0 5 [] []] [(0, (.tmp 13)), (1, (.tmp 14))], none⟩,
 ⟨some 16, .call false (.const (.fn 147 [])) [(.tmp 12), (.tmp 15)] [], none⟩,
 ⟨some 17, .bin 0 .neq (.tmp 16) (.const (.int .i64 0)), none⟩,
 ⟨some 18, .move (.tmp 17), none⟩,
 ⟨some 19, .move (.tmp 1), (some (18, false))⟩,
 ⟨some 20, .call true (.const (.fn 170 [])) [(.const (.int .i64 3))] [], (some (18, false))⟩,
 ⟨some 21, .load true 2 (.tmp 2), (some (18, false))⟩,
 ⟨some 22, .load true 2 (.tmp 3), (some (18, false))⟩,
 ⟨some 23, .buildSlice 2 2 [.int .i64 0, .int .i64 0] [(0, (.tmp 21)), (1, (.tmp 22))], (some (18, false))⟩,
 ⟨some 24, .call false (.const (.fn 148 [])) [(.tmp 19), (.tmp 20), (.tmp 23)] [], (some (18, false))⟩,
 ⟨some 25, .bin 0 .neq (.tmp 24) (.const (.int .i64 0)), (some (18, false))⟩,
 ⟨some 26, .pick (.tmp 18) (.const (.bool true)) (.tmp 25), none⟩,
 ⟨some 27, .move (.tmp 26), none⟩,
 ⟨some 28, .move (.tmp 1), (some (27, false))⟩,
 ⟨some 29, .call true (.const (.fn 170 [])) [(.const (.int .i64 4))] [], (some (27, false))⟩,
 ⟨some 30, .call false (.const (.fn 148 [])) [(.tmp 28), (.tmp 29), (.const (.sl true 0 2 [] []))] [], (some (27, false))⟩,
 ⟨some 31, .bin 0 .neq (.tmp 30) (.const (.int .i64 4)), (some (27, false))⟩,
 ⟨some 32, .pick (.tmp 27) (.const (.bool true)) (.tmp 31), none⟩])
 (.cond (.tmp 32)
 (.seq
 (.region false [
 ⟨some 0, .assign (.const (.bool false)), none⟩])
 .ret)
 .skip))
 (.seq
 (.region false [
 ⟨some 33, .move (.tmp 1), none⟩,
 ⟨some 34, .load true 2 (.tmp 3), none⟩,
 ⟨some 35, .buildSlice 1 2 [.int .i64 0, .int .i64 0] [(0, (.tmp 34))], none⟩,
 ⟨some 36, .call false (.const (.fn 149 [])) [(.tmp 33), (.tmp 35)] [], none⟩,
 ⟨some 4, .assign (.tmp 36), none⟩])
 (.seq
 (.region false [
 ⟨some 38, .move (.tmp 1), none⟩,
 ⟨some 39, .call false (.const (.fn 152 [])) [(.tmp 38)] [], none⟩,
 ⟨some 37, .move (.tmp 39), none⟩,
 ⟨some 40, .extract (.tmp 37) 0, none⟩,
 ⟨some 41, .extract (.tmp 37) 1, none⟩,
 ⟨some 5, .box 3 (.const (.agg [.int .i64 0, .int .i64 0, .sl true 0 5 [] []])), none⟩,
 ⟨none, .store 3 (.tmp 5) (.tmp 40), none⟩,
 ⟨some 6, .assign (.tmp 41), none⟩])
 (.seq
 (.region false [
 ⟨some 43, .move (.tmp 1), none⟩,
 ⟨some 44, .call true (.const (.fn 156 [])) [(.tmp 43)] [], none⟩,
 ⟨some 42, .move (.tmp 44), none⟩,
 ⟨some 45, .extract (.tmp 42) 0, none⟩,
 ⟨some 46, .extract (.tmp 42) 1, none⟩,
 ⟨some 7, .assign (.tmp 45), none⟩,
 ⟨some 8, .assign (.tmp 46), none⟩])
 (.seq
 (.region false [
 ⟨some 47, .move (.tmp 4), none⟩,
 ⟨some 48, .len false (.tmp 47), none⟩,
 ⟨some 49, .bin 0 .eql (.tmp 48) (.const (.int .i64 1)), none⟩,
 ⟨some 50, .move (.tmp 49), none⟩,
 ⟨some 51, .move (.tmp 4), (some (50, true))⟩,
 ⟨some 52, .idxAddr (.tmp 51) (.const (.int .i64 0)) 3, (some (50, true))⟩,
 ⟨some 53, .faddr (.tmp 52) 0, (some (50, true))⟩,
 ⟨some 54, .faddr (.tmp 53) 1, (some (50, true))⟩,
 ⟨some 55, .load false 1 (.tmp 54), (some (50, true))⟩,
 ⟨some 56, .bin 0 .eql (.tmp 55) (.const (.int .i64 3)), (some (50, true))⟩,
 ⟨some 57, .pick (.tmp 50) (.tmp 56) (.const (.bool false)), none⟩,
 ⟨some 58, .move (.tmp 57), none⟩,
 ⟨some 59, .move (.tmp 6), (some (58, true))⟩,
 ⟨some 60, .pick (.tmp 58) (.tmp 59) (.const (.bool false)), none⟩,
 ⟨some 61, .move (.tmp 60), none⟩,
 ⟨some 62, .faddr (.tmp 5) 0, (some (61, true))⟩,
 ⟨some 63, .faddr (.tmp 62) 1, (some (61, true))⟩,
 ⟨some 64, .load false 1 (.tmp 63), (some (61, true))⟩,
 ⟨some 65, .bin 0 .eql (.tmp 64) (.const (.int .i64 1)), (some (61, true))⟩,
 ⟨some 66, .pick (.tmp 61) (.tmp 65) (.const (.bool false)), none⟩,
 ⟨some 67, .move (.tmp 66), none⟩,
 ⟨some 68, .move (.tmp 7), (some (67, true))⟩,
 ⟨some 69, .bin 0 .eql (.tmp 68) (.const (.int .i64 2)), (some (67, true))⟩,
 ⟨some 70, .pick (.tmp 67) (.tmp 69) (.const (.bool false)), none⟩,
 ⟨some 71, .move (.tmp 70), none⟩,
 ⟨some 72, .move (.tmp 8), (some (71, true))⟩,
 ⟨some 73, .bin 0 .eql (.tmp 72) (.const (.int .i64 0)), (some (71, true))⟩,
 ⟨some 74, .pick (.tmp 71) (.tmp 73) (.const (.bool false)), none⟩,
 ⟨some 0, .assign (.tmp 74), none⟩])
 .ret))))))))) }
/-- purlin/queue.New -/
def tf146 : TFn := { ntmps := 3, results := [.tmp 0], body :=
 (.seq
 (.region false [
 ⟨some 0, .assign (.const .nilptr), none⟩])
 (.seq
 (.region false [
 ⟨some 1, .build [.sl true 0 3 [] [], .sl true 0 4 [] []] [], none⟩,
 ⟨some 2, .new 2 (.tmp 1), none⟩,
 ⟨some 0, .assign (.tmp 2), none⟩])
 .ret)) }
/-- (*purlin/queue.Queue).Put -/
def tf147 : TFn := { ntmps := 17, results := [.tmp 4], body :=
 (.seq
 (.region false [
 ⟨some 4, .assign (.const (.int .i64 0)), none⟩])
 (.seq
 (.seq
 (.region false [
 ⟨some 5, .move (.tmp 0), none⟩,
 ⟨some 6, .bin 2 .eql (.tmp 5) (.const .nilptr), none⟩])
 (.cond (.tmp 6)
 (.seq
 (.region false [
 ⟨some 4, .assign (.const (.int .i64 1)), none⟩])
 .ret)
 .skip))
 (.seq
 (.region true [
 ⟨some 7, .move (.tmp 0), none⟩,
 ⟨some 8, .move (.tmp 0), none⟩,
 ⟨some 9, .nilCheck (.tmp 8), none⟩,
 ⟨some 10, .faddr (.tmp 9) 0, none⟩,
 ⟨some 11, .load false 1 (.tmp 10), none⟩,
 ⟨some 12, .move (.tmp 1), none⟩,
 ⟨some 13, .call true (.const (.fn 171 [])) [(.tmp 12)] [], none⟩,
 ⟨some 14, .append 3 40 (.tmp 11) (.tmp 13), none⟩,
 ⟨some 15, .nilCheck (.tmp 7), none⟩,
 ⟨some 16, .faddr (.tmp 15) 0, none⟩,
 ⟨none, .store 1 (.tmp 16) (.tmp 14), none⟩])
 (.seq
 (.region false [
 ⟨some 4, .assign (.const (.int .i64 0)), none⟩])
 .ret)))) }
/-- (*purlin/queue.Queue).Wait -/
def tf148 : TFn := { ntmps := 48, results := [.tmp 6], body :=
 (.seq
 (.region false [
 ⟨some 4, .box 3 (.tmp 1), none⟩,
 ⟨some 6, .assign (.const (.int .i64 0)), none⟩])
 (.seq
 (.block 0
 (.seq
 (.region false [
 ⟨some 11, .move (.tmp 0), none⟩,
 ⟨some 12, .bin 2 .eql (.tmp 11) (.const .nilptr), none⟩,
 ⟨some 10, .assign (.tmp 12), none⟩])
 (.cond (.tmp 10)
 (.seq
 (.region false [
 ⟨some 6, .assign (.const (.int .i64 1)), none⟩])
 .ret)
 (.seq
 (.region false [
 ⟨some 14, .move (.tmp 2), none⟩,
 ⟨some 15, .len false (.tmp 14), none⟩,
 ⟨some 16, .bin 0 .eql (.tmp 15) (.const (.int .i64 0)), none⟩,
 ⟨some 13, .assign (.tmp 16), none⟩])
 (.cond (.tmp 13)
 (.seq
 (.region false [
 ⟨some 6, .assign (.const (.int .i64 4)), none⟩])
 .ret)
 .skip)))))
 (.seq
 (.region false [
 ⟨some 17, .load true 3 (.tmp 4), none⟩,
 ⟨some 18, .call true (.const (.fn 172 [])) [(.tmp 17)] [], none⟩,
 ⟨some 19, .build [.int .i64 0, .int .i64 0, .sl true 0 5 [] [], .sl true 0 2 [] []] [(0, 3, (.tmp 18))], none⟩,
 ⟨some 7, .box 4 (.const (.agg [.int .i64 0, .int .i64 0, .sl true 0 5 [] [], .sl true 0 2 [] []])), none⟩,
 ⟨none, .store 4 (.tmp 7) (.tmp 19), none⟩])
 (.seq
 (.seq
 (.region false [
 ⟨some 20, .move (.tmp 2), none⟩,
 ⟨some 21, .len false (.tmp 20), none⟩,
 ⟨some 22, .move (.const (.int .i64 0)), none⟩])
 (.block 1
 (.loop [0, 7, 20, 21, 22]
 (.seq
 (.region false [
 ⟨some 23, .bin 0 .lss (.tmp 22) (.tmp 21), none⟩])
 (.seq
 (.cond (.tmp 23)
 .skip
 (.exit 1))
 (.seq
 (.block 2
 (.seq
 (.region false [
 ⟨some 24, .idxAddr (.tmp 20) (.tmp 22) 2, none⟩,
 ⟨some 25, .load true 2 (.tmp 24), none⟩,
 ⟨some 9, .box 2 (.const (.agg [.int .i64 0, .int .i64 0])), none⟩,
 ⟨none, .store 2 (.tmp 9) (.tmp 25), none⟩])
 (.seq
 (.region false [
 ⟨some 26, .faddr (.tmp 7) 3, none⟩,
 ⟨some 27, .load false 1 (.tmp 26), none⟩,
 ⟨some 28, .load true 2 (.tmp 9), none⟩,
 ⟨some 29, .call true (.const (.fn 42 [])) [(.tmp 27), (.tmp 28)] [], none⟩,
 ⟨some 30, .un .not (.tmp 29), none⟩])
 (.cond (.tmp 30)
 (.region false [
 ⟨some 31, .faddr (.tmp 7) 3, none⟩,
 ⟨some 32, .load false 1 (.tmp 31), none⟩,
 ⟨some 33, .load true 2 (.tmp 9), none⟩,
 ⟨some 34, .buildSlice 1 2 [.int .i64 0, .int .i64 0] [(0, (.tmp 33))], none⟩,
 ⟨some 35, .append 2 16 (.tmp 32) (.tmp 34), none⟩,
 ⟨some 36, .faddr (.tmp 7) 3, none⟩,
 ⟨none, .store 1 (.tmp 36) (.tmp 35), none⟩])
 .skip))))
 (.region false [
 ⟨some 37, .bin 0 .add (.tmp 22) (.const (.int .i64 1)), none⟩,
 ⟨some 22, .move (.tmp 37), none⟩])))))))
 (.seq
 (.region true [
 ⟨some 38, .move (.tmp 0), none⟩,
 ⟨some 39, .move (.tmp 0), none⟩,
 ⟨some 40, .nilCheck (.tmp 39), none⟩,
 ⟨some 41, .faddr (.tmp 40) 1, none⟩,
 ⟨some 42, .load false 1 (.tmp 41), none⟩,
 ⟨some 43, .load true 4 (.tmp 7), none⟩,
 ⟨some 44, .buildSlice 1 4 [.int .i64 0, .int .i64 0, .sl true 0 5 [] [], .sl true 0 2 [] []] [(0, (.tmp 43))], none⟩,
 ⟨some 45, .append 4 64 (.tmp 42) (.tmp 44), none⟩,
 ⟨some 46, .nilCheck (.tmp 38), none⟩,
 ⟨some 47, .faddr (.tmp 46) 1, none⟩,
 ⟨none, .store 1 (.tmp 47) (.tmp 45), none⟩])
 (.seq
 (.region false [
 ⟨some 6, .assign (.const (.int .i64 0)), none⟩])
 .ret)))))) }
/-- (*purlin/queue.Queue).Wake -/
def tf149 : TFn := { ntmps := 49, results := [.tmp 4], body :=
 (.seq
 (.region false [
 ⟨some 3, .box 1 (.tmp 1), none⟩,
 ⟨some 4, .assign (.const (.sl true 0 3 [] [])), none⟩])
 (.seq
 (.seq
 (.region false [
 ⟨some 9, .move (.tmp 0), none⟩,
 ⟨some 10, .bin 2 .eql (.tmp 9) (.const .nilptr), none⟩])
 (.cond (.tmp 10)
 (.seq
 (.region false [
 ⟨some 4, .assign (.const (.sl true 0 3 [] [])), none⟩])
 .ret)
 .skip))
 (.seq
 (.region false [
 ⟨some 5, .assign (.const (.sl true 0 3 [] [])), none⟩])
 (.seq
 (.region false [
 ⟨some 6, .assign (.const (.sl true 0 4 [] [])), none⟩])
 (.seq
 (.seq
 (.region false [
 ⟨some 11, .move (.tmp 0), none⟩,
 ⟨some 12, .nilCheck (.tmp 11), none⟩,
 ⟨some 13, .faddr (.tmp 12) 1, none⟩,
 ⟨some 14, .load false 1 (.tmp 13), none⟩,
 ⟨some 15, .len false (.tmp 14), none⟩,
 ⟨some 16, .move (.const (.int .i64 0)), none⟩])
 (.block 0
 (.loop [0, 3, 5, 6, 14, 15, 16]
 (.seq
 (.region false [
 ⟨some 17, .bin 0 .lss (.tmp 16) (.tmp 15), none⟩])
 (.seq
 (.cond (.tmp 17)
 .skip
 (.exit 0))
 (.seq
 (.block 1
 (.seq
 (.region false [
 ⟨some 18, .idxAddr (.tmp 14) (.tmp 16) 4, none⟩,
 ⟨some 19, .load true 4 (.tmp 18), none⟩,
 ⟨some 8, .box 4 (.const (.agg [.int .i64 0, .int .i64 0, .sl true 0 5 [] [], .sl true 0 2 [] []])), none⟩,
 ⟨none, .store 4 (.tmp 8) (.tmp 19), none⟩])
 (.seq
 (.region false [
 ⟨some 20, .faddr (.tmp 8) 3, none⟩,
 ⟨some 21, .load false 1 (.tmp 20), none⟩,
 ⟨some 22, .makeFunc 173 [(.tmp 3)], none⟩,
 ⟨some 23, .call true (.const (.fn 174 [])) [(.tmp 21), (.tmp 22)] [], none⟩])
 (.cond (.tmp 23)
 (.region false [
 ⟨some 24, .move (.tmp 5), none⟩,
 ⟨some 25, .faddr (.tmp 8) 0, none⟩,
 ⟨some 26, .load true 3 (.tmp 25), none⟩,
 ⟨some 27, .buildSlice 1 3 [.int .i64 0, .int .i64 0, .sl true 0 5 [] []] [(0, (.tmp 26))], none⟩,
 ⟨some 28, .append 3 40 (.tmp 24) (.tmp 27), none⟩,
 ⟨some 5, .assign (.tmp 28), none⟩])
 (.region false [
 ⟨some 29, .move (.tmp 6), none⟩,
 ⟨some 30, .load true 4 (.tmp 8), none⟩,
 ⟨some 31, .buildSlice 1 4 [.int .i64 0, .int .i64 0, .sl true 0 5 [] [], .sl true 0 2 [] []] [(0, (.tmp 30))], none⟩,
 ⟨some 32, .append 4 64 (.tmp 29) (.tmp 31), none⟩,
 ⟨some 6, .assign (.tmp 32), none⟩])))))
 (.region false [
 ⟨some 33, .bin 0 .add (.tmp 16) (.const (.int .i64 1)), none⟩,
 ⟨some 16, .move (.tmp 33), none⟩])))))))
 (.seq
 (.region false [
 ⟨some 34, .move (.tmp 0), none⟩,
 ⟨some 35, .move (.tmp 6), none⟩,
 ⟨some 36, .nilCheck (.tmp 34), none⟩,
 ⟨some 37, .faddr (.tmp 36) 1, none⟩,
 ⟨none, .store 1 (.tmp 37) (.tmp 35), none⟩])
 (.seq
 (.region false [
 ⟨some 38, .move (.tmp 0), none⟩,
 ⟨some 39, .move (.tmp 0), none⟩,
 ⟨some 40, .nilCheck (.tmp 39), none⟩,
 ⟨some 41, .faddr (.tmp 40) 0, none⟩,
 ⟨some 42, .load false 1 (.tmp 41), none⟩,
 ⟨some 43, .move (.tmp 5), none⟩,
 ⟨some 44, .append 3 40 (.tmp 42) (.tmp 43), none⟩,
 ⟨some 45, .nilCheck (.tmp 38), none⟩,
 ⟨some 46, .faddr (.tmp 45) 0, none⟩,
 ⟨none, .store 1 (.tmp 46) (.tmp 44), none⟩])
 (.seq
 (.region false [
 ⟨some 47, .move (.tmp 5), none⟩,
 ⟨some 48, .call true (.const (.fn 171 [])) [(.tmp 47)] [], none⟩,
 ⟨some 4, .assign (.tmp 48), none⟩])
 .ret)))))))) }
/-- purlin/purlinref10.SameGoals -/
def tf150 : TFn := { ntmps := 27, results := [.tmp 4], body :=
 (.seq
 (.region false [
 ⟨some 4, .assign (.const (.bool false)), none⟩])
 (.seq
 (.seq
 (.region false [
 ⟨some 6, .move (.tmp 0), none⟩,
 ⟨some 7, .len false (.tmp 6), none⟩,
 ⟨some 8, .move (.tmp 1), none⟩,
 ⟨some 9, .len false (.tmp 8), none⟩,
 ⟨some 10, .bin 0 .neq (.tmp 7) (.tmp 9), none⟩])
 (.cond (.tmp 10)
 (.seq
 (.region false [
 ⟨some 4, .assign (.const (.bool false)), none⟩])
 .ret)
 .skip))
 (.seq
 (.seq
 (.region false [
 ⟨some 5, .assign (.const (.int .i64 0)), none⟩])
 (.block 0
 (.loop [0, 1, 5]
 (.seq
 (.seq
 (.region false [
 ⟨some 11, .move (.tmp 5), none⟩,
 ⟨some 12, .move (.tmp 0), none⟩,
 ⟨some 13, .len false (.tmp 12), none⟩,
 ⟨some 14, .bin 0 .lss (.tmp 11) (.tmp 13), none⟩])
 (.cond (.tmp 14)
 .skip
 (.exit 0)))
 (.seq
 (.block 1
 (.seq
 (.region true [
 ⟨some 17, .move (.tmp 0), none⟩,
 ⟨some 18, .move (.tmp 5), none⟩,
 ⟨some 19, .idxAddr (.tmp 17) (.tmp 18) 3, none⟩,
 ⟨some 20, .load true 3 (.tmp 19), none⟩,
 ⟨some 21, .move (.tmp 1), none⟩,
 ⟨some 22, .move (.tmp 5), none⟩,
 ⟨some 23, .idxAddr (.tmp 21) (.tmp 22) 3, none⟩,
 ⟨some 24, .load true 3 (.tmp 23), none⟩,
 ⟨some 25, .call true (.const (.fn 153 [])) [(.tmp 20), (.tmp 24)] [], none⟩,
 ⟨some 26, .un .not (.tmp 25), none⟩])
 (.cond (.tmp 26)
 (.seq
 (.region false [
 ⟨some 4, .assign (.const (.bool false)), none⟩])
 .ret)
 .skip)))
 (.region false [
 ⟨some 15, .move (.tmp 5), none⟩,
 ⟨some 16, .bin 0 .add (.tmp 15) (.const (.int .i64 1)), none⟩,
 ⟨some 5, .assign (.tmp 16), none⟩]))))))
 (.seq
 (.region false [
 ⟨some 4, .assign (.const (.bool true)), none⟩])
 .ret)))) }
/-- (*purlin/queue.Queue).Ready -/
def tf151 : TFn := { ntmps := 10, results := [.tmp 2], body :=
 (.seq
 (.region false [
 ⟨some 2, .assign (.const (.sl true 0 3 [] [])), none⟩])
 (.seq
 (.seq
 (.region false [
 ⟨some 3, .move (.tmp 0), none⟩,
 ⟨some 4, .bin 2 .eql (.tmp 3) (.const .nilptr), none⟩])
 (.cond (.tmp 4)
 (.seq
 (.region false [
 ⟨some 2, .assign (.const (.sl true 0 3 [] [])), none⟩])
 .ret)
 .skip))
 (.seq
 (.region false [
 ⟨some 5, .move (.tmp 0), none⟩,
 ⟨some 6, .nilCheck (.tmp 5), none⟩,
 ⟨some 7, .faddr (.tmp 6) 0, none⟩,
 ⟨some 8, .load false 1 (.tmp 7), none⟩,
 ⟨some 9, .call true (.const (.fn 171 [])) [(.tmp 8)] [], none⟩,
 ⟨some 2, .assign (.tmp 9), none⟩])
 .ret))) }
/-- (*purlin/queue.Queue).Next -/
def tf152 : TFn := { ntmps := 22, results := [.cell 2 true 3, .tmp 3], body :=
 (.seq
 (.region false [
 ⟨some 2, .box 3 (.const (.agg [.int .i64 0, .int .i64 0, .sl true 0 5 [] []])), none⟩,
 ⟨some 3, .assign (.const (.bool false)), none⟩])
 (.seq
 (.region false [
 ⟨some 7, .move (.tmp 0), none⟩,
 ⟨some 8, .call true (.const (.fn 168 [])) [(.tmp 7)] [], none⟩,
 ⟨some 6, .move (.tmp 8), none⟩,
 ⟨some 9, .extract (.tmp 6) 0, none⟩,
 ⟨some 10, .extract (.tmp 6) 1, none⟩,
 ⟨some 4, .box 3 (.const (.agg [.int .i64 0, .int .i64 0, .sl true 0 5 [] []])), none⟩,
 ⟨none, .store 3 (.tmp 4) (.tmp 9), none⟩,
 ⟨some 5, .assign (.tmp 10), none⟩])
 (.seq
 (.seq
 (.region false [
 ⟨some 11, .move (.tmp 5), none⟩])
 (.cond (.tmp 11)
 (.region false [
 ⟨some 12, .move (.tmp 0), none⟩,
 ⟨some 13, .move (.tmp 0), none⟩,
 ⟨some 14, .nilCheck (.tmp 13), none⟩,
 ⟨some 15, .faddr (.tmp 14) 0, none⟩,
 ⟨some 16, .load false 1 (.tmp 15), none⟩,
 ⟨some 17, .slice 3 (.tmp 16) (some (.const (.int .i64 1))) none, none⟩,
 ⟨some 18, .nilCheck (.tmp 12), none⟩,
 ⟨some 19, .faddr (.tmp 18) 0, none⟩,
 ⟨none, .store 1 (.tmp 19) (.tmp 17), none⟩])
 .skip))
 (.seq
 (.region false [
 ⟨some 20, .load true 3 (.tmp 4), none⟩,
 ⟨some 21, .move (.tmp 5), none⟩,
 ⟨none, .store 3 (.tmp 2) (.tmp 20), none⟩,
 ⟨some 3, .assign (.tmp 21), none⟩])
 .ret)))) }
/-- purlin/purlinref10.SameGoal -/
def tf153 : TFn := { ntmps := 17, results := [.tmp 4], body :=
 (.seq
 (.region false [
 ⟨some 2, .box 3 (.tmp 0), none⟩,
 ⟨some 3, .box 3 (.tmp 1), none⟩,
 ⟨some 4, .assign (.const (.bool false)), none⟩])
 (.seq
 (.region false [
 ⟨some 5, .faddr (.tmp 2) 0, none⟩,
 ⟨some 6, .load true 2 (.tmp 5), none⟩,
 ⟨some 7, .faddr (.tmp 3) 0, none⟩,
 ⟨some 8, .load true 2 (.tmp 7), none⟩,
 ⟨some 9, .eqAgg false 5023 (.tmp 6) (.tmp 8), none⟩,
 ⟨some 10, .move (.tmp 9), none⟩,
 ⟨some 11, .faddr (.tmp 2) 2, (some (10, true))⟩,
 ⟨some 12, .load false 1 (.tmp 11), (some (10, true))⟩,
 ⟨some 13, .faddr (.tmp 3) 2, (some (10, true))⟩,
 ⟨some 14, .load false 1 (.tmp 13), (some (10, true))⟩,
 ⟨some 15, .call true (.const (.fn 11 [])) [(.tmp 12), (.tmp 14)] [], (some (10, true))⟩,
 ⟨some 16, .pick (.tmp 10) (.tmp 15) (.const (.bool false)), none⟩,
 ⟨some 4, .assign (.tmp 16), none⟩])
 .ret)) }
/-- purlin/purlinlaw10.run -/
def tf154 : TFn := { ntmps := 76, results := [.tmp 2, .tmp 3], body :=
 (.seq
 (.region false [
 ⟨some 2, .assign (.const .nilptr), none⟩,
 ⟨some 3, .assign (.const (.sl true 0 3 [] [])), none⟩])
 (.seq
 (.region false [
 ⟨some 9, .call false (.const (.fn 146 [])) [] [], none⟩,
 ⟨some 4, .assign (.tmp 9), none⟩])
 (.seq
 (.region false [
 ⟨some 5, .assign (.const (.sl true 0 3 [] [])), none⟩])
 (.seq
 (.seq
 (.region false [
 ⟨some 6, .assign (.const (.int .i64 0)), none⟩])
 (.block 0
 (.loop [0, 4, 5, 6]
 (.seq
 (.seq
 (.region false [
 ⟨some 10, .move (.tmp 6), none⟩,
 ⟨some 11, .move (.tmp 0), none⟩,
 ⟨some 12, .len false (.tmp 11), none⟩,
 ⟨some 13, .bin 0 .lss (.tmp 10) (.tmp 12), none⟩])
 (.cond (.tmp 13)
 .skip
 (.exit 0)))
 (.seq
 (.block 1
 (.seq
 (.region false [
 ⟨some 16, .move (.tmp 0), none⟩,
 ⟨some 17, .move (.tmp 6), none⟩,
 ⟨some 18, .idxAddr (.tmp 16) (.tmp 17) 3, none⟩,
 ⟨some 19, .faddr (.tmp 18) 0, none⟩,
 ⟨some 20, .load false 1 (.tmp 19), none⟩])
 (.block 2
 (.seq
 (.region false [
 ⟨some 22, .bin 0 .eql (.tmp 20) (.const (.int .i64 0)), none⟩,
 ⟨some 21, .assign (.tmp 22), none⟩])
 (.cond (.tmp 21)
 (.region false [
 ⟨some 23, .move (.tmp 4), none⟩,
 ⟨some 24, .move (.tmp 0), none⟩,
 ⟨some 25, .move (.tmp 6), none⟩,
 ⟨some 26, .idxAddr (.tmp 24) (.tmp 25) 3, none⟩,
 ⟨some 27, .faddr (.tmp 26) 1, none⟩,
 ⟨some 28, .load false 1 (.tmp 27), none⟩,
 ⟨some 29, .call false (.const (.fn 147 [])) [(.tmp 23), (.tmp 28)] [], none⟩])
 (.seq
 (.region false [
 ⟨some 31, .bin 0 .eql (.tmp 20) (.const (.int .i64 1)), none⟩,
 ⟨some 30, .assign (.tmp 31), none⟩])
 (.cond (.tmp 30)
 (.seq
 (.region false [
 ⟨some 33, .move (.tmp 4), none⟩,
 ⟨some 34, .call false (.const (.fn 152 [])) [(.tmp 33)] [], none⟩,
 ⟨some 32, .move (.tmp 34), none⟩,
 ⟨some 35, .extract (.tmp 32) 0, none⟩,
 ⟨some 36, .extract (.tmp 32) 1, none⟩,
 ⟨some 7, .box 3 (.const (.agg [.int .i64 0, .int .i64 0, .sl true 0 5 [] []])), none⟩,
 ⟨none, .store 3 (.tmp 7) (.tmp 35), none⟩,
 ⟨some 8, .assign (.tmp 36), none⟩])
 (.seq
 (.region false [
 ⟨some 37, .move (.tmp 8), none⟩])
 (.cond (.tmp 37)
 (.region false [
 ⟨some 38, .move (.tmp 5), none⟩,
 ⟨some 39, .load true 3 (.tmp 7), none⟩,
 ⟨some 40, .buildSlice 1 3 [.int .i64 0, .int .i64 0, .sl true 0 5 [] []] [(0, (.tmp 39))], none⟩,
 ⟨some 41, .append 3 40 (.tmp 38) (.tmp 40), none⟩,
 ⟨some 5, .assign (.tmp 41), none⟩])
 .skip)))
 (.seq
 (.region false [
 ⟨some 43, .bin 0 .eql (.tmp 20) (.const (.int .i64 2)), none⟩,
 ⟨some 42, .assign (.tmp 43), none⟩])
 (.cond (.tmp 42)
 (.seq
 (.region false [
 ⟨some 44, .move (.tmp 0), none⟩,
 ⟨some 45, .move (.tmp 6), none⟩,
 ⟨some 46, .idxAddr (.tmp 44) (.tmp 45) 3, none⟩,
 ⟨some 47, .faddr (.tmp 46) 1, none⟩,
 ⟨some 48, .load false 1 (.tmp 47), none⟩,
 ⟨some 49, .len false (.tmp 48), none⟩,
 ⟨some 50, .bin 0 .gtr (.tmp 49) (.const (.int .i64 0)), none⟩])
 (.cond (.tmp 50)
 (.region true [
 ⟨some 51, .move (.tmp 4), none⟩,
 ⟨some 52, .move (.tmp 0), none⟩,
 ⟨some 53, .move (.tmp 6), none⟩,
 ⟨some 54, .idxAddr (.tmp 52) (.tmp 53) 3, none⟩,
 ⟨some 55, .faddr (.tmp 54) 1, none⟩,
 ⟨some 56, .load false 1 (.tmp 55), none⟩,
 ⟨some 57, .idxAddr (.tmp 56) (.const (.int .i64 0)) 3, none⟩,
 ⟨some 58, .load true 3 (.tmp 57), none⟩,
 ⟨some 59, .move (.tmp 0), none⟩,
 ⟨some 60, .move (.tmp 6), none⟩,
 ⟨some 61, .idxAddr (.tmp 59) (.tmp 60) 3, none⟩,
 ⟨some 62, .faddr (.tmp 61) 2, none⟩,
 ⟨some 63, .load false 1 (.tmp 62), none⟩,
 ⟨some 64, .call false (.const (.fn 148 [])) [(.tmp 51), (.tmp 58), (.tmp 63)] [], none⟩])
 .skip))
 (.seq
 (.region false [
 ⟨some 66, .bin 0 .eql (.tmp 20) (.const (.int .i64 3)), none⟩,
 ⟨some 65, .assign (.tmp 66), none⟩])
 (.cond (.tmp 65)
 (.region false [
 ⟨some 67, .move (.tmp 4), none⟩,
 ⟨some 68, .move (.tmp 0), none⟩,
 ⟨some 69, .move (.tmp 6), none⟩,
 ⟨some 70, .idxAddr (.tmp 68) (.tmp 69) 3, none⟩,
 ⟨some 71, .faddr (.tmp 70) 2, none⟩,
 ⟨some 72, .load false 1 (.tmp 71), none⟩,
 ⟨some 73, .call false (.const (.fn 149 [])) [(.tmp 67), (.tmp 72)] [], none⟩])
 .skip)))))))))))
 (.region false [
 ⟨some 14, .move (.tmp 6), none⟩,
 ⟨some 15, .bin 0 .add (.tmp 14) (.const (.int .i64 1)), none⟩,
 ⟨some 6, .assign (.tmp 15), none⟩]))))))
 (.seq
 (.region false [
 ⟨some 74, .move (.tmp 4), none⟩,
 ⟨some 75, .move (.tmp 5), none⟩,
 ⟨some 2, .assign (.tmp 74), none⟩,
 ⟨some 3, .assign (.tmp 75), none⟩])
 .ret))))) }
/-- (*purlin/queue.Queue).Waiting -/
def tf155 : TFn := { ntmps := 25, results := [.tmp 2], body :=
 (.seq
 (.region false [
 ⟨some 2, .assign (.const (.sl true 0 3 [] [])), none⟩])
 (.seq
 (.seq
 (.region false [
 ⟨some 6, .move (.tmp 0), none⟩,
 ⟨some 7, .bin 2 .eql (.tmp 6) (.const .nilptr), none⟩])
 (.cond (.tmp 7)
 (.seq
 (.region false [
 ⟨some 2, .assign (.const (.sl true 0 3 [] [])), none⟩])
 .ret)
 .skip))
 (.seq
 (.region false [
 ⟨some 3, .assign (.const (.sl true 0 3 [] [])), none⟩])
 (.seq
 (.seq
 (.region false [
 ⟨some 8, .move (.tmp 0), none⟩,
 ⟨some 9, .nilCheck (.tmp 8), none⟩,
 ⟨some 10, .faddr (.tmp 9) 1, none⟩,
 ⟨some 11, .load false 1 (.tmp 10), none⟩,
 ⟨some 12, .len false (.tmp 11), none⟩,
 ⟨some 13, .move (.const (.int .i64 0)), none⟩])
 (.block 0
 (.loop [3, 11, 12, 13]
 (.seq
 (.region false [
 ⟨some 14, .bin 0 .lss (.tmp 13) (.tmp 12), none⟩])
 (.seq
 (.cond (.tmp 14)
 .skip
 (.exit 0))
 (.seq
 (.block 1
 (.seq
 (.region false [
 ⟨some 15, .idxAddr (.tmp 11) (.tmp 13) 4, none⟩,
 ⟨some 16, .load true 4 (.tmp 15), none⟩,
 ⟨some 5, .box 4 (.const (.agg [.int .i64 0, .int .i64 0, .sl true 0 5 [] [], .sl true 0 2 [] []])), none⟩,
 ⟨none, .store 4 (.tmp 5) (.tmp 16), none⟩])
 (.region false [
 ⟨some 17, .move (.tmp 3), none⟩,
 ⟨some 18, .faddr (.tmp 5) 0, none⟩,
 ⟨some 19, .load true 3 (.tmp 18), none⟩,
 ⟨some 20, .call true (.const (.fn 172 [])) [(.tmp 19)] [], none⟩,
 ⟨some 21, .buildSlice 1 3 [.int .i64 0, .int .i64 0, .sl true 0 5 [] []] [(0, (.tmp 20))], none⟩,
 ⟨some 22, .append 3 40 (.tmp 17) (.tmp 21), none⟩,
 ⟨some 3, .assign (.tmp 22), none⟩])))
 (.region false [
 ⟨some 23, .bin 0 .add (.tmp 13) (.const (.int .i64 1)), none⟩,
 ⟨some 13, .move (.tmp 23), none⟩])))))))
 (.seq
 (.region false [
 ⟨some 24, .move (.tmp 3), none⟩,
 ⟨some 2, .assign (.tmp 24), none⟩])
 .ret))))) }
/-- (*purlin/queue.Queue).Len -/
def tf156 : TFn := { ntmps := 16, results := [.tmp 2, .tmp 3], body :=
 (.seq
 (.region false [
 ⟨some 2, .assign (.const (.int .i64 0)), none⟩,
 ⟨some 3, .assign (.const (.int .i64 0)), none⟩])
 (.seq
 (.seq
 (.region false [
 ⟨some 4, .move (.tmp 0), none⟩,
 ⟨some 5, .bin 2 .eql (.tmp 4) (.const .nilptr), none⟩])
 (.cond (.tmp 5)
 (.seq
 (.region false [
 ⟨some 2, .assign (.const (.int .i64 0)), none⟩,
 ⟨some 3, .assign (.const (.int .i64 0)), none⟩])
 .ret)
 .skip))
 (.seq
 (.region true [
 ⟨some 6, .move (.tmp 0), none⟩,
 ⟨some 7, .nilCheck (.tmp 6), none⟩,
 ⟨some 8, .faddr (.tmp 7) 0, none⟩,
 ⟨some 9, .load false 1 (.tmp 8), none⟩,
 ⟨some 10, .len false (.tmp 9), none⟩,
 ⟨some 11, .move (.tmp 0), none⟩,
 ⟨some 12, .nilCheck (.tmp 11), none⟩,
 ⟨some 13, .faddr (.tmp 12) 1, none⟩,
 ⟨some 14, .load false 1 (.tmp 13), none⟩,
 ⟨some 15, .len false (.tmp 14), none⟩,
 ⟨some 2, .move (.tmp 10), none⟩,
 ⟨some 3, .assign (.tmp 15), none⟩])
 .ret))) }
/-- (*purlin/queue.Queue).Vars -/
def tf157 : TFn := { ntmps := 26, results := [.tmp 2], body :=
 (.seq
 (.region false [
 ⟨some 2, .assign (.const (.sl true 0 2 [] [])), none⟩])
 (.seq
 (.seq
 (.region false [
 ⟨some 6, .move (.tmp 0), none⟩,
 ⟨some 7, .bin 2 .eql (.tmp 6) (.const .nilptr), none⟩])
 (.cond (.tmp 7)
 (.seq
 (.region false [
 ⟨some 2, .assign (.const (.sl true 0 2 [] [])), none⟩])
 .ret)
 .skip))
 (.seq
 (.region false [
 ⟨some 3, .assign (.const (.sl true 0 2 [] [])), none⟩])
 (.seq
 (.seq
 (.region false [
 ⟨some 8, .move (.tmp 0), none⟩,
 ⟨some 9, .nilCheck (.tmp 8), none⟩,
 ⟨some 10, .faddr (.tmp 9) 1, none⟩,
 ⟨some 11, .load false 1 (.tmp 10), none⟩,
 ⟨some 12, .len false (.tmp 11), none⟩,
 ⟨some 13, .move (.const (.int .i64 0)), none⟩])
 (.block 0
 (.loop [3, 11, 12, 13]
 (.seq
 (.region false [
 ⟨some 14, .bin 0 .lss (.tmp 13) (.tmp 12), none⟩])
 (.seq
 (.cond (.tmp 14)
 .skip
 (.exit 0))
 (.seq
 (.block 1
 (.seq
 (.region false [
 ⟨some 15, .idxAddr (.tmp 11) (.tmp 13) 4, none⟩,
 ⟨some 16, .load true 4 (.tmp 15), none⟩,
 ⟨some 5, .box 4 (.const (.agg [.int .i64 0, .int .i64 0, .sl true 0 5 [] [], .sl true 0 2 [] []])), none⟩,
 ⟨none, .store 4 (.tmp 5) (.tmp 16), none⟩])
 (.region false [
 ⟨some 17, .move (.tmp 3), none⟩,
 ⟨some 18, .faddr (.tmp 5) 3, none⟩,
 ⟨some 19, .load false 1 (.tmp 18), none⟩,
 ⟨some 20, .append 2 16 (.tmp 17) (.tmp 19), none⟩,
 ⟨some 3, .assign (.tmp 20), none⟩])))
 (.region false [
 ⟨some 21, .bin 0 .add (.tmp 13) (.const (.int .i64 1)), none⟩,
 ⟨some 13, .move (.tmp 21), none⟩])))))))
 (.seq
 (.region false [
 ⟨some 22, .move (.tmp 3), none⟩,
 ⟨some 23, .call true (.const (.fn 87 [])) [(.tmp 22), (.const (.fn 175 []))] [], none⟩])
 (.seq
 (.region false [
 ⟨some 24, .move (.tmp 3), none⟩,
 ⟨some 25, .call true (.const (.fn 176 [])) [(.tmp 24)] [], none⟩,
 ⟨some 2, .assign (.tmp 25), none⟩])
 .ret)))))) }
/-- (*purlin/queue.Queue).On -/
def tf160 : TFn := { ntmps := 25, results := [.tmp 4], body :=
 (.seq
 (.region false [
 ⟨some 3, .box 2 (.tmp 1), none⟩,
 ⟨some 4, .assign (.const (.sl true 0 2 [] [])), none⟩])
 (.seq
 (.seq
 (.region false [
 ⟨some 6, .move (.tmp 0), none⟩,
 ⟨some 7, .bin 2 .eql (.tmp 6) (.const .nilptr), none⟩])
 (.cond (.tmp 7)
 (.seq
 (.region false [
 ⟨some 4, .assign (.const (.sl true 0 2 [] [])), none⟩])
 .ret)
 .skip))
 (.seq
 (.region false [
 ⟨some 8, .move (.tmp 0), none⟩,
 ⟨some 9, .nilCheck (.tmp 8), none⟩,
 ⟨some 10, .faddr (.tmp 9) 1, none⟩,
 ⟨some 11, .load false 1 (.tmp 10), none⟩,
 ⟨some 12, .makeFunc 178 [(.tmp 3)], none⟩,
 ⟨some 13, .call true (.const (.fn 179 [])) [(.tmp 11), (.tmp 12)] [], none⟩,
 ⟨some 5, .assign (.tmp 13), none⟩])
 (.seq
 (.seq
 (.region false [
 ⟨some 14, .move (.tmp 5), none⟩,
 ⟨some 15, .bin 0 .lss (.tmp 14) (.const (.int .i64 0)), none⟩])
 (.cond (.tmp 15)
 (.seq
 (.region false [
 ⟨some 4, .assign (.const (.sl true 0 2 [] [])), none⟩])
 .ret)
 .skip))
 (.seq
 (.region false [
 ⟨some 16, .move (.tmp 0), none⟩,
 ⟨some 17, .nilCheck (.tmp 16), none⟩,
 ⟨some 18, .faddr (.tmp 17) 1, none⟩,
 ⟨some 19, .load false 1 (.tmp 18), none⟩,
 ⟨some 20, .move (.tmp 5), none⟩,
 ⟨some 21, .idxAddr (.tmp 19) (.tmp 20) 4, none⟩,
 ⟨some 22, .faddr (.tmp 21) 3, none⟩,
 ⟨some 23, .load false 1 (.tmp 22), none⟩,
 ⟨some 24, .call true (.const (.fn 180 [])) [(.tmp 23)] [], none⟩,
 ⟨some 4, .assign (.tmp 24), none⟩])
 .ret))))) }
/-- (*purlin/queue.Queue).Fork -/
def tf164 : TFn := { ntmps := 17, results := [.tmp 2], body :=
 (.seq
 (.region false [
 ⟨some 2, .assign (.const .nilptr), none⟩])
 (.seq
 (.seq
 (.region false [
 ⟨some 3, .move (.tmp 0), none⟩,
 ⟨some 4, .bin 2 .eql (.tmp 3) (.const .nilptr), none⟩])
 (.cond (.tmp 4)
 (.seq
 (.region false [
 ⟨some 2, .assign (.const .nilptr), none⟩])
 .ret)
 .skip))
 (.seq
 (.region true [
 ⟨some 5, .move (.tmp 0), none⟩,
 ⟨some 6, .nilCheck (.tmp 5), none⟩,
 ⟨some 7, .faddr (.tmp 6) 0, none⟩,
 ⟨some 8, .load false 1 (.tmp 7), none⟩,
 ⟨some 9, .call true (.const (.fn 186 [])) [(.tmp 8)] [], none⟩,
 ⟨some 10, .move (.tmp 0), none⟩,
 ⟨some 11, .nilCheck (.tmp 10), none⟩,
 ⟨some 12, .faddr (.tmp 11) 1, none⟩,
 ⟨some 13, .load false 1 (.tmp 12), none⟩,
 ⟨some 14, .call true (.const (.fn 187 [])) [(.tmp 13)] [], none⟩,
 ⟨some 15, .build [.sl true 0 3 [] [], .sl true 0 4 [] []] [(0, 1, (.tmp 9)), (1, 1, (.tmp 14))], none⟩,
 ⟨some 16, .new 2 (.tmp 15), none⟩,
 ⟨some 2, .assign (.tmp 16), none⟩])
 .ret))) }
/-- (*purlin/queue.Queue).Peek -/
def tf168 : TFn := { ntmps := 22, results := [.cell 2 true 3, .tmp 3], body :=
 (.seq
 (.region false [
 ⟨some 2, .box 3 (.const (.agg [.int .i64 0, .int .i64 0, .sl true 0 5 [] []])), none⟩,
 ⟨some 3, .assign (.const (.bool false)), none⟩])
 (.seq
 (.seq
 (.region false [
 ⟨some 4, .move (.tmp 0), none⟩,
 ⟨some 5, .bin 2 .eql (.tmp 4) (.const .nilptr), none⟩,
 ⟨some 6, .move (.tmp 5), none⟩,
 ⟨some 7, .move (.tmp 0), (some (6, false))⟩,
 ⟨some 8, .nilCheck (.tmp 7), (some (6, false))⟩,
 ⟨some 9, .faddr (.tmp 8) 0, (some (6, false))⟩,
 ⟨some 10, .load false 1 (.tmp 9), (some (6, false))⟩,
 ⟨some 11, .len false (.tmp 10), (some (6, false))⟩,
 ⟨some 12, .bin 0 .eql (.tmp 11) (.const (.int .i64 0)), (some (6, false))⟩,
 ⟨some 13, .pick (.tmp 6) (.const (.bool true)) (.tmp 12), none⟩])
 (.cond (.tmp 13)
 (.seq
 (.region false [
 ⟨some 14, .build [.int .i64 0, .int .i64 0, .sl true 0 5 [] []] [], none⟩,
 ⟨none, .store 3 (.tmp 2) (.tmp 14), none⟩,
 ⟨some 3, .assign (.const (.bool false)), none⟩])
 .ret)
 .skip))
 (.seq
 (.region false [
 ⟨some 15, .move (.tmp 0), none⟩,
 ⟨some 16, .nilCheck (.tmp 15), none⟩,
 ⟨some 17, .faddr (.tmp 16) 0, none⟩,
 ⟨some 18, .load false 1 (.tmp 17), none⟩,
 ⟨some 19, .idxAddr (.tmp 18) (.const (.int .i64 0)) 3, none⟩,
 ⟨some 20, .load true 3 (.tmp 19), none⟩,
 ⟨some 21, .call true (.const (.fn 172 [])) [(.tmp 20)] [], none⟩,
 ⟨none, .store 3 (.tmp 2) (.tmp 21), none⟩,
 ⟨some 3, .assign (.const (.bool true)), none⟩])
 .ret))) }
/-- (*purlin/queue.Queue).Has -/
def tf169 : TFn := { ntmps := 23, results := [.tmp 4], body :=
 (.seq
 (.region false [
 ⟨some 3, .box 2 (.tmp 1), none⟩,
 ⟨some 4, .assign (.const (.bool false)), none⟩])
 (.seq
 (.region false [
 ⟨some 5, .move (.tmp 0), none⟩,
 ⟨some 6, .bin 2 .neq (.tmp 5) (.const .nilptr), none⟩,
 ⟨some 7, .move (.tmp 6), none⟩,
 ⟨some 8, .move (.tmp 0), (some (7, true))⟩,
 ⟨some 9, .nilCheck (.tmp 8), (some (7, true))⟩,
 ⟨some 10, .faddr (.tmp 9) 0, (some (7, true))⟩,
 ⟨some 11, .load false 1 (.tmp 10), (some (7, true))⟩,
 ⟨some 12, .makeFunc 203 [(.tmp 3)], (some (7, true))⟩,
 ⟨some 13, .call true (.const (.fn 204 [])) [(.tmp 11), (.tmp 12)] [], (some (7, true))⟩,
 ⟨some 14, .move (.tmp 13), (some (7, true))⟩,
 ⟨some 15, .move (.tmp 0), (some (14, false))⟩,
 ⟨some 16, .nilCheck (.tmp 15), (some (14, false))⟩,
 ⟨some 17, .faddr (.tmp 16) 1, (some (14, false))⟩,
 ⟨some 18, .load false 1 (.tmp 17), (some (14, false))⟩,
 ⟨some 19, .makeFunc 205 [(.tmp 3)], (some (14, false))⟩,
 ⟨some 20, .call true (.const (.fn 206 [])) [(.tmp 18), (.tmp 19)] [], (some (14, false))⟩,
 ⟨some 21, .pick (.tmp 14) (.const (.bool true)) (.tmp 20), (some (7, true))⟩,
 ⟨some 22, .pick (.tmp 7) (.tmp 21) (.const (.bool false)), none⟩,
 ⟨some 4, .assign (.tmp 22), none⟩])
 .ret)) }
/-- purlin/purlinlaw10.goal -/
def tf170 : TFn := { ntmps := 9, results := [.cell 2 true 3], body :=
 (.seq
 (.region false [
 ⟨some 2, .box 3 (.const (.agg [.int .i64 0, .int .i64 0, .sl true 0 5 [] []])), none⟩])
 (.seq
 (.region false [
 ⟨some 3, .move (.tmp 0), none⟩,
 ⟨some 4, .build [.int .i64 0, .int .i64 0] [(1, 1, (.tmp 3))], none⟩,
 ⟨some 5, .move (.tmp 0), none⟩,
 ⟨some 6, .build [.int .u8 0, .str ⟨#[]⟩, .int .i64 0, .int .i64 0, .int .i64 0] [(0, 1, (.const (.int .u8 1))), (2, 1, (.tmp 5))], none⟩,
 ⟨some 7, .buildSlice 1 5 [.int .u8 0, .str ⟨#[]⟩, .int .i64 0, .int .i64 0, .int .i64 0] [(0, (.tmp 6))], none⟩,
 ⟨some 8, .build [.int .i64 0, .int .i64 0, .sl true 0 5 [] []] [(0, 2, (.tmp 4)), (2, 1, (.tmp 7))], none⟩,
 ⟨none, .store 3 (.tmp 2) (.tmp 8), none⟩])
 .ret)) }
/-- purlin/queue.all -/
def tf171 : TFn := { ntmps := 19, results := [.tmp 2], body :=
 (.seq
 (.region false [
 ⟨some 2, .assign (.const (.sl true 0 3 [] [])), none⟩])
 (.seq
 (.region false [
 ⟨some 3, .assign (.const (.sl true 0 3 [] [])), none⟩])
 (.seq
 (.seq
 (.region false [
 ⟨some 6, .move (.tmp 0), none⟩,
 ⟨some 7, .len false (.tmp 6), none⟩,
 ⟨some 8, .move (.const (.int .i64 0)), none⟩])
 (.block 0
 (.loop [3, 6, 7, 8]
 (.seq
 (.region false [
 ⟨some 9, .bin 0 .lss (.tmp 8) (.tmp 7), none⟩])
 (.seq
 (.cond (.tmp 9)
 .skip
 (.exit 0))
 (.seq
 (.block 1
 (.seq
 (.region false [
 ⟨some 10, .idxAddr (.tmp 6) (.tmp 8) 3, none⟩,
 ⟨some 11, .load true 3 (.tmp 10), none⟩,
 ⟨some 5, .box 3 (.const (.agg [.int .i64 0, .int .i64 0, .sl true 0 5 [] []])), none⟩,
 ⟨none, .store 3 (.tmp 5) (.tmp 11), none⟩])
 (.region false [
 ⟨some 12, .move (.tmp 3), none⟩,
 ⟨some 13, .load true 3 (.tmp 5), none⟩,
 ⟨some 14, .call true (.const (.fn 172 [])) [(.tmp 13)] [], none⟩,
 ⟨some 15, .buildSlice 1 3 [.int .i64 0, .int .i64 0, .sl true 0 5 [] []] [(0, (.tmp 14))], none⟩,
 ⟨some 16, .append 3 40 (.tmp 12) (.tmp 15), none⟩,
 ⟨some 3, .assign (.tmp 16), none⟩])))
 (.region false [
 ⟨some 17, .bin 0 .add (.tmp 8) (.const (.int .i64 1)), none⟩,
 ⟨some 8, .move (.tmp 17), none⟩])))))))
 (.seq
 (.region false [
 ⟨some 18, .move (.tmp 3), none⟩,
 ⟨some 2, .assign (.tmp 18), none⟩])
 .ret)))) }
/-- purlin/queue.copied -/
def tf172 : TFn := { ntmps := 9, results := [.cell 2 true 3], body :=
 (.seq
 (.region false [
 ⟨some 1, .box 3 (.tmp 0), none⟩,
 ⟨some 2, .box 3 (.const (.agg [.int .i64 0, .int .i64 0, .sl true 0 5 [] []])), none⟩])
 (.seq
 (.region true [
 ⟨some 3, .faddr (.tmp 1) 0, none⟩,
 ⟨some 4, .load true 2 (.tmp 3), none⟩,
 ⟨some 5, .faddr (.tmp 1) 2, none⟩,
 ⟨some 6, .load false 1 (.tmp 5), none⟩,
 ⟨some 7, .call true (.const (.fn 39 [])) [(.tmp 6)] [], none⟩,
 ⟨some 8, .build [.int .i64 0, .int .i64 0, .sl true 0 5 [] []] [(0, 2, (.tmp 4)), (2, 1, (.tmp 7))], none⟩,
 ⟨none, .store 3 (.tmp 2) (.tmp 8), none⟩])
 .ret)) }
/-- (*purlin/queue.Queue).Wake$1 -/
def tf173 : TFn := { ntmps := 7, results := [.tmp 3], body :=
 (.seq
 (.region false [
 ⟨some 2, .box 2 (.tmp 0), none⟩,
 ⟨some 3, .assign (.const (.bool false)), none⟩])
 (.seq
 (.region false [
 ⟨some 4, .load false 1 (.tmp 1), none⟩,
 ⟨some 5, .load true 2 (.tmp 2), none⟩,
 ⟨some 6, .call true (.const (.fn 42 [])) [(.tmp 4), (.tmp 5)] [], none⟩,
 ⟨some 3, .assign (.tmp 6), none⟩])
 .ret)) }
/-- slices.ContainsFunc[[]purlin/api.Name,purlin/api.Name] -/
def tf174 : TFn := { ntmps := 9, results := [.tmp 4], body :=
 (.seq
 (.region false [
 ⟨some 4, .assign (.const (.bool false)), none⟩])
 (.seq
 (.region false [
 ⟨some 5, .move (.tmp 0), none⟩,
 ⟨some 6, .move (.tmp 1), none⟩,
 ⟨some 7, .call true (.const (.fn 207 [])) [(.tmp 5), (.tmp 6)] [], none⟩,
 ⟨some 8, .bin 0 .geq (.tmp 7) (.const (.int .i64 0)), none⟩,
 ⟨some 4, .assign (.tmp 8), none⟩])
 .ret)) }
/-- purlin/queue.order -/
def tf175 : TFn := { ntmps := 13, results := [.tmp 4], body :=
 (.seq
 (.region false [
 ⟨some 2, .box 2 (.tmp 0), none⟩,
 ⟨some 3, .box 2 (.tmp 1), none⟩,
 ⟨some 4, .assign (.const (.int .i64 0)), none⟩])
 (.seq
 (.block 0
 (.seq
 (.region false [
 ⟨some 6, .load true 2 (.tmp 2), none⟩,
 ⟨some 7, .load true 2 (.tmp 3), none⟩,
 ⟨some 8, .call true (.const (.fn 0 [])) [(.tmp 6), (.tmp 7)] [], none⟩,
 ⟨some 5, .assign (.tmp 8), none⟩])
 (.cond (.tmp 5)
 (.seq
 (.region false [
 ⟨some 4, .assign (.const (.int .i64 (-1))), none⟩])
 .ret)
 (.seq
 (.region false [
 ⟨some 10, .load true 2 (.tmp 2), none⟩,
 ⟨some 11, .load true 2 (.tmp 3), none⟩,
 ⟨some 12, .eqAgg false 5023 (.tmp 10) (.tmp 11), none⟩,
 ⟨some 9, .assign (.tmp 12), none⟩])
 (.cond (.tmp 9)
 (.seq
 (.region false [
 ⟨some 4, .assign (.const (.int .i64 0)), none⟩])
 .ret)
 .skip)))))
 (.seq
 (.region false [
 ⟨some 4, .assign (.const (.int .i64 1)), none⟩])
 .ret))) }
/-- (*purlin/queue.Queue).On$1 -/
def tf178 : TFn := { ntmps := 9, results := [.tmp 3], body :=
 (.seq
 (.region false [
 ⟨some 2, .box 4 (.tmp 0), none⟩,
 ⟨some 3, .assign (.const (.bool false)), none⟩])
 (.seq
 (.region false [
 ⟨some 4, .faddr (.tmp 2) 0, none⟩,
 ⟨some 5, .faddr (.tmp 4) 0, none⟩,
 ⟨some 6, .load true 2 (.tmp 5), none⟩,
 ⟨some 7, .load true 2 (.tmp 1), none⟩,
 ⟨some 8, .eqAgg false 5023 (.tmp 6) (.tmp 7), none⟩,
 ⟨some 3, .assign (.tmp 8), none⟩])
 .ret)) }
/-- slices.IndexFunc[[]purlin/queue.waiting,purlin/queue.waiting] -/
def tf179 : TFn := { ntmps := 19, results := [.tmp 4], body :=
 (.seq
 (.region false [
 ⟨some 4, .assign (.const (.int .i64 0)), none⟩])
 (.seq
 (.seq
 (.region false [
 ⟨some 6, .move (.tmp 0), none⟩,
 ⟨some 7, .len false (.tmp 6), none⟩,
 ⟨some 8, .move (.const (.int .i64 0)), none⟩])
 (.block 0
 (.loop [0, 1, 7, 8]
 (.seq
 (.region false [
 ⟨some 9, .bin 0 .lss (.tmp 8) (.tmp 7), none⟩])
 (.seq
 (.cond (.tmp 9)
 .skip
 (.exit 0))
 (.seq
 (.block 1
 (.seq
 (.region false [
 ⟨some 10, .move (.tmp 8), none⟩,
 ⟨some 5, .assign (.tmp 10), none⟩])
 (.seq
 (.region false [
 ⟨some 11, .move (.tmp 1), none⟩,
 ⟨some 12, .move (.tmp 0), none⟩,
 ⟨some 13, .move (.tmp 5), none⟩,
 ⟨some 14, .idxAddr (.tmp 12) (.tmp 13) 4, none⟩,
 ⟨some 15, .load true 4 (.tmp 14), none⟩,
 ⟨some 16, .call true (.tmp 11) [(.tmp 15)] [], none⟩])
 (.cond (.tmp 16)
 (.seq
 (.region false [
 ⟨some 17, .move (.tmp 5), none⟩,
 ⟨some 4, .assign (.tmp 17), none⟩])
 .ret)
 .skip))))
 (.region false [
 ⟨some 18, .bin 0 .add (.tmp 8) (.const (.int .i64 1)), none⟩,
 ⟨some 8, .move (.tmp 18), none⟩])))))))
 (.seq
 (.region false [
 ⟨some 4, .assign (.const (.int .i64 (-1))), none⟩])
 .ret))) }
/-- (*purlin/queue.Queue).Has$1 -/
def tf203 : TFn := { ntmps := 8, results := [.tmp 3], body :=
 (.seq
 (.region false [
 ⟨some 2, .box 3 (.tmp 0), none⟩,
 ⟨some 3, .assign (.const (.bool false)), none⟩])
 (.seq
 (.region false [
 ⟨some 4, .faddr (.tmp 2) 0, none⟩,
 ⟨some 5, .load true 2 (.tmp 4), none⟩,
 ⟨some 6, .load true 2 (.tmp 1), none⟩,
 ⟨some 7, .eqAgg false 5023 (.tmp 5) (.tmp 6), none⟩,
 ⟨some 3, .assign (.tmp 7), none⟩])
 .ret)) }
/-- slices.ContainsFunc[[]purlin/api.Goal,purlin/api.Goal] -/
def tf204 : TFn := { ntmps := 9, results := [.tmp 4], body :=
 (.seq
 (.region false [
 ⟨some 4, .assign (.const (.bool false)), none⟩])
 (.seq
 (.region false [
 ⟨some 5, .move (.tmp 0), none⟩,
 ⟨some 6, .move (.tmp 1), none⟩,
 ⟨some 7, .call true (.const (.fn 213 [])) [(.tmp 5), (.tmp 6)] [], none⟩,
 ⟨some 8, .bin 0 .geq (.tmp 7) (.const (.int .i64 0)), none⟩,
 ⟨some 4, .assign (.tmp 8), none⟩])
 .ret)) }
/-- (*purlin/queue.Queue).Has$2 -/
def tf205 : TFn := { ntmps := 9, results := [.tmp 3], body :=
 (.seq
 (.region false [
 ⟨some 2, .box 4 (.tmp 0), none⟩,
 ⟨some 3, .assign (.const (.bool false)), none⟩])
 (.seq
 (.region false [
 ⟨some 4, .faddr (.tmp 2) 0, none⟩,
 ⟨some 5, .faddr (.tmp 4) 0, none⟩,
 ⟨some 6, .load true 2 (.tmp 5), none⟩,
 ⟨some 7, .load true 2 (.tmp 1), none⟩,
 ⟨some 8, .eqAgg false 5023 (.tmp 6) (.tmp 7), none⟩,
 ⟨some 3, .assign (.tmp 8), none⟩])
 .ret)) }
/-- slices.ContainsFunc[[]purlin/queue.waiting,purlin/queue.waiting] -/
def tf206 : TFn := { ntmps := 9, results := [.tmp 4], body :=
 (.seq
 (.region false [
 ⟨some 4, .assign (.const (.bool false)), none⟩])
 (.seq
 (.region false [
 ⟨some 5, .move (.tmp 0), none⟩,
 ⟨some 6, .move (.tmp 1), none⟩,
 ⟨some 7, .call true (.const (.fn 179 [])) [(.tmp 5), (.tmp 6)] [], none⟩,
 ⟨some 8, .bin 0 .geq (.tmp 7) (.const (.int .i64 0)), none⟩,
 ⟨some 4, .assign (.tmp 8), none⟩])
 .ret)) }
/-- slices.IndexFunc[[]purlin/api.Name,purlin/api.Name] -/
def tf207 : TFn := { ntmps := 19, results := [.tmp 4], body :=
 (.seq
 (.region false [
 ⟨some 4, .assign (.const (.int .i64 0)), none⟩])
 (.seq
 (.seq
 (.region false [
 ⟨some 6, .move (.tmp 0), none⟩,
 ⟨some 7, .len false (.tmp 6), none⟩,
 ⟨some 8, .move (.const (.int .i64 0)), none⟩])
 (.block 0
 (.loop [0, 1, 7, 8]
 (.seq
 (.region false [
 ⟨some 9, .bin 0 .lss (.tmp 8) (.tmp 7), none⟩])
 (.seq
 (.cond (.tmp 9)
 .skip
 (.exit 0))
 (.seq
 (.block 1
 (.seq
 (.region false [
 ⟨some 10, .move (.tmp 8), none⟩,
 ⟨some 5, .assign (.tmp 10), none⟩])
 (.seq
 (.region false [
 ⟨some 11, .move (.tmp 1), none⟩,
 ⟨some 12, .move (.tmp 0), none⟩,
 ⟨some 13, .move (.tmp 5), none⟩,
 ⟨some 14, .idxAddr (.tmp 12) (.tmp 13) 2, none⟩,
 ⟨some 15, .load true 2 (.tmp 14), none⟩,
 ⟨some 16, .call true (.tmp 11) [(.tmp 15)] [], none⟩])
 (.cond (.tmp 16)
 (.seq
 (.region false [
 ⟨some 17, .move (.tmp 5), none⟩,
 ⟨some 4, .assign (.tmp 17), none⟩])
 .ret)
 .skip))))
 (.region false [
 ⟨some 18, .bin 0 .add (.tmp 8) (.const (.int .i64 1)), none⟩,
 ⟨some 8, .move (.tmp 18), none⟩])))))))
 (.seq
 (.region false [
 ⟨some 4, .assign (.const (.int .i64 (-1))), none⟩])
 .ret))) }
/-- slices.IndexFunc[[]purlin/api.Goal,purlin/api.Goal] -/
def tf213 : TFn := { ntmps := 19, results := [.tmp 4], body :=
 (.seq
 (.region false [
 ⟨some 4, .assign (.const (.int .i64 0)), none⟩])
 (.seq
 (.seq
 (.region false [
 ⟨some 6, .move (.tmp 0), none⟩,
 ⟨some 7, .len false (.tmp 6), none⟩,
 ⟨some 8, .move (.const (.int .i64 0)), none⟩])
 (.block 0
 (.loop [0, 1, 7, 8]
 (.seq
 (.region false [
 ⟨some 9, .bin 0 .lss (.tmp 8) (.tmp 7), none⟩])
 (.seq
 (.cond (.tmp 9)
 .skip
 (.exit 0))
 (.seq
 (.block 1
 (.seq
 (.region false [
 ⟨some 10, .move (.tmp 8), none⟩,
 ⟨some 5, .assign (.tmp 10), none⟩])
 (.seq
 (.region false [
 ⟨some 11, .move (.tmp 1), none⟩,
 ⟨some 12, .move (.tmp 0), none⟩,
 ⟨some 13, .move (.tmp 5), none⟩,
 ⟨some 14, .idxAddr (.tmp 12) (.tmp 13) 3, none⟩,
 ⟨some 15, .load true 3 (.tmp 14), none⟩,
 ⟨some 16, .call true (.tmp 11) [(.tmp 15)] [], none⟩])
 (.cond (.tmp 16)
 (.seq
 (.region false [
 ⟨some 17, .move (.tmp 5), none⟩,
 ⟨some 4, .assign (.tmp 17), none⟩])
 .ret)
 .skip))))
 (.region false [
 ⟨some 18, .bin 0 .add (.tmp 8) (.const (.int .i64 1)), none⟩,
 ⟨some 8, .move (.tmp 18), none⟩])))))))
 (.seq
 (.region false [
 ⟨some 4, .assign (.const (.int .i64 (-1))), none⟩])
 .ret))) }
/-- purlin/purlinlaw10.QueueOrder -/
def tf586 : TFn := { ntmps := 106, results := [.tmp 4], body :=
 (.seq
 (.region false [
 ⟨some 3, .box 2 (.tmp 1), none⟩,
 ⟨some 4, .assign (.const (.bool false)), none⟩])
 (.seq
 (.seq
 (.region false [
 ⟨some 15, .call true (.const (.fn 145 [])) [] [], none⟩,
 ⟨some 16, .un .not (.tmp 15), none⟩])
 (.cond (.tmp 16)
 (.seq
 (.region false [
 ⟨some 4, .assign (.const (.bool false)), none⟩])
 .ret)
 .skip))
 (.seq
 (.region false [
 ⟨some 17, .call false (.const (.fn 146 [])) [] [], none⟩,
 ⟨some 5, .assign (.tmp 17), none⟩])
 (.seq
 (.region false [
 ⟨some 18, .call false (.const (.fn 146 [])) [] [], none⟩,
 ⟨some 6, .assign (.tmp 18), none⟩])
 (.seq
 (.seq
 (.region false [
 ⟨some 7, .assign (.const (.int .i64 0)), none⟩])
 (.block 0
 (.loop [0, 3, 5, 6, 7]
 (.seq
 (.seq
 (.region false [
 ⟨some 19, .move (.tmp 7), none⟩,
 ⟨some 20, .move (.tmp 0), none⟩,
 ⟨some 21, .len false (.tmp 20), none⟩,
 ⟨some 22, .bin 0 .lss (.tmp 19) (.tmp 21), none⟩])
 (.cond (.tmp 22)
 .skip
 (.exit 0)))
 (.seq
 (.block 1
 (.seq
 (.region true [
 ⟨some 25, .move (.tmp 5), none⟩,
 ⟨some 26, .move (.tmp 0), none⟩,
 ⟨some 27, .move (.tmp 7), none⟩,
 ⟨some 28, .idxAddr (.tmp 26) (.tmp 27) 3, none⟩,
 ⟨some 29, .load true 3 (.tmp 28), none⟩,
 ⟨some 30, .buildSlice 1 3 [.int .i64 0, .int .i64 0, .sl true 0 5 [] []] [(0, (.tmp 29))], none⟩,
 ⟨some 31, .call false (.const (.fn 147 [])) [(.tmp 25), (.tmp 30)] [], none⟩,
 ⟨some 32, .bin 0 .neq (.tmp 31) (.const (.int .i64 0)), none⟩,
 ⟨some 33, .move (.tmp 32), none⟩,
 ⟨some 34, .move (.tmp 6), (some (33, false))⟩,
 ⟨some 35, .move (.tmp 0), (some (33, false))⟩,
 ⟨some 36, .move (.tmp 7), (some (33, false))⟩,
 ⟨some 37, .idxAddr (.tmp 35) (.tmp 36) 3, (some (33, false))⟩,
 ⟨some 38, .load true 3 (.tmp 37), (some (33, false))⟩,
 ⟨some 39, .load true 2 (.tmp 3), (some (33, false))⟩,
 ⟨some 40, .load true 2 (.tmp 3), (some (33, false))⟩,
 ⟨some 41, .buildSlice 2 2 [.int .i64 0, .int .i64 0] [(0, (.tmp 39)), (1, (.tmp 40))], (some (33, false))⟩,
 ⟨some 42, .call false (.const (.fn 148 [])) [(.tmp 34), (.tmp 38), (.tmp 41)] [], (some (33, false))⟩,
 ⟨some 43, .bin 0 .neq (.tmp 42) (.const (.int .i64 0)), (some (33, false))⟩,
 ⟨some 44, .pick (.tmp 33) (.const (.bool true)) (.tmp 43), none⟩])
 (.cond (.tmp 44)
 (.seq
 (.region false [
 ⟨some 4, .assign (.const (.bool false)), none⟩])
 .ret)
 .skip)))
 (.region false [
 ⟨some 23, .move (.tmp 7), none⟩,
 ⟨some 24, .bin 0 .add (.tmp 23) (.const (.int .i64 1)), none⟩,
 ⟨some 7, .assign (.tmp 24), none⟩]))))))
 (.seq
 (.seq
 (.region false [
 ⟨some 45, .move (.tmp 6), none⟩,
 ⟨some 46, .load true 2 (.tmp 3), none⟩,
 ⟨some 47, .buildSlice 1 2 [.int .i64 0, .int .i64 0] [(0, (.tmp 46))], none⟩,
 ⟨some 48, .call false (.const (.fn 149 [])) [(.tmp 45), (.tmp 47)] [], none⟩,
 ⟨some 49, .move (.tmp 0), none⟩,
 ⟨some 50, .call true (.const (.fn 150 [])) [(.tmp 48), (.tmp 49)] [], none⟩,
 ⟨some 51, .un .not (.tmp 50), none⟩,
 ⟨some 52, .move (.tmp 51), none⟩,
 ⟨some 53, .move (.tmp 6), (some (52, false))⟩,
 ⟨some 54, .call true (.const (.fn 151 [])) [(.tmp 53)] [], (some (52, false))⟩,
 ⟨some 55, .move (.tmp 0), (some (52, false))⟩,
 ⟨some 56, .call true (.const (.fn 150 [])) [(.tmp 54), (.tmp 55)] [], (some (52, false))⟩,
 ⟨some 57, .un .not (.tmp 56), (some (52, false))⟩,
 ⟨some 58, .pick (.tmp 52) (.const (.bool true)) (.tmp 57), none⟩])
 (.cond (.tmp 58)
 (.seq
 (.region false [
 ⟨some 4, .assign (.const (.bool false)), none⟩])
 .ret)
 .skip))
 (.seq
 (.seq
 (.region false [
 ⟨some 8, .assign (.const (.int .i64 0)), none⟩])
 (.block 2
 (.loop [0, 5, 6, 8]
 (.seq
 (.seq
 (.region false [
 ⟨some 59, .move (.tmp 8), none⟩,
 ⟨some 60, .move (.tmp 0), none⟩,
 ⟨some 61, .len false (.tmp 60), none⟩,
 ⟨some 62, .bin 0 .lss (.tmp 59) (.tmp 61), none⟩])
 (.cond (.tmp 62)
 .skip
 (.exit 2)))
 (.seq
 (.block 3
 (.seq
 (.region false [
 ⟨some 66, .move (.tmp 5), none⟩,
 ⟨some 67, .call false (.const (.fn 152 [])) [(.tmp 66)] [], none⟩,
 ⟨some 65, .move (.tmp 67), none⟩,
 ⟨some 68, .extract (.tmp 65) 0, none⟩,
 ⟨some 69, .extract (.tmp 65) 1, none⟩,
 ⟨some 9, .box 3 (.const (.agg [.int .i64 0, .int .i64 0, .sl true 0 5 [] []])), none⟩,
 ⟨none, .store 3 (.tmp 9) (.tmp 68), none⟩,
 ⟨some 10, .assign (.tmp 69), none⟩])
 (.seq
 (.region false [
 ⟨some 71, .move (.tmp 6), none⟩,
 ⟨some 72, .call false (.const (.fn 152 [])) [(.tmp 71)] [], none⟩,
 ⟨some 70, .move (.tmp 72), none⟩,
 ⟨some 73, .extract (.tmp 70) 0, none⟩,
 ⟨some 74, .extract (.tmp 70) 1, none⟩,
 ⟨some 11, .box 3 (.const (.agg [.int .i64 0, .int .i64 0, .sl true 0 5 [] []])), none⟩,
 ⟨none, .store 3 (.tmp 11) (.tmp 73), none⟩,
 ⟨some 12, .assign (.tmp 74), none⟩])
 (.seq
 (.region true [
 ⟨some 75, .move (.tmp 10), none⟩,
 ⟨some 76, .un .not (.tmp 75), none⟩,
 ⟨some 77, .move (.tmp 76), none⟩,
 ⟨some 78, .move (.tmp 12), (some (77, false))⟩,
 ⟨some 79, .un .not (.tmp 78), (some (77, false))⟩,
 ⟨some 80, .pick (.tmp 77) (.const (.bool true)) (.tmp 79), none⟩,
 ⟨some 81, .move (.tmp 80), none⟩,
 ⟨some 82, .load true 3 (.tmp 9), (some (81, false))⟩,
 ⟨some 83, .move (.tmp 0), (some (81, false))⟩,
 ⟨some 84, .move (.tmp 8), (some (81, false))⟩,
 ⟨some 85, .idxAddr (.tmp 83) (.tmp 84) 3, (some (81, false))⟩,
 ⟨some 86, .load true 3 (.tmp 85), (some (81, false))⟩,
 ⟨some 87, .call true (.const (.fn 153 [])) [(.tmp 82), (.tmp 86)] [], (some (81, false))⟩,
 ⟨some 88, .un .not (.tmp 87), (some (81, false))⟩,
 ⟨some 89, .pick (.tmp 81) (.const (.bool true)) (.tmp 88), none⟩,
 ⟨some 90, .move (.tmp 89), none⟩,
 ⟨some 91, .load true 3 (.tmp 11), (some (90, false))⟩,
 ⟨some 92, .move (.tmp 0), (some (90, false))⟩,
 ⟨some 93, .move (.tmp 8), (some (90, false))⟩,
 ⟨some 94, .idxAddr (.tmp 92) (.tmp 93) 3, (some (90, false))⟩,
 ⟨some 95, .load true 3 (.tmp 94), (some (90, false))⟩,
 ⟨some 96, .call true (.const (.fn 153 [])) [(.tmp 91), (.tmp 95)] [], (some (90, false))⟩,
 ⟨some 97, .un .not (.tmp 96), (some (90, false))⟩,
 ⟨some 98, .pick (.tmp 90) (.const (.bool true)) (.tmp 97), none⟩])
 (.cond (.tmp 98)
 (.seq
 (.region false [
 ⟨some 4, .assign (.const (.bool false)), none⟩])
 .ret)
 .skip)))))
 (.region false [
 ⟨some 63, .move (.tmp 8), none⟩,
 ⟨some 64, .bin 0 .add (.tmp 63) (.const (.int .i64 1)), none⟩,
 ⟨some 8, .assign (.tmp 64), none⟩]))))))
 (.seq
 (.region false [
 ⟨some 100, .move (.tmp 5), none⟩,
 ⟨some 101, .call false (.const (.fn 152 [])) [(.tmp 100)] [], none⟩,
 ⟨some 99, .move (.tmp 101), none⟩,
 ⟨some 102, .extract (.tmp 99) 0, none⟩,
 ⟨some 103, .extract (.tmp 99) 1, none⟩,
 ⟨some 13, .box 3 (.const (.agg [.int .i64 0, .int .i64 0, .sl true 0 5 [] []])), none⟩,
 ⟨none, .store 3 (.tmp 13) (.tmp 102), none⟩,
 ⟨some 14, .assign (.tmp 103), none⟩])
 (.seq
 (.region false [
 ⟨some 104, .move (.tmp 14), none⟩,
 ⟨some 105, .un .not (.tmp 104), none⟩,
 ⟨some 4, .assign (.tmp 105), none⟩])
 .ret))))))))) }
/-- purlin/purlinlaw10.QueueKeeps -/
def tf587 : TFn := { ntmps := 124, results := [.tmp 2], body :=
 (.seq
 (.region false [
 ⟨some 2, .assign (.const (.bool false)), none⟩])
 (.seq
 (.seq
 (.region false [
 ⟨some 11, .call true (.const (.fn 145 [])) [] [], none⟩,
 ⟨some 12, .un .not (.tmp 11), none⟩])
 (.cond (.tmp 12)
 (.seq
 (.region false [
 ⟨some 2, .assign (.const (.bool false)), none⟩])
 .ret)
 .skip))
 (.seq
 (.region false [
 ⟨some 14, .move (.tmp 0), none⟩,
 ⟨some 15, .call false (.const (.fn 154 [])) [(.tmp 14)] [], none⟩,
 ⟨some 13, .move (.tmp 15), none⟩,
 ⟨some 16, .extract (.tmp 13) 0, none⟩,
 ⟨some 17, .extract (.tmp 13) 1, none⟩,
 ⟨some 3, .assign (.tmp 16), none⟩,
 ⟨some 4, .assign (.tmp 17), none⟩])
 (.seq
 (.region false [
 ⟨some 18, .move (.tmp 4), none⟩,
 ⟨some 19, .move (.tmp 3), none⟩,
 ⟨some 20, .call true (.const (.fn 151 [])) [(.tmp 19)] [], none⟩,
 ⟨some 21, .append 3 40 (.tmp 18) (.tmp 20), none⟩,
 ⟨some 4, .assign (.tmp 21), none⟩])
 (.seq
 (.region false [
 ⟨some 22, .move (.tmp 4), none⟩,
 ⟨some 23, .move (.tmp 3), none⟩,
 ⟨some 24, .call true (.const (.fn 155 [])) [(.tmp 23)] [], none⟩,
 ⟨some 25, .append 3 40 (.tmp 22) (.tmp 24), none⟩,
 ⟨some 4, .assign (.tmp 25), none⟩])
 (.seq
 (.region false [
 ⟨some 5, .assign (.const (.sl true 0 3 [] [])), none⟩])
 (.seq
 (.seq
 (.region false [
 ⟨some 6, .assign (.const (.int .i64 0)), none⟩])
 (.block 0
 (.loop [0, 4, 5, 6]
 (.seq
 (.seq
 (.region false [
 ⟨some 26, .move (.tmp 6), none⟩,
 ⟨some 27, .move (.tmp 0), none⟩,
 ⟨some 28, .len false (.tmp 27), none⟩,
 ⟨some 29, .bin 0 .lss (.tmp 26) (.tmp 28), none⟩])
 (.cond (.tmp 29)
 .skip
 (.exit 0)))
 (.seq
 (.block 1
 (.seq
 (.seq
 (.region false [
 ⟨some 32, .move (.tmp 0), none⟩,
 ⟨some 33, .move (.tmp 6), none⟩,
 ⟨some 34, .idxAddr (.tmp 32) (.tmp 33) 3, none⟩,
 ⟨some 35, .faddr (.tmp 34) 0, none⟩,
 ⟨some 36, .load false 1 (.tmp 35), none⟩,
 ⟨some 37, .bin 0 .eql (.tmp 36) (.const (.int .i64 0)), none⟩])
 (.cond (.tmp 37)
 (.region false [
 ⟨some 38, .move (.tmp 5), none⟩,
 ⟨some 39, .move (.tmp 0), none⟩,
 ⟨some 40, .move (.tmp 6), none⟩,
 ⟨some 41, .idxAddr (.tmp 39) (.tmp 40) 3, none⟩,
 ⟨some 42, .faddr (.tmp 41) 1, none⟩,
 ⟨some 43, .load false 1 (.tmp 42), none⟩,
 ⟨some 44, .append 3 40 (.tmp 38) (.tmp 43), none⟩,
 ⟨some 5, .assign (.tmp 44), none⟩])
 .skip))
 (.seq
 (.region false [
 ⟨some 45, .move (.tmp 0), none⟩,
 ⟨some 46, .move (.tmp 6), none⟩,
 ⟨some 47, .idxAddr (.tmp 45) (.tmp 46) 3, none⟩,
 ⟨some 48, .faddr (.tmp 47) 0, none⟩,
 ⟨some 49, .load false 1 (.tmp 48), none⟩,
 ⟨some 50, .bin 0 .eql (.tmp 49) (.const (.int .i64 2)), none⟩,
 ⟨some 51, .move (.tmp 50), none⟩,
 ⟨some 52, .move (.tmp 0), (some (51, true))⟩,
 ⟨some 53, .move (.tmp 6), (some (51, true))⟩,
 ⟨some 54, .idxAddr (.tmp 52) (.tmp 53) 3, (some (51, true))⟩,
 ⟨some 55, .faddr (.tmp 54) 1, (some (51, true))⟩,
 ⟨some 56, .load false 1 (.tmp 55), (some (51, true))⟩,
 ⟨some 57, .len false (.tmp 56), (some (51, true))⟩,
 ⟨some 58, .bin 0 .gtr (.tmp 57) (.const (.int .i64 0)), (some (51, true))⟩,
 ⟨some 59, .pick (.tmp 51) (.tmp 58) (.const (.bool false)), none⟩,
 ⟨some 60, .move (.tmp 59), none⟩,
 ⟨some 61, .move (.tmp 0), (some (60, true))⟩,
 ⟨some 62, .move (.tmp 6), (some (60, true))⟩,
 ⟨some 63, .idxAddr (.tmp 61) (.tmp 62) 3, (some (60, true))⟩,
 ⟨some 64, .faddr (.tmp 63) 2, (some (60, true))⟩,
 ⟨some 65, .load false 1 (.tmp 64), (some (60, true))⟩,
 ⟨some 66, .len false (.tmp 65), (some (60, true))⟩,
 ⟨some 67, .bin 0 .gtr (.tmp 66) (.const (.int .i64 0)), (some (60, true))⟩,
 ⟨some 68, .pick (.tmp 60) (.tmp 67) (.const (.bool false)), none⟩])
 (.cond (.tmp 68)
 (.region false [
 ⟨some 69, .move (.tmp 5), none⟩,
 ⟨some 70, .move (.tmp 0), none⟩,
 ⟨some 71, .move (.tmp 6), none⟩,
 ⟨some 72, .idxAddr (.tmp 70) (.tmp 71) 3, none⟩,
 ⟨some 73, .faddr (.tmp 72) 1, none⟩,
 ⟨some 74, .load false 1 (.tmp 73), none⟩,
 ⟨some 75, .idxAddr (.tmp 74) (.const (.int .i64 0)) 3, none⟩,
 ⟨some 76, .load true 3 (.tmp 75), none⟩,
 ⟨some 77, .buildSlice 1 3 [.int .i64 0, .int .i64 0, .sl true 0 5 [] []] [(0, (.tmp 76))], none⟩,
 ⟨some 78, .append 3 40 (.tmp 69) (.tmp 77), none⟩,
 ⟨some 5, .assign (.tmp 78), none⟩])
 .skip))))
 (.region false [
 ⟨some 30, .move (.tmp 6), none⟩,
 ⟨some 31, .bin 0 .add (.tmp 30) (.const (.int .i64 1)), none⟩,
 ⟨some 6, .assign (.tmp 31), none⟩]))))))
 (.seq
 (.seq
 (.region false [
 ⟨some 79, .move (.tmp 5), none⟩,
 ⟨some 80, .len false (.tmp 79), none⟩,
 ⟨some 81, .move (.tmp 4), none⟩,
 ⟨some 82, .len false (.tmp 81), none⟩,
 ⟨some 83, .bin 0 .neq (.tmp 80) (.tmp 82), none⟩])
 (.cond (.tmp 83)
 (.seq
 (.region false [
 ⟨some 2, .assign (.const (.bool false)), none⟩])
 .ret)
 .skip))
 (.seq
 (.region false [
 ⟨some 84, .move (.tmp 4), none⟩,
 ⟨some 85, .len false (.tmp 84), none⟩,
 ⟨some 86, .mkslice 1 1 [.bool false] (.tmp 85) (.tmp 85), none⟩,
 ⟨some 7, .assign (.tmp 86), none⟩])
 (.seq
 (.seq
 (.region false [
 ⟨some 8, .assign (.const (.int .i64 0)), none⟩])
 (.block 2
 (.loop [4, 5, 7, 8]
 (.seq
 (.seq
 (.region false [
 ⟨some 87, .move (.tmp 8), none⟩,
 ⟨some 88, .move (.tmp 5), none⟩,
 ⟨some 89, .len false (.tmp 88), none⟩,
 ⟨some 90, .bin 0 .lss (.tmp 87) (.tmp 89), none⟩])
 (.cond (.tmp 90)
 .skip
 (.exit 2)))
 (.seq
 (.block 3
 (.seq
 (.region false [
 ⟨some 9, .assign (.const (.bool false)), none⟩])
 (.seq
 (.seq
 (.region false [
 ⟨some 10, .assign (.const (.int .i64 0)), none⟩])
 (.block 4
 (.loop [4, 5, 7, 8, 9, 10]
 (.seq
 (.seq
 (.region false [
 ⟨some 93, .move (.tmp 10), none⟩,
 ⟨some 94, .move (.tmp 4), none⟩,
 ⟨some 95, .len false (.tmp 94), none⟩,
 ⟨some 96, .bin 0 .lss (.tmp 93) (.tmp 95), none⟩,
 ⟨some 97, .move (.tmp 96), none⟩,
 ⟨some 98, .move (.tmp 9), (some (97, true))⟩,
 ⟨some 99, .un .not (.tmp 98), (some (97, true))⟩,
 ⟨some 100, .pick (.tmp 97) (.tmp 99) (.const (.bool false)), none⟩])
 (.cond (.tmp 100)
 .skip
 (.exit 4)))
 (.seq
 (.block 5
 (.seq
 (.region true [
 ⟨some 103, .move (.tmp 7), none⟩,
 ⟨some 104, .move (.tmp 10), none⟩,
 ⟨some 105, .idxAddr (.tmp 103) (.tmp 104) 1, none⟩,
 ⟨some 106, .load false 1 (.tmp 105), none⟩,
 ⟨some 107, .un .not (.tmp 106), none⟩,
 ⟨some 108, .move (.tmp 107), none⟩,
 ⟨some 109, .move (.tmp 5), (some (108, true))⟩,
 ⟨some 110, .move (.tmp 8), (some (108, true))⟩,
 ⟨some 111, .idxAddr (.tmp 109) (.tmp 110) 3, (some (108, true))⟩,
 ⟨some 112, .load true 3 (.tmp 111), (some (108, true))⟩,
 ⟨some 113, .move (.tmp 4), (some (108, true))⟩,
 ⟨some 114, .move (.tmp 10), (some (108, true))⟩,
 ⟨some 115, .idxAddr (.tmp 113) (.tmp 114) 3, (some (108, true))⟩,
 ⟨some 116, .load true 3 (.tmp 115), (some (108, true))⟩,
 ⟨some 117, .call true (.const (.fn 153 [])) [(.tmp 112), (.tmp 116)] [], (some (108, true))⟩,
 ⟨some 118, .pick (.tmp 108) (.tmp 117) (.const (.bool false)), none⟩])
 (.cond (.tmp 118)
 (.seq
 (.region false [
 ⟨some 119, .move (.tmp 7), none⟩,
 ⟨some 120, .move (.tmp 10), none⟩,
 ⟨some 121, .idxAddr (.tmp 119) (.tmp 120) 1, none⟩,
 ⟨none, .store 1 (.tmp 121) (.const (.bool true)), none⟩])
 (.region false [
 ⟨some 9, .assign (.const (.bool true)), none⟩]))
 .skip)))
 (.region false [
 ⟨some 101, .move (.tmp 10), none⟩,
 ⟨some 102, .bin 0 .add (.tmp 101) (.const (.int .i64 1)), none⟩,
 ⟨some 10, .assign (.tmp 102), none⟩]))))))
 (.seq
 (.region false [
 ⟨some 122, .move (.tmp 9), none⟩,
 ⟨some 123, .un .not (.tmp 122), none⟩])
 (.cond (.tmp 123)
 (.seq
 (.region false [
 ⟨some 2, .assign (.const (.bool false)), none⟩])
 .ret)
 .skip)))))
 (.region false [
 ⟨some 91, .move (.tmp 8), none⟩,
 ⟨some 92, .bin 0 .add (.tmp 91) (.const (.int .i64 1)), none⟩,
 ⟨some 8, .assign (.tmp 92), none⟩]))))))
 (.seq
 (.region false [
 ⟨some 2, .assign (.const (.bool true)), none⟩])
 .ret))))))))))) }
/-- purlin/purlinlaw10.QueueWakes -/
def tf588 : TFn := { ntmps := 72, results := [.tmp 4], body :=
 (.seq
 (.region false [
 ⟨some 4, .assign (.const (.bool false)), none⟩])
 (.seq
 (.seq
 (.region false [
 ⟨some 14, .call true (.const (.fn 145 [])) [] [], none⟩,
 ⟨some 15, .un .not (.tmp 14), none⟩])
 (.cond (.tmp 15)
 (.seq
 (.region false [
 ⟨some 4, .assign (.const (.bool false)), none⟩])
 .ret)
 .skip))
 (.seq
 (.region false [
 ⟨some 17, .move (.tmp 0), none⟩,
 ⟨some 18, .call false (.const (.fn 154 [])) [(.tmp 17)] [], none⟩,
 ⟨some 16, .move (.tmp 18), none⟩,
 ⟨some 19, .extract (.tmp 16) 0, none⟩,
 ⟨some 20, .extract (.tmp 16) 1, none⟩,
 ⟨some 5, .assign (.tmp 19), none⟩,
 ⟨some 6, .assign (.tmp 20), none⟩])
 (.seq
 (.region false [
 ⟨some 21, .move (.tmp 5), none⟩,
 ⟨some 22, .call true (.const (.fn 155 [])) [(.tmp 21)] [], none⟩,
 ⟨some 7, .assign (.tmp 22), none⟩])
 (.seq
 (.region false [
 ⟨some 23, .move (.tmp 5), none⟩,
 ⟨some 24, .move (.tmp 1), none⟩,
 ⟨some 25, .call false (.const (.fn 149 [])) [(.tmp 23), (.tmp 24)] [], none⟩,
 ⟨some 8, .assign (.tmp 25), none⟩])
 (.seq
 (.region false [
 ⟨some 27, .move (.tmp 5), none⟩,
 ⟨some 28, .call true (.const (.fn 156 [])) [(.tmp 27)] [], none⟩,
 ⟨some 26, .move (.tmp 28), none⟩,
 ⟨some 29, .extract (.tmp 26) 0, none⟩,
 ⟨some 30, .extract (.tmp 26) 1, none⟩,
 ⟨some 9, .assign (.tmp 29), none⟩,
 ⟨some 10, .assign (.tmp 30), none⟩])
 (.seq
 (.seq
 (.region false [
 ⟨some 31, .move (.tmp 7), none⟩,
 ⟨some 32, .len false (.tmp 31), none⟩,
 ⟨some 33, .move (.tmp 8), none⟩,
 ⟨some 34, .len false (.tmp 33), none⟩,
 ⟨some 35, .move (.tmp 10), none⟩,
 ⟨some 36, .bin 0 .add (.tmp 34) (.tmp 35), none⟩,
 ⟨some 37, .bin 0 .neq (.tmp 32) (.tmp 36), none⟩,
 ⟨some 38, .move (.tmp 37), none⟩,
 ⟨some 39, .move (.tmp 9), (some (38, false))⟩,
 ⟨some 40, .move (.tmp 8), (some (38, false))⟩,
 ⟨some 41, .len false (.tmp 40), (some (38, false))⟩,
 ⟨some 42, .bin 0 .lss (.tmp 39) (.tmp 41), (some (38, false))⟩,
 ⟨some 43, .pick (.tmp 38) (.const (.bool true)) (.tmp 42), none⟩])
 (.cond (.tmp 43)
 (.seq
 (.region false [
 ⟨some 4, .assign (.const (.bool false)), none⟩])
 .ret)
 .skip))
 (.seq
 (.region false [
 ⟨some 44, .move (.tmp 5), none⟩,
 ⟨some 45, .call true (.const (.fn 157 [])) [(.tmp 44)] [], none⟩,
 ⟨some 11, .assign (.tmp 45), none⟩])
 (.seq
 (.seq
 (.region false [
 ⟨some 12, .assign (.const (.int .i64 0)), none⟩])
 (.block 0
 (.loop [1, 5, 11, 12]
 (.seq
 (.seq
 (.region false [
 ⟨some 46, .move (.tmp 12), none⟩,
 ⟨some 47, .move (.tmp 11), none⟩,
 ⟨some 48, .len false (.tmp 47), none⟩,
 ⟨some 49, .bin 0 .lss (.tmp 46) (.tmp 48), none⟩])
 (.cond (.tmp 49)
 .skip
 (.exit 0)))
 (.seq
 (.block 1
 (.seq
 (.region false [
 ⟨some 13, .assign (.const (.int .i64 0)), none⟩])
 (.block 2
 (.loop [1, 5, 11, 12, 13]
 (.seq
 (.seq
 (.region false [
 ⟨some 52, .move (.tmp 13), none⟩,
 ⟨some 53, .move (.tmp 1), none⟩,
 ⟨some 54, .len false (.tmp 53), none⟩,
 ⟨some 55, .bin 0 .lss (.tmp 52) (.tmp 54), none⟩])
 (.cond (.tmp 55)
 .skip
 (.exit 2)))
 (.seq
 (.block 3
 (.seq
 (.region true [
 ⟨some 58, .move (.tmp 11), none⟩,
 ⟨some 59, .move (.tmp 12), none⟩,
 ⟨some 60, .idxAddr (.tmp 58) (.tmp 59) 2, none⟩,
 ⟨some 61, .load true 2 (.tmp 60), none⟩,
 ⟨some 62, .move (.tmp 1), none⟩,
 ⟨some 63, .move (.tmp 13), none⟩,
 ⟨some 64, .idxAddr (.tmp 62) (.tmp 63) 2, none⟩,
 ⟨some 65, .load true 2 (.tmp 64), none⟩,
 ⟨some 66, .eqAgg false 5023 (.tmp 61) (.tmp 65), none⟩])
 (.cond (.tmp 66)
 (.seq
 (.region false [
 ⟨some 4, .assign (.const (.bool false)), none⟩])
 .ret)
 .skip)))
 (.region false [
 ⟨some 56, .move (.tmp 13), none⟩,
 ⟨some 57, .bin 0 .add (.tmp 56) (.const (.int .i64 1)), none⟩,
 ⟨some 13, .assign (.tmp 57), none⟩])))))))
 (.region false [
 ⟨some 50, .move (.tmp 12), none⟩,
 ⟨some 51, .bin 0 .add (.tmp 50) (.const (.int .i64 1)), none⟩,
 ⟨some 12, .assign (.tmp 51), none⟩]))))))
 (.seq
 (.region false [
 ⟨some 67, .move (.tmp 5), none⟩,
 ⟨some 68, .move (.tmp 1), none⟩,
 ⟨some 69, .call false (.const (.fn 149 [])) [(.tmp 67), (.tmp 68)] [], none⟩,
 ⟨some 70, .len false (.tmp 69), none⟩,
 ⟨some 71, .bin 0 .eql (.tmp 70) (.const (.int .i64 0)), none⟩,
 ⟨some 4, .assign (.tmp 71), none⟩])
 .ret)))))))))) }
/-- purlin/purlinlaw10.QueueNone -/
def tf589 : TFn := { ntmps := 100, results := [.tmp 4], body :=
 (.seq
 (.region false [
 ⟨some 4, .assign (.const (.bool false)), none⟩])
 (.seq
 (.region false [
 ⟨some 5, .assign (.const .nilptr), none⟩])
 (.seq
 (.region false [
 ⟨some 13, .move (.tmp 5), none⟩,
 ⟨some 14, .call false (.const (.fn 152 [])) [(.tmp 13)] [], none⟩,
 ⟨some 12, .move (.tmp 14), none⟩,
 ⟨some 15, .extract (.tmp 12) 0, none⟩,
 ⟨some 16, .extract (.tmp 12) 1, none⟩,
 ⟨some 6, .box 3 (.const (.agg [.int .i64 0, .int .i64 0, .sl true 0 5 [] []])), none⟩,
 ⟨none, .store 3 (.tmp 6) (.tmp 15), none⟩,
 ⟨some 7, .assign (.tmp 16), none⟩])
 (.seq
 (.region false [
 ⟨some 18, .move (.tmp 5), none⟩,
 ⟨some 19, .call true (.const (.fn 168 [])) [(.tmp 18)] [], none⟩,
 ⟨some 17, .move (.tmp 19), none⟩,
 ⟨some 20, .extract (.tmp 17) 0, none⟩,
 ⟨some 21, .extract (.tmp 17) 1, none⟩,
 ⟨some 8, .box 3 (.const (.agg [.int .i64 0, .int .i64 0, .sl true 0 5 [] []])), none⟩,
 ⟨none, .store 3 (.tmp 8) (.tmp 20), none⟩,
 ⟨some 9, .assign (.tmp 21), none⟩])
 (.seq
 (.region false [
 ⟨some 23, .move (.tmp 5), none⟩,
 ⟨some 24, .call true (.const (.fn 156 [])) [(.tmp 23)] [], none⟩,
 ⟨some 22, .move (.tmp 24), none⟩,
 ⟨some 25, .extract (.tmp 22) 0, none⟩,
 ⟨some 26, .extract (.tmp 22) 1, none⟩,
 ⟨some 10, .assign (.tmp 25), none⟩,
 ⟨some 11, .assign (.tmp 26), none⟩])
 (.seq
 (.region false [
 ⟨some 27, .call true (.const (.fn 145 [])) [] [], none⟩,
 ⟨some 28, .move (.tmp 27), none⟩,
 ⟨some 29, .move (.tmp 5), (some (28, true))⟩,
 ⟨some 30, .move (.tmp 0), (some (28, true))⟩,
 ⟨some 31, .call false (.const (.fn 147 [])) [(.tmp 29), (.tmp 30)] [], (some (28, true))⟩,
 ⟨some 32, .bin 0 .eql (.tmp 31) (.const (.int .i64 1)), (some (28, true))⟩,
 ⟨some 33, .pick (.tmp 28) (.tmp 32) (.const (.bool false)), none⟩,
 ⟨some 34, .move (.tmp 33), none⟩,
 ⟨some 35, .move (.tmp 5), (some (34, true))⟩,
 ⟨some 36, .build [.int .i64 0, .int .i64 0, .sl true 0 5 [] []] [], (some (34, true))⟩,
 ⟨some 37, .move (.tmp 1), (some (34, true))⟩,
 ⟨some 38, .call false (.const (.fn 148 [])) [(.tmp 35), (.tmp 36), (.tmp 37)] [], (some (34, true))⟩,
 ⟨some 39, .bin 0 .eql (.tmp 38) (.const (.int .i64 1)), (some (34, true))⟩,
 ⟨some 40, .pick (.tmp 34) (.tmp 39) (.const (.bool false)), none⟩,
 ⟨some 41, .move (.tmp 40), none⟩,
 ⟨some 42, .move (.tmp 7), (some (41, true))⟩,
 ⟨some 43, .un .not (.tmp 42), (some (41, true))⟩,
 ⟨some 44, .pick (.tmp 41) (.tmp 43) (.const (.bool false)), none⟩,
 ⟨some 45, .move (.tmp 44), none⟩,
 ⟨some 46, .move (.tmp 9), (some (45, true))⟩,
 ⟨some 47, .un .not (.tmp 46), (some (45, true))⟩,
 ⟨some 48, .pick (.tmp 45) (.tmp 47) (.const (.bool false)), none⟩,
 ⟨some 49, .move (.tmp 48), none⟩,
 ⟨some 50, .move (.tmp 10), (some (49, true))⟩,
 ⟨some 51, .bin 0 .eql (.tmp 50) (.const (.int .i64 0)), (some (49, true))⟩,
 ⟨some 52, .pick (.tmp 49) (.tmp 51) (.const (.bool false)), none⟩,
 ⟨some 53, .move (.tmp 52), none⟩,
 ⟨some 54, .move (.tmp 11), (some (53, true))⟩,
 ⟨some 55, .bin 0 .eql (.tmp 54) (.const (.int .i64 0)), (some (53, true))⟩,
 ⟨some 56, .pick (.tmp 53) (.tmp 55) (.const (.bool false)), none⟩,
 ⟨some 57, .move (.tmp 56), none⟩,
 ⟨some 58, .move (.tmp 5), (some (57, true))⟩,
 ⟨some 59, .move (.tmp 1), (some (57, true))⟩,
 ⟨some 60, .call false (.const (.fn 149 [])) [(.tmp 58), (.tmp 59)] [], (some (57, true))⟩,
 ⟨some 61, .len false (.tmp 60), (some (57, true))⟩,
 ⟨some 62, .bin 0 .eql (.tmp 61) (.const (.int .i64 0)), (some (57, true))⟩,
 ⟨some 63, .pick (.tmp 57) (.tmp 62) (.const (.bool false)), none⟩,
 ⟨some 64, .move (.tmp 63), none⟩,
 ⟨some 65, .move (.tmp 5), (some (64, true))⟩,
 ⟨some 66, .call true (.const (.fn 151 [])) [(.tmp 65)] [], (some (64, true))⟩,
 ⟨some 67, .len false (.tmp 66), (some (64, true))⟩,
 ⟨some 68, .bin 0 .eql (.tmp 67) (.const (.int .i64 0)), (some (64, true))⟩,
 ⟨some 69, .pick (.tmp 64) (.tmp 68) (.const (.bool false)), none⟩,
 ⟨some 70, .move (.tmp 69), none⟩,
 ⟨some 71, .move (.tmp 5), (some (70, true))⟩,
 ⟨some 72, .call true (.const (.fn 155 [])) [(.tmp 71)] [], (some (70, true))⟩,
 ⟨some 73, .len false (.tmp 72), (some (70, true))⟩,
 ⟨some 74, .bin 0 .eql (.tmp 73) (.const (.int .i64 0)), (some (70, true))⟩,
 ⟨some 75, .pick (.tmp 70) (.tmp 74) (.const (.bool false)), none⟩,
 ⟨some 76, .move (.tmp 75), none⟩,
 ⟨some 77, .move (.tmp 5), (some (76, true))⟩,
 ⟨some 78, .call true (.const (.fn 157 [])) [(.tmp 77)] [], (some (76, true))⟩,
 ⟨some 79, .len false (.tmp 78), (some (76, true))⟩,
 ⟨some 80, .bin 0 .eql (.tmp 79) (.const (.int .i64 0)), (some (76, true))⟩,
 ⟨some 81, .pick (.tmp 76) (.tmp 80) (.const (.bool false)), none⟩,
 ⟨some 82, .move (.tmp 81), none⟩,
 ⟨some 83, .move (.tmp 5), (some (82, true))⟩,
 ⟨some 84, .build [.int .i64 0, .int .i64 0] [], (some (82, true))⟩,
 ⟨some 85, .call true (.const (.fn 160 [])) [(.tmp 83), (.tmp 84)] [], (some (82, true))⟩,
 ⟨some 86, .len false (.tmp 85), (some (82, true))⟩,
 ⟨some 87, .bin 0 .eql (.tmp 86) (.const (.int .i64 0)), (some (82, true))⟩,
 ⟨some 88, .pick (.tmp 82) (.tmp 87) (.const (.bool false)), none⟩,
 ⟨some 89, .move (.tmp 88), none⟩,
 ⟨some 90, .move (.tmp 5), (some (89, true))⟩,
 ⟨some 91, .build [.int .i64 0, .int .i64 0] [], (some (89, true))⟩,
 ⟨some 92, .call true (.const (.fn 169 [])) [(.tmp 90), (.tmp 91)] [], (some (89, true))⟩,
 ⟨some 93, .un .not (.tmp 92), (some (89, true))⟩,
 ⟨some 94, .pick (.tmp 89) (.tmp 93) (.const (.bool false)), none⟩,
 ⟨some 95, .move (.tmp 94), none⟩,
 ⟨some 96, .move (.tmp 5), (some (95, true))⟩,
 ⟨some 97, .call false (.const (.fn 164 [])) [(.tmp 96)] [], (some (95, true))⟩,
 ⟨some 98, .bin 2 .eql (.tmp 97) (.const .nilptr), (some (95, true))⟩,
 ⟨some 99, .pick (.tmp 95) (.tmp 98) (.const (.bool false)), none⟩,
 ⟨some 4, .assign (.tmp 99), none⟩])
 .ret)))))) }
def fnTable10 : List (Nat × TFn) := [(145, tf145), (146, tf146), (147, tf147), (148, tf148), (149, tf149), (150, tf150), (151, tf151), (152, tf152), (153, tf153), (154, tf154), (155, tf155), (156, tf156), (157, tf157), (160, tf160), (164, tf164), (168, tf168), (169, tf169), (170, tf170), (171, tf171), (172, tf172), (173, tf173), (174, tf174), (175, tf175), (178, tf178), (179, tf179), (203, tf203), (204, tf204), (205, tf205), (206, tf206), (207, tf207), (213, tf213), (586, tf586), (587, tf587), (588, tf588), (589, tf589)]
def nuTable10 : List (Nat × Nat) := [(3, 586), (4, 587), (5, 588), (8, 589), (9, 145), (10, 146), (11, 147), (12, 148), (13, 150), (14, 149), (15, 151), (16, 152), (17, 153), (18, 154), (19, 155), (20, 156), (21, 157), (24, 160), (28, 164), (32, 168), (33, 169), (34, 170), (35, 171), (36, 172), (37, 42), (38, 174), (39, 173), (40, 11), (41, 87), (42, 175), (43, 176), (45, 179), (46, 178), (47, 180), (53, 186), (54, 187), (70, 204), (71, 203), (72, 206), (73, 205), (74, 39), (75, 55), (76, 207), (79, 0), (86, 213)]
end Tree
