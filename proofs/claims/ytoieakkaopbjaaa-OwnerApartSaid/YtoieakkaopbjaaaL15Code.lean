/- Layer 15: the program's functions as E-code. -/
import Derived.Test.YtoieakkaopbjaaaTE
set_option autoImplicit false
namespace Tree
open Go
/-- purlin/owner.New -/
def tf59 : TFn := { ntmps := 5, results := [.tmp 0], body :=
 (.seq
 (.region false [
 ⟨some 0, .assign (.const .nilptr), none⟩])
 (.seq
 (.region false [
 ⟨some 1, .mkmap, none⟩,
 ⟨some 2, .mkmap, none⟩,
 ⟨some 3, .build [.nilmap, .nilmap] [(0, 1, (.tmp 1)), (1, 1, (.tmp 2))], none⟩,
 ⟨some 4, .new 2 (.tmp 3), none⟩,
 ⟨some 0, .assign (.tmp 4), none⟩])
 .ret)) }
/-- (*purlin/owner.Table).Waiters -/
def tf60 : TFn := { ntmps := 35, results := [.tmp 4], body :=
 (.seq
 (.region false [
 ⟨some 3, .box 2 (.tmp 1), none⟩,
 ⟨some 4, .assign (.const (.sl true 0 1 [] [])), none⟩])
 (.seq
 (.seq
 (.region true [
 ⟨some 6, .move (.tmp 0), none⟩,
 ⟨some 7, .bin 2 .eql (.tmp 6) (.const .nilptr), none⟩,
 ⟨some 8, .move (.tmp 7), none⟩,
 ⟨some 9, .move (.tmp 0), (some (8, false))⟩,
 ⟨some 10, .nilCheck (.tmp 9), (some (8, false))⟩,
 ⟨some 11, .faddr (.tmp 10) 0, (some (8, false))⟩,
 ⟨some 12, .load false 1 (.tmp 11), (some (8, false))⟩,
 ⟨some 13, .load true 2 (.tmp 3), (some (8, false))⟩,
 ⟨some 14, .lookup 5023 (.sl true 0 1 [] []) false (.tmp 12) (.tmp 13), (some (8, false))⟩,
 ⟨some 15, .len false (.tmp 14), (some (8, false))⟩,
 ⟨some 16, .bin 0 .eql (.tmp 15) (.const (.int .i64 0)), (some (8, false))⟩,
 ⟨some 17, .pick (.tmp 8) (.const (.bool true)) (.tmp 16), none⟩])
 (.cond (.tmp 17)
 (.seq
 (.region false [
 ⟨some 4, .assign (.const (.sl true 0 1 [] [])), none⟩])
 .ret)
 .skip))
 (.seq
 (.region true [
 ⟨some 18, .move (.tmp 0), none⟩,
 ⟨some 19, .nilCheck (.tmp 18), none⟩,
 ⟨some 20, .faddr (.tmp 19) 0, none⟩,
 ⟨some 21, .load false 1 (.tmp 20), none⟩,
 ⟨some 22, .load true 2 (.tmp 3), none⟩,
 ⟨some 23, .lookup 5023 (.sl true 0 1 [] []) false (.tmp 21) (.tmp 22), none⟩,
 ⟨some 24, .len false (.tmp 23), none⟩,
 ⟨some 25, .mkslice 1 8 [.int .i64 0] (.tmp 24) (.tmp 24), none⟩,
 ⟨some 5, .assign (.tmp 25), none⟩])
 (.seq
 (.region true [
 ⟨some 26, .move (.tmp 5), none⟩,
 ⟨some 27, .move (.tmp 0), none⟩,
 ⟨some 28, .nilCheck (.tmp 27), none⟩,
 ⟨some 29, .faddr (.tmp 28) 0, none⟩,
 ⟨some 30, .load false 1 (.tmp 29), none⟩,
 ⟨some 31, .load true 2 (.tmp 3), none⟩,
 ⟨some 32, .lookup 5023 (.sl true 0 1 [] []) false (.tmp 30) (.tmp 31), none⟩,
 ⟨some 33, .copy 1 (.tmp 26) (.tmp 32), none⟩])
 (.seq
 (.region false [
 ⟨some 34, .move (.tmp 5), none⟩,
 ⟨some 4, .assign (.tmp 34), none⟩])
 .ret))))) }
/-- (*purlin/owner.Table).Ask -/
def tf61 : TFn := { ntmps := 30, results := [.tmp 6], body :=
 (.seq
 (.region false [
 ⟨some 4, .box 2 (.tmp 1), none⟩,
 ⟨some 6, .assign (.const (.bool false)), none⟩])
 (.seq
 (.seq
 (.region true [
 ⟨some 7, .move (.tmp 0), none⟩,
 ⟨some 8, .bin 2 .eql (.tmp 7) (.const .nilptr), none⟩,
 ⟨some 9, .move (.tmp 8), none⟩,
 ⟨some 10, .move (.tmp 0), (some (9, false))⟩,
 ⟨some 11, .nilCheck (.tmp 10), (some (9, false))⟩,
 ⟨some 12, .faddr (.tmp 11) 0, (some (9, false))⟩,
 ⟨some 13, .load false 1 (.tmp 12), (some (9, false))⟩,
 ⟨some 14, .load true 2 (.tmp 4), (some (9, false))⟩,
 ⟨some 15, .lookup 5023 (.sl true 0 1 [] []) false (.tmp 13) (.tmp 14), (some (9, false))⟩,
 ⟨some 16, .move (.tmp 2), (some (9, false))⟩,
 ⟨some 17, .call true (.const (.fn 583 [])) [(.tmp 15), (.tmp 16)] [], (some (9, false))⟩,
 ⟨some 18, .pick (.tmp 9) (.const (.bool true)) (.tmp 17), none⟩])
 (.cond (.tmp 18)
 (.seq
 (.region false [
 ⟨some 6, .assign (.const (.bool false)), none⟩])
 .ret)
 .skip))
 (.seq
 (.region true [
 ⟨some 19, .move (.tmp 0), none⟩,
 ⟨some 20, .nilCheck (.tmp 19), none⟩,
 ⟨some 21, .faddr (.tmp 20) 0, none⟩,
 ⟨some 22, .load false 1 (.tmp 21), none⟩,
 ⟨some 23, .load true 2 (.tmp 4), none⟩,
 ⟨some 24, .move (.tmp 0), none⟩,
 ⟨some 25, .load true 2 (.tmp 4), none⟩,
 ⟨some 26, .call true (.const (.fn 60 [])) [(.tmp 24), (.tmp 25)] [], none⟩,
 ⟨some 27, .move (.tmp 2), none⟩,
 ⟨some 28, .buildSlice 1 1 [.int .i64 0] [(0, (.tmp 27))], none⟩,
 ⟨some 29, .append 1 8 (.tmp 26) (.tmp 28), none⟩,
 ⟨none, .mapSet 5023 (.tmp 22) (.tmp 23) (.tmp 29), none⟩])
 (.seq
 (.region false [
 ⟨some 6, .assign (.const (.bool true)), none⟩])
 .ret)))) }
/-- (*purlin/owner.Table).Tell -/
def tf62 : TFn := { ntmps := 17, results := [.tmp 4], body :=
 (.seq
 (.region false [
 ⟨some 3, .box 2 (.tmp 1), none⟩,
 ⟨some 4, .assign (.const (.sl true 0 1 [] [])), none⟩])
 (.seq
 (.region false [
 ⟨some 6, .move (.tmp 0), none⟩,
 ⟨some 7, .load true 2 (.tmp 3), none⟩,
 ⟨some 8, .call true (.const (.fn 60 [])) [(.tmp 6), (.tmp 7)] [], none⟩,
 ⟨some 5, .assign (.tmp 8), none⟩])
 (.seq
 (.seq
 (.region false [
 ⟨some 9, .move (.tmp 0), none⟩,
 ⟨some 10, .bin 2 .neq (.tmp 9) (.const .nilptr), none⟩])
 (.cond (.tmp 10)
 (.region true [
 ⟨some 11, .move (.tmp 0), none⟩,
 ⟨some 12, .nilCheck (.tmp 11), none⟩,
 ⟨some 13, .faddr (.tmp 12) 0, none⟩,
 ⟨some 14, .load false 1 (.tmp 13), none⟩,
 ⟨some 15, .load true 2 (.tmp 3), none⟩,
 ⟨none, .mapDel 5023 (.tmp 14) (.tmp 15), none⟩])
 .skip))
 (.seq
 (.region false [
 ⟨some 16, .move (.tmp 5), none⟩,
 ⟨some 4, .assign (.tmp 16), none⟩])
 .ret)))) }
/-- (*purlin/owner.Table).Want -/
def tf63 : TFn := { ntmps := 20, results := [.tmp 4], body :=
 (.seq
 (.region false [
 ⟨some 3, .box 2 (.tmp 1), none⟩,
 ⟨some 4, .assign (.const (.bool false)), none⟩])
 (.seq
 (.seq
 (.region true [
 ⟨some 5, .move (.tmp 0), none⟩,
 ⟨some 6, .bin 2 .eql (.tmp 5) (.const .nilptr), none⟩,
 ⟨some 7, .move (.tmp 6), none⟩,
 ⟨some 8, .move (.tmp 0), (some (7, false))⟩,
 ⟨some 9, .nilCheck (.tmp 8), (some (7, false))⟩,
 ⟨some 10, .faddr (.tmp 9) 1, (some (7, false))⟩,
 ⟨some 11, .load false 1 (.tmp 10), (some (7, false))⟩,
 ⟨some 12, .load true 2 (.tmp 3), (some (7, false))⟩,
 ⟨some 13, .lookup 5023 (.bool false) false (.tmp 11) (.tmp 12), (some (7, false))⟩,
 ⟨some 14, .pick (.tmp 7) (.const (.bool true)) (.tmp 13), none⟩])
 (.cond (.tmp 14)
 (.seq
 (.region false [
 ⟨some 4, .assign (.const (.bool false)), none⟩])
 .ret)
 .skip))
 (.seq
 (.region true [
 ⟨some 15, .move (.tmp 0), none⟩,
 ⟨some 16, .nilCheck (.tmp 15), none⟩,
 ⟨some 17, .faddr (.tmp 16) 1, none⟩,
 ⟨some 18, .load false 1 (.tmp 17), none⟩,
 ⟨some 19, .load true 2 (.tmp 3), none⟩,
 ⟨none, .mapSet 5023 (.tmp 18) (.tmp 19) (.const (.bool true)), none⟩])
 (.seq
 (.region false [
 ⟨some 4, .assign (.const (.bool true)), none⟩])
 .ret)))) }
/-- purlin/purlinmem.SameInts -/
def tf64 : TFn := { ntmps := 26, results := [.tmp 4], body :=
 (.seq
 (.region false [
 ⟨some 4, .assign (.const (.bool false)), none⟩])
 (.seq
 (.seq
 (.region false [
 ⟨some 6, .move (.tmp 0), none⟩,
 ⟨some 7, .len false (.tmp 6), none⟩,
 ⟨some 8, .move (.tmp 1), none⟩,
 ⟨some 9, .len false (.tmp 8), none⟩,
 ⟨some 10, .bin 0 .neq (.tmp 7) (.tmp 9), none⟩])
 (.cond (.tmp 10)
 (.seq
 (.region false [
 ⟨some 4, .assign (.const (.bool false)), none⟩])
 .ret)
 .skip))
 (.seq
 (.seq
 (.region false [
 ⟨some 5, .assign (.const (.int .i64 0)), none⟩])
 (.block 0
 (.loop [0, 1, 5]
 (.seq
 (.seq
 (.region false [
 ⟨some 11, .move (.tmp 5), none⟩,
 ⟨some 12, .move (.tmp 0), none⟩,
 ⟨some 13, .len false (.tmp 12), none⟩,
 ⟨some 14, .bin 0 .lss (.tmp 11) (.tmp 13), none⟩])
 (.cond (.tmp 14)
 .skip
 (.exit 0)))
 (.seq
 (.block 1
 (.seq
 (.region true [
 ⟨some 17, .move (.tmp 0), none⟩,
 ⟨some 18, .move (.tmp 5), none⟩,
 ⟨some 19, .idxAddr (.tmp 17) (.tmp 18) 1, none⟩,
 ⟨some 20, .load false 1 (.tmp 19), none⟩,
 ⟨some 21, .move (.tmp 1), none⟩,
 ⟨some 22, .move (.tmp 5), none⟩,
 ⟨some 23, .idxAddr (.tmp 21) (.tmp 22) 1, none⟩,
 ⟨some 24, .load false 1 (.tmp 23), none⟩,
 ⟨some 25, .bin 0 .neq (.tmp 20) (.tmp 24), none⟩])
 (.cond (.tmp 25)
 (.seq
 (.region false [
 ⟨some 4, .assign (.const (.bool false)), none⟩])
 .ret)
 .skip)))
 (.region false [
 ⟨some 15, .move (.tmp 5), none⟩,
 ⟨some 16, .bin 0 .add (.tmp 15) (.const (.int .i64 1)), none⟩,
 ⟨some 5, .assign (.tmp 16), none⟩]))))))
 (.seq
 (.region false [
 ⟨some 4, .assign (.const (.bool true)), none⟩])
 .ret)))) }
/-- purlin/purlinlaw15.live -/
def tf65 : TFn := { ntmps := 44, results := [.tmp 0], body :=
 (.seq
 (.region false [
 ⟨some 0, .assign (.const (.bool false)), none⟩])
 (.seq
 (.region false [
 ⟨some 3, .call false (.const (.fn 59 [])) [] [], none⟩,
 ⟨some 1, .assign (.tmp 3), none⟩])
 (.seq
 (.region false [
 ⟨some 4, .build [.int .i64 0, .int .i64 0] [(1, 1, (.const (.int .i64 1)))], none⟩,
 ⟨some 2, .box 2 (.const (.agg [.int .i64 0, .int .i64 0])), none⟩,
 ⟨none, .store 2 (.tmp 2) (.tmp 4), none⟩])
 (.seq
 (.region false [
 ⟨some 5, .move (.tmp 1), none⟩,
 ⟨some 6, .load true 2 (.tmp 2), none⟩,
 ⟨some 7, .call false (.const (.fn 61 [])) [(.tmp 5), (.tmp 6), (.const (.int .i64 1))] [], none⟩,
 ⟨some 8, .move (.tmp 7), none⟩,
 ⟨some 9, .move (.tmp 1), (some (8, true))⟩,
 ⟨some 10, .load true 2 (.tmp 2), (some (8, true))⟩,
 ⟨some 11, .call false (.const (.fn 61 [])) [(.tmp 9), (.tmp 10), (.const (.int .i64 2))] [], (some (8, true))⟩,
 ⟨some 12, .pick (.tmp 8) (.tmp 11) (.const (.bool false)), none⟩,
 ⟨some 13, .move (.tmp 12), none⟩,
 ⟨some 14, .move (.tmp 1), (some (13, true))⟩,
 ⟨some 15, .load true 2 (.tmp 2), (some (13, true))⟩,
 ⟨some 16, .call false (.const (.fn 61 [])) [(.tmp 14), (.tmp 15), (.const (.int .i64 1))] [], (some (13, true))⟩,
 ⟨some 17, .un .not (.tmp 16), (some (13, true))⟩,
 ⟨some 18, .pick (.tmp 13) (.tmp 17) (.const (.bool false)), none⟩,
 ⟨some 19, .move (.tmp 18), none⟩,
 ⟨some 20, .move (.tmp 1), (some (19, true))⟩,
 ⟨some 21, .load true 2 (.tmp 2), (some (19, true))⟩,
 ⟨some 22, .call false (.const (.fn 62 [])) [(.tmp 20), (.tmp 21)] [], (some (19, true))⟩,
 ⟨some 23, .buildSlice 2 1 [.int .i64 0] [(0, (.const (.int .i64 1))), (1, (.const (.int .i64 2)))], (some (19, true))⟩,
 ⟨some 24, .call true (.const (.fn 64 [])) [(.tmp 22), (.tmp 23)] [], (some (19, true))⟩,
 ⟨some 25, .pick (.tmp 19) (.tmp 24) (.const (.bool false)), none⟩,
 ⟨some 26, .move (.tmp 25), none⟩,
 ⟨some 27, .move (.tmp 1), (some (26, true))⟩,
 ⟨some 28, .load true 2 (.tmp 2), (some (26, true))⟩,
 ⟨some 29, .call false (.const (.fn 62 [])) [(.tmp 27), (.tmp 28)] [], (some (26, true))⟩,
 ⟨some 30, .len false (.tmp 29), (some (26, true))⟩,
 ⟨some 31, .bin 0 .eql (.tmp 30) (.const (.int .i64 0)), (some (26, true))⟩,
 ⟨some 32, .pick (.tmp 26) (.tmp 31) (.const (.bool false)), none⟩,
 ⟨some 33, .move (.tmp 32), none⟩,
 ⟨some 34, .move (.tmp 1), (some (33, true))⟩,
 ⟨some 35, .load true 2 (.tmp 2), (some (33, true))⟩,
 ⟨some 36, .call false (.const (.fn 63 [])) [(.tmp 34), (.tmp 35)] [], (some (33, true))⟩,
 ⟨some 37, .pick (.tmp 33) (.tmp 36) (.const (.bool false)), none⟩,
 ⟨some 38, .move (.tmp 37), none⟩,
 ⟨some 39, .move (.tmp 1), (some (38, true))⟩,
 ⟨some 40, .load true 2 (.tmp 2), (some (38, true))⟩,
 ⟨some 41, .call false (.const (.fn 63 [])) [(.tmp 39), (.tmp 40)] [], (some (38, true))⟩,
 ⟨some 42, .un .not (.tmp 41), (some (38, true))⟩,
 ⟨some 43, .pick (.tmp 38) (.tmp 42) (.const (.bool false)), none⟩,
 ⟨some 0, .assign (.tmp 43), none⟩])
 .ret)))) }
/-- (*purlin/owner.Table).Asked -/
def tf69 : TFn := { ntmps := 11, results := [.tmp 2], body :=
 (.seq
 (.region false [
 ⟨some 2, .assign (.const (.sl true 0 2 [] [])), none⟩])
 (.seq
 (.seq
 (.region false [
 ⟨some 3, .move (.tmp 0), none⟩,
 ⟨some 4, .bin 2 .eql (.tmp 3) (.const .nilptr), none⟩])
 (.cond (.tmp 4)
 (.seq
 (.region false [
 ⟨some 2, .assign (.const (.sl true 0 2 [] [])), none⟩])
 .ret)
 .skip))
 (.seq
 (.region false [
 ⟨some 5, .move (.tmp 0), none⟩,
 ⟨some 6, .nilCheck (.tmp 5), none⟩,
 ⟨some 7, .faddr (.tmp 6) 0, none⟩,
 ⟨some 8, .load false 1 (.tmp 7), none⟩,
 ⟨some 9, .call true (.const (.fn 78 [])) [(.tmp 8)] [], none⟩,
 ⟨some 10, .call true (.const (.fn 79 [])) [(.tmp 9), (.const (.fn 80 []))] [], none⟩,
 ⟨some 2, .assign (.tmp 10), none⟩])
 .ret))) }
/-- (*purlin/owner.Table).Wanted -/
def tf70 : TFn := { ntmps := 11, results := [.tmp 2], body :=
 (.seq
 (.region false [
 ⟨some 2, .assign (.const (.sl true 0 2 [] [])), none⟩])
 (.seq
 (.seq
 (.region false [
 ⟨some 3, .move (.tmp 0), none⟩,
 ⟨some 4, .bin 2 .eql (.tmp 3) (.const .nilptr), none⟩])
 (.cond (.tmp 4)
 (.seq
 (.region false [
 ⟨some 2, .assign (.const (.sl true 0 2 [] [])), none⟩])
 .ret)
 .skip))
 (.seq
 (.region false [
 ⟨some 5, .move (.tmp 0), none⟩,
 ⟨some 6, .nilCheck (.tmp 5), none⟩,
 ⟨some 7, .faddr (.tmp 6) 1, none⟩,
 ⟨some 8, .load false 1 (.tmp 7), none⟩,
 ⟨some 9, .call true (.const (.fn 81 [])) [(.tmp 8)] [], none⟩,
 ⟨some 10, .call true (.const (.fn 79 [])) [(.tmp 9), (.const (.fn 80 []))] [], none⟩,
 ⟨some 2, .assign (.tmp 10), none⟩])
 .ret))) }
/-- (*purlin/owner.Table).Fork -/
def tf72 : TFn := { ntmps := 35, results := [.tmp 2], body :=
 (.seq
 (.region false [
 ⟨some 2, .assign (.const .nilptr), none⟩])
 (.seq
 (.seq
 (.region false [
 ⟨some 5, .move (.tmp 0), none⟩,
 ⟨some 6, .bin 2 .eql (.tmp 5) (.const .nilptr), none⟩])
 (.cond (.tmp 6)
 (.seq
 (.region false [
 ⟨some 2, .assign (.const .nilptr), none⟩])
 .ret)
 .skip))
 (.seq
 (.region false [
 ⟨some 7, .call false (.const (.fn 59 [])) [] [], none⟩,
 ⟨some 3, .assign (.tmp 7), none⟩])
 (.seq
 (.seq
 (.region false [
 ⟨some 8, .move (.tmp 0), none⟩,
 ⟨some 9, .nilCheck (.tmp 8), none⟩,
 ⟨some 10, .faddr (.tmp 9) 0, none⟩,
 ⟨some 11, .load false 1 (.tmp 10), none⟩,
 ⟨some 12, .fail, none⟩])
 (.block 0
 (.loop [0, 3, 12]
 (.seq
 (.region false [
 ⟨some 13, .fail, none⟩,
 ⟨some 14, .extract (.tmp 13) 0, none⟩])
 (.seq
 (.cond (.tmp 14)
 .skip
 (.exit 0))
 (.block 1
 (.seq
 (.region false [
 ⟨some 15, .fail, none⟩,
 ⟨some 16, .extract (.tmp 15) 0, none⟩,
 ⟨some 4, .box 2 (.const (.agg [.int .i64 0, .int .i64 0])), none⟩,
 ⟨none, .store 2 (.tmp 4) (.tmp 16), none⟩])
 (.region true [
 ⟨some 17, .move (.tmp 3), none⟩,
 ⟨some 18, .nilCheck (.tmp 17), none⟩,
 ⟨some 19, .faddr (.tmp 18) 0, none⟩,
 ⟨some 20, .load false 1 (.tmp 19), none⟩,
 ⟨some 21, .load true 2 (.tmp 4), none⟩,
 ⟨some 22, .move (.tmp 0), none⟩,
 ⟨some 23, .load true 2 (.tmp 4), none⟩,
 ⟨some 24, .call true (.const (.fn 60 [])) [(.tmp 22), (.tmp 23)] [], none⟩,
 ⟨none, .mapSet 5023 (.tmp 20) (.tmp 21) (.tmp 24), none⟩]))))))))
 (.seq
 (.region true [
 ⟨some 25, .move (.tmp 3), none⟩,
 ⟨some 26, .nilCheck (.tmp 25), none⟩,
 ⟨some 27, .faddr (.tmp 26) 1, none⟩,
 ⟨some 28, .load false 1 (.tmp 27), none⟩,
 ⟨some 29, .move (.tmp 0), none⟩,
 ⟨some 30, .nilCheck (.tmp 29), none⟩,
 ⟨some 31, .faddr (.tmp 30) 1, none⟩,
 ⟨some 32, .load false 1 (.tmp 31), none⟩,
 ⟨some 33, .call true (.const (.fn 584 [])) [(.tmp 28), (.tmp 32)] [], none⟩])
 (.seq
 (.region false [
 ⟨some 34, .move (.tmp 3), none⟩,
 ⟨some 2, .assign (.tmp 34), none⟩])
 .ret)))))) }
/-- (*purlin/owner.Table).Got -/
def tf75 : TFn := { ntmps := 20, results := [], body :=
 (.seq
 (.region false [
 ⟨some 6, .move (.tmp 1), none⟩,
 ⟨some 7, .len false (.tmp 6), none⟩,
 ⟨some 8, .move (.const (.int .i64 0)), none⟩])
 (.block 0
 (.loop [0, 6, 7, 8]
 (.seq
 (.region false [
 ⟨some 9, .bin 0 .lss (.tmp 8) (.tmp 7), none⟩])
 (.seq
 (.cond (.tmp 9)
 .skip
 (.exit 0))
 (.seq
 (.block 1
 (.seq
 (.region false [
 ⟨some 10, .idxAddr (.tmp 6) (.tmp 8) 2, none⟩,
 ⟨some 11, .load true 2 (.tmp 10), none⟩,
 ⟨some 5, .box 2 (.const (.agg [.int .i64 0, .int .i64 0])), none⟩,
 ⟨none, .store 2 (.tmp 5) (.tmp 11), none⟩])
 (.seq
 (.region false [
 ⟨some 12, .move (.tmp 0), none⟩,
 ⟨some 13, .bin 2 .neq (.tmp 12) (.const .nilptr), none⟩])
 (.cond (.tmp 13)
 (.region true [
 ⟨some 14, .move (.tmp 0), none⟩,
 ⟨some 15, .nilCheck (.tmp 14), none⟩,
 ⟨some 16, .faddr (.tmp 15) 1, none⟩,
 ⟨some 17, .load false 1 (.tmp 16), none⟩,
 ⟨some 18, .load true 2 (.tmp 5), none⟩,
 ⟨none, .mapDel 5023 (.tmp 17) (.tmp 18), none⟩])
 .skip))))
 (.region false [
 ⟨some 19, .bin 0 .add (.tmp 8) (.const (.int .i64 1)), none⟩,
 ⟨some 8, .move (.tmp 19), none⟩]))))))) }
/-- purlin/owner.order -/
def tf80 : TFn := { ntmps := 13, results := [.tmp 4], body :=
 (.seq
 (.region false [
 ⟨some 2, .box 2 (.tmp 0), none⟩,
 ⟨some 3, .box 2 (.tmp 1), none⟩,
 ⟨some 4, .assign (.const (.int .i64 0)), none⟩])
 (.seq
 (.block 0
 (.seq
 (.region false [
 ⟨some 6, .load true 2 (.tmp 2), none⟩,
 ⟨some 7, .load true 2 (.tmp 3), none⟩,
 ⟨some 8, .call true (.const (.fn 0 [])) [(.tmp 6), (.tmp 7)] [], none⟩,
 ⟨some 5, .assign (.tmp 8), none⟩])
 (.cond (.tmp 5)
 (.seq
 (.region false [
 ⟨some 4, .assign (.const (.int .i64 (-1))), none⟩])
 .ret)
 (.seq
 (.region false [
 ⟨some 10, .load true 2 (.tmp 2), none⟩,
 ⟨some 11, .load true 2 (.tmp 3), none⟩,
 ⟨some 12, .eqAgg false 5023 (.tmp 10) (.tmp 11), none⟩,
 ⟨some 9, .assign (.tmp 12), none⟩])
 (.cond (.tmp 9)
 (.seq
 (.region false [
 ⟨some 4, .assign (.const (.int .i64 0)), none⟩])
 .ret)
 .skip)))))
 (.seq
 (.region false [
 ⟨some 4, .assign (.const (.int .i64 1)), none⟩])
 .ret))) }
/-- slices.Index[[]int,int] -/
def tf85 : TFn := { ntmps := 19, results := [.tmp 4], body :=
 (.seq
 (.region false [
 ⟨some 4, .assign (.const (.int .i64 0)), none⟩])
 (.seq
 (.seq
 (.region false [
 ⟨some 6, .move (.tmp 0), none⟩,
 ⟨some 7, .len false (.tmp 6), none⟩,
 ⟨some 8, .move (.const (.int .i64 0)), none⟩])
 (.block 0
 (.loop [0, 1, 7, 8]
 (.seq
 (.region false [
 ⟨some 9, .bin 0 .lss (.tmp 8) (.tmp 7), none⟩])
 (.seq
 (.cond (.tmp 9)
 .skip
 (.exit 0))
 (.seq
 (.block 1
 (.seq
 (.region false [
 ⟨some 10, .move (.tmp 8), none⟩,
 ⟨some 5, .assign (.tmp 10), none⟩])
 (.seq
 (.region false [
 ⟨some 11, .move (.tmp 1), none⟩,
 ⟨some 12, .move (.tmp 0), none⟩,
 ⟨some 13, .move (.tmp 5), none⟩,
 ⟨some 14, .idxAddr (.tmp 12) (.tmp 13) 1, none⟩,
 ⟨some 15, .load false 1 (.tmp 14), none⟩,
 ⟨some 16, .bin 0 .eql (.tmp 11) (.tmp 15), none⟩])
 (.cond (.tmp 16)
 (.seq
 (.region false [
 ⟨some 17, .move (.tmp 5), none⟩,
 ⟨some 4, .assign (.tmp 17), none⟩])
 .ret)
 .skip))))
 (.region false [
 ⟨some 18, .bin 0 .add (.tmp 8) (.const (.int .i64 1)), none⟩,
 ⟨some 8, .move (.tmp 18), none⟩])))))))
 (.seq
 (.region false [
 ⟨some 4, .assign (.const (.int .i64 (-1))), none⟩])
 .ret))) }
/-- slices.Contains[[]int,int] -/
def tf583 : TFn := { ntmps := 9, results := [.tmp 4], body :=
 (.seq
 (.region false [
 ⟨some 4, .assign (.const (.bool false)), none⟩])
 (.seq
 (.region false [
 ⟨some 5, .move (.tmp 0), none⟩,
 ⟨some 6, .move (.tmp 1), none⟩,
 ⟨some 7, .call true (.const (.fn 85 [])) [(.tmp 5), (.tmp 6)] [], none⟩,
 ⟨some 8, .bin 0 .geq (.tmp 7) (.const (.int .i64 0)), none⟩,
 ⟨some 4, .assign (.tmp 8), none⟩])
 .ret)) }
/-- purlin/purlinlaw15.OwnerApart -/
def tf590 : TFn := { ntmps := 95, results := [.tmp 4], body :=
 (.seq
 (.region false [
 ⟨some 3, .box 2 (.tmp 1), none⟩,
 ⟨some 4, .assign (.const (.bool false)), none⟩])
 (.seq
 (.region false [
 ⟨some 12, .call false (.const (.fn 59 [])) [] [], none⟩,
 ⟨some 5, .assign (.tmp 12), none⟩])
 (.seq
 (.seq
 (.region false [
 ⟨some 6, .assign (.const (.int .i64 0)), none⟩])
 (.block 0
 (.loop [0, 3, 5, 6]
 (.seq
 (.seq
 (.region false [
 ⟨some 13, .move (.tmp 6), none⟩,
 ⟨some 14, .move (.tmp 0), none⟩,
 ⟨some 15, .len false (.tmp 14), none⟩,
 ⟨some 16, .bin 0 .lss (.tmp 13) (.tmp 15), none⟩,
 ⟨some 17, .move (.tmp 16), none⟩,
 ⟨some 18, .move (.tmp 6), (some (17, true))⟩,
 ⟨some 19, .bin 0 .lss (.tmp 18) (.const (.int .i64 100)), (some (17, true))⟩,
 ⟨some 20, .pick (.tmp 17) (.tmp 19) (.const (.bool false)), none⟩])
 (.cond (.tmp 20)
 .skip
 (.exit 0)))
 (.seq
 (.block 1
 (.seq
 (.region false [
 ⟨some 23, .move (.tmp 5), none⟩,
 ⟨some 24, .load true 2 (.tmp 3), none⟩,
 ⟨some 25, .call true (.const (.fn 60 [])) [(.tmp 23), (.tmp 24)] [], none⟩,
 ⟨some 7, .assign (.tmp 25), none⟩])
 (.seq
 (.region false [
 ⟨some 26, .move (.tmp 0), none⟩,
 ⟨some 27, .move (.tmp 6), none⟩,
 ⟨some 28, .idxAddr (.tmp 26) (.tmp 27) 5, none⟩,
 ⟨some 29, .load true 5 (.tmp 28), none⟩,
 ⟨some 8, .box 5 (.const (.agg [.int .i64 0, .int .i64 0, .int .i64 0, .int .i64 0, .sl true 0 2 [] []])), none⟩,
 ⟨none, .store 5 (.tmp 8) (.tmp 29), none⟩])
 (.seq
 (.block 2
 (.seq
 (.region false [
 ⟨some 31, .faddr (.tmp 8) 0, none⟩,
 ⟨some 32, .load false 1 (.tmp 31), none⟩,
 ⟨some 33, .bin 0 .eql (.tmp 32) (.const (.int .i64 0)), none⟩,
 ⟨some 30, .assign (.tmp 33), none⟩])
 (.cond (.tmp 30)
 (.region false [
 ⟨some 34, .move (.tmp 5), none⟩,
 ⟨some 35, .faddr (.tmp 8) 1, none⟩,
 ⟨some 36, .load true 2 (.tmp 35), none⟩,
 ⟨some 37, .faddr (.tmp 8) 3, none⟩,
 ⟨some 38, .load false 1 (.tmp 37), none⟩,
 ⟨some 39, .call false (.const (.fn 61 [])) [(.tmp 34), (.tmp 36), (.tmp 38)] [], none⟩])
 (.seq
 (.region false [
 ⟨some 41, .faddr (.tmp 8) 0, none⟩,
 ⟨some 42, .load false 1 (.tmp 41), none⟩,
 ⟨some 43, .bin 0 .eql (.tmp 42) (.const (.int .i64 1)), none⟩,
 ⟨some 40, .assign (.tmp 43), none⟩])
 (.cond (.tmp 40)
 (.region false [
 ⟨some 44, .move (.tmp 5), none⟩,
 ⟨some 45, .faddr (.tmp 8) 1, none⟩,
 ⟨some 46, .load true 2 (.tmp 45), none⟩,
 ⟨some 47, .call false (.const (.fn 62 [])) [(.tmp 44), (.tmp 46)] [], none⟩])
 (.seq
 (.region false [
 ⟨some 49, .faddr (.tmp 8) 0, none⟩,
 ⟨some 50, .load false 1 (.tmp 49), none⟩,
 ⟨some 51, .bin 0 .eql (.tmp 50) (.const (.int .i64 2)), none⟩,
 ⟨some 48, .assign (.tmp 51), none⟩])
 (.cond (.tmp 48)
 (.region false [
 ⟨some 52, .move (.tmp 5), none⟩,
 ⟨some 53, .faddr (.tmp 8) 1, none⟩,
 ⟨some 54, .load true 2 (.tmp 53), none⟩,
 ⟨some 55, .call false (.const (.fn 63 [])) [(.tmp 52), (.tmp 54)] [], none⟩])
 .skip)))))))
 (.seq
 (.region false [
 ⟨some 56, .move (.tmp 5), none⟩,
 ⟨some 57, .load true 2 (.tmp 3), none⟩,
 ⟨some 58, .call true (.const (.fn 60 [])) [(.tmp 56), (.tmp 57)] [], none⟩,
 ⟨some 9, .assign (.tmp 58), none⟩])
 (.seq
 (.seq
 (.region false [
 ⟨some 59, .faddr (.tmp 8) 1, none⟩,
 ⟨some 60, .load true 2 (.tmp 59), none⟩,
 ⟨some 61, .load true 2 (.tmp 3), none⟩,
 ⟨some 62, .eqAgg true 5023 (.tmp 60) (.tmp 61), none⟩,
 ⟨some 63, .move (.tmp 62), none⟩,
 ⟨some 64, .faddr (.tmp 8) 0, (some (63, false))⟩,
 ⟨some 65, .load false 1 (.tmp 64), (some (63, false))⟩,
 ⟨some 66, .bin 0 .gtr (.tmp 65) (.const (.int .i64 1)), (some (63, false))⟩,
 ⟨some 67, .pick (.tmp 63) (.const (.bool true)) (.tmp 66), none⟩,
 ⟨some 68, .move (.tmp 67), none⟩,
 ⟨some 69, .move (.tmp 7), (some (68, true))⟩,
 ⟨some 70, .move (.tmp 9), (some (68, true))⟩,
 ⟨some 71, .call true (.const (.fn 64 [])) [(.tmp 69), (.tmp 70)] [], (some (68, true))⟩,
 ⟨some 72, .un .not (.tmp 71), (some (68, true))⟩,
 ⟨some 73, .pick (.tmp 68) (.tmp 72) (.const (.bool false)), none⟩])
 (.cond (.tmp 73)
 (.seq
 (.region false [
 ⟨some 4, .assign (.const (.bool false)), none⟩])
 .ret)
 .skip))
 (.seq
 (.region false [
 ⟨some 10, .assign (.const (.int .i64 0)), none⟩])
 (.block 3
 (.loop [0, 3, 5, 6, 9, 10]
 (.seq
 (.seq
 (.region false [
 ⟨some 74, .move (.tmp 10), none⟩,
 ⟨some 75, .move (.tmp 9), none⟩,
 ⟨some 76, .len false (.tmp 75), none⟩,
 ⟨some 77, .bin 0 .lss (.tmp 74) (.tmp 76), none⟩])
 (.cond (.tmp 77)
 .skip
 (.exit 3)))
 (.seq
 (.block 4
 (.seq
 (.region false [
 ⟨some 11, .assign (.const (.int .i64 0)), none⟩])
 (.block 5
 (.loop [0, 3, 5, 6, 9, 10, 11]
 (.seq
 (.seq
 (.region false [
 ⟨some 80, .move (.tmp 11), none⟩,
 ⟨some 81, .move (.tmp 10), none⟩,
 ⟨some 82, .bin 0 .lss (.tmp 80) (.tmp 81), none⟩])
 (.cond (.tmp 82)
 .skip
 (.exit 5)))
 (.seq
 (.block 6
 (.seq
 (.region true [
 ⟨some 85, .move (.tmp 9), none⟩,
 ⟨some 86, .move (.tmp 10), none⟩,
 ⟨some 87, .idxAddr (.tmp 85) (.tmp 86) 1, none⟩,
 ⟨some 88, .load false 1 (.tmp 87), none⟩,
 ⟨some 89, .move (.tmp 9), none⟩,
 ⟨some 90, .move (.tmp 11), none⟩,
 ⟨some 91, .idxAddr (.tmp 89) (.tmp 90) 1, none⟩,
 ⟨some 92, .load false 1 (.tmp 91), none⟩,
 ⟨some 93, .bin 0 .eql (.tmp 88) (.tmp 92), none⟩])
 (.cond (.tmp 93)
 (.seq
 (.region false [
 ⟨some 4, .assign (.const (.bool false)), none⟩])
 .ret)
 .skip)))
 (.region false [
 ⟨some 83, .move (.tmp 11), none⟩,
 ⟨some 84, .bin 0 .add (.tmp 83) (.const (.int .i64 1)), none⟩,
 ⟨some 11, .assign (.tmp 84), none⟩])))))))
 (.region false [
 ⟨some 78, .move (.tmp 10), none⟩,
 ⟨some 79, .bin 0 .add (.tmp 78) (.const (.int .i64 1)), none⟩,
 ⟨some 10, .assign (.tmp 79), none⟩]))))))))))))
 (.region false [
 ⟨some 21, .move (.tmp 6), none⟩,
 ⟨some 22, .bin 0 .add (.tmp 21) (.const (.int .i64 1)), none⟩,
 ⟨some 6, .assign (.tmp 22), none⟩]))))))
 (.seq
 (.region false [
 ⟨some 94, .call true (.const (.fn 65 [])) [] [], none⟩,
 ⟨some 4, .assign (.tmp 94), none⟩])
 .ret)))) }
/-- purlin/purlinlaw15.OwnerNone -/
def tf591 : TFn := { ntmps := 55, results := [.tmp 4], body :=
 (.seq
 (.region false [
 ⟨some 2, .box 2 (.tmp 0), none⟩,
 ⟨some 4, .assign (.const (.bool false)), none⟩])
 (.seq
 (.region false [
 ⟨some 5, .assign (.const .nilptr), none⟩])
 (.seq
 (.region false [
 ⟨some 6, .move (.tmp 5), none⟩,
 ⟨some 7, .load true 2 (.tmp 2), none⟩,
 ⟨some 8, .buildSlice 1 2 [.int .i64 0, .int .i64 0] [(0, (.tmp 7))], none⟩,
 ⟨some 9, .call false (.const (.fn 75 [])) [(.tmp 6), (.tmp 8)] [], none⟩])
 (.seq
 (.region false [
 ⟨some 10, .call true (.const (.fn 65 [])) [] [], none⟩,
 ⟨some 11, .move (.tmp 10), none⟩,
 ⟨some 12, .move (.tmp 5), (some (11, true))⟩,
 ⟨some 13, .load true 2 (.tmp 2), (some (11, true))⟩,
 ⟨some 14, .move (.tmp 1), (some (11, true))⟩,
 ⟨some 15, .call false (.const (.fn 61 [])) [(.tmp 12), (.tmp 13), (.tmp 14)] [], (some (11, true))⟩,
 ⟨some 16, .un .not (.tmp 15), (some (11, true))⟩,
 ⟨some 17, .pick (.tmp 11) (.tmp 16) (.const (.bool false)), none⟩,
 ⟨some 18, .move (.tmp 17), none⟩,
 ⟨some 19, .move (.tmp 5), (some (18, true))⟩,
 ⟨some 20, .load true 2 (.tmp 2), (some (18, true))⟩,
 ⟨some 21, .call false (.const (.fn 62 [])) [(.tmp 19), (.tmp 20)] [], (some (18, true))⟩,
 ⟨some 22, .len false (.tmp 21), (some (18, true))⟩,
 ⟨some 23, .bin 0 .eql (.tmp 22) (.const (.int .i64 0)), (some (18, true))⟩,
 ⟨some 24, .pick (.tmp 18) (.tmp 23) (.const (.bool false)), none⟩,
 ⟨some 25, .move (.tmp 24), none⟩,
 ⟨some 26, .move (.tmp 5), (some (25, true))⟩,
 ⟨some 27, .load true 2 (.tmp 2), (some (25, true))⟩,
 ⟨some 28, .call true (.const (.fn 60 [])) [(.tmp 26), (.tmp 27)] [], (some (25, true))⟩,
 ⟨some 29, .len false (.tmp 28), (some (25, true))⟩,
 ⟨some 30, .bin 0 .eql (.tmp 29) (.const (.int .i64 0)), (some (25, true))⟩,
 ⟨some 31, .pick (.tmp 25) (.tmp 30) (.const (.bool false)), none⟩,
 ⟨some 32, .move (.tmp 31), none⟩,
 ⟨some 33, .move (.tmp 5), (some (32, true))⟩,
 ⟨some 34, .load true 2 (.tmp 2), (some (32, true))⟩,
 ⟨some 35, .call false (.const (.fn 63 [])) [(.tmp 33), (.tmp 34)] [], (some (32, true))⟩,
 ⟨some 36, .un .not (.tmp 35), (some (32, true))⟩,
 ⟨some 37, .pick (.tmp 32) (.tmp 36) (.const (.bool false)), none⟩,
 ⟨some 38, .move (.tmp 37), none⟩,
 ⟨some 39, .move (.tmp 5), (some (38, true))⟩,
 ⟨some 40, .call true (.const (.fn 70 [])) [(.tmp 39)] [], (some (38, true))⟩,
 ⟨some 41, .len false (.tmp 40), (some (38, true))⟩,
 ⟨some 42, .bin 0 .eql (.tmp 41) (.const (.int .i64 0)), (some (38, true))⟩,
 ⟨some 43, .pick (.tmp 38) (.tmp 42) (.const (.bool false)), none⟩,
 ⟨some 44, .move (.tmp 43), none⟩,
 ⟨some 45, .move (.tmp 5), (some (44, true))⟩,
 ⟨some 46, .call true (.const (.fn 69 [])) [(.tmp 45)] [], (some (44, true))⟩,
 ⟨some 47, .len false (.tmp 46), (some (44, true))⟩,
 ⟨some 48, .bin 0 .eql (.tmp 47) (.const (.int .i64 0)), (some (44, true))⟩,
 ⟨some 49, .pick (.tmp 44) (.tmp 48) (.const (.bool false)), none⟩,
 ⟨some 50, .move (.tmp 49), none⟩,
 ⟨some 51, .move (.tmp 5), (some (50, true))⟩,
 ⟨some 52, .call false (.const (.fn 72 [])) [(.tmp 51)] [], (some (50, true))⟩,
 ⟨some 53, .bin 2 .eql (.tmp 52) (.const .nilptr), (some (50, true))⟩,
 ⟨some 54, .pick (.tmp 50) (.tmp 53) (.const (.bool false)), none⟩,
 ⟨some 4, .assign (.tmp 54), none⟩])
 .ret)))) }
def fnTable15 : List (Nat × TFn) := [(59, tf59), (60, tf60), (61, tf61), (62, tf62), (63, tf63), (64, tf64), (65, tf65), (69, tf69), (70, tf70), (72, tf72), (75, tf75), (80, tf80), (85, tf85), (583, tf583), (590, tf590), (591, tf591)]
def nuTable15 : List (Nat × Nat) := [(3, 590), (6, 591), (7, 59), (8, 60), (9, 61), (10, 62), (11, 63), (12, 64), (13, 65), (17, 69), (18, 70), (20, 72), (23, 75), (25, 583), (29, 79), (30, 78), (31, 80), (32, 81), (37, 584), (38, 85), (42, 0)]
end Tree
