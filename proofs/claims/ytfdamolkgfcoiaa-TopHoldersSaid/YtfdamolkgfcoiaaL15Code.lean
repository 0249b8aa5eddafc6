/- Layer 15: the program's functions as E-code. -/
import Derived.Test.YtfdamolkgfcoiaaTE
set_option autoImplicit false
namespace Tree
open Go
/-- purlin/owner.New -/
def tf59 : TFn := { ntmps := 5, results := [.tmp 0], body :=
 (.seq
 (.region false [
 ⟨some 0, .assign (.const .nilptr), none⟩])
 (.seq
 (.region false [
 ⟨some 1, .mkmap, none⟩,
 ⟨some 2, .mkmap, none⟩,
 ⟨some 3, .build [.nilmap, .nilmap] [(0, 1, (.tmp 1)), (1, 1, (.tmp 2))], none⟩,
 ⟨some 4, .new 2 (.tmp 3), none⟩,
 ⟨some 0, .assign (.tmp 4), none⟩])
 .ret)) }
/-- (*purlin/owner.Table).Waiters -/
def tf60 : TFn := { ntmps := 35, results := [.tmp 4], body :=
 (.seq
 (.region false [
 ⟨some 3, .box 2 (.tmp 1), none⟩,
 ⟨some 4, .assign (.const (.sl true 0 1 [] [])), none⟩])
 (.seq
 (.seq
 (.region true [
 ⟨some 6, .move (.tmp 0), none⟩,
 ⟨some 7, .bin 2 .eql (.tmp 6) (.const .nilptr), none⟩,
 ⟨some 8, .move (.tmp 7), none⟩,
 ⟨some 9, .move (.tmp 0), (some (8, false))⟩,
 ⟨some 10, .nilCheck (.tmp 9), (some (8, false))⟩,
 ⟨some 11, .faddr (.tmp 10) 0, (some (8, false))⟩,
 ⟨some 12, .load false 1 (.tmp 11), (some (8, false))⟩,
 ⟨some 13, .load true 2 (.tmp 3), (some (8, false))⟩,
 ⟨some 14, .lookup 5023 (.sl true 0 1 [] []) false (.tmp 12) (.tmp 13), (some (8, false))⟩,
 ⟨some 15, .len false (.tmp 14), (some (8, false))⟩,
 ⟨some 16, .bin 0 .eql (.tmp 15) (.const (.int .i64 0)), (some (8, false))⟩,
 ⟨some 17, .pick (.tmp 8) (.const (.bool true)) (.tmp 16), none⟩])
 (.cond (.tmp 17)
 (.seq
 (.region false [
 ⟨some 4, .assign (.const (.sl true 0 1 [] [])), none⟩])
 .ret)
 .skip))
 (.seq
 (.region true [
 ⟨some 18, .move (.tmp 0), none⟩,
 ⟨some 19, .nilCheck (.tmp 18), none⟩,
 ⟨some 20, .faddr (.tmp 19) 0, none⟩,
 ⟨some 21, .load false 1 (.tmp 20), none⟩,
 ⟨some 22, .load true 2 (.tmp 3), none⟩,
 ⟨some 23, .lookup 5023 (.sl true 0 1 [] []) false (.tmp 21) (.tmp 22), none⟩,
 ⟨some 24, .len false (.tmp 23), none⟩,
 ⟨some 25, .mkslice 1 8 [.int .i64 0] (.tmp 24) (.tmp 24), none⟩,
 ⟨some 5, .assign (.tmp 25), none⟩])
 (.seq
 (.region true [
 ⟨some 26, .move (.tmp 5), none⟩,
 ⟨some 27, .move (.tmp 0), none⟩,
 ⟨some 28, .nilCheck (.tmp 27), none⟩,
 ⟨some 29, .faddr (.tmp 28) 0, none⟩,
 ⟨some 30, .load false 1 (.tmp 29), none⟩,
 ⟨some 31, .load true 2 (.tmp 3), none⟩,
 ⟨some 32, .lookup 5023 (.sl true 0 1 [] []) false (.tmp 30) (.tmp 31), none⟩,
 ⟨some 33, .copy 1 (.tmp 26) (.tmp 32), none⟩])
 (.seq
 (.region false [
 ⟨some 34, .move (.tmp 5), none⟩,
 ⟨some 4, .assign (.tmp 34), none⟩])
 .ret))))) }
/-- (*purlin/owner.Table).Ask -/
def tf61 : TFn := { ntmps := 30, results := [.tmp 6], body :=
 (.seq
 (.region false [
 ⟨some 4, .box 2 (.tmp 1), none⟩,
 ⟨some 6, .assign (.const (.bool false)), none⟩])
 (.seq
 (.seq
 (.region true [
 ⟨some 7, .move (.tmp 0), none⟩,
 ⟨some 8, .bin 2 .eql (.tmp 7) (.const .nilptr), none⟩,
 ⟨some 9, .move (.tmp 8), none⟩,
 ⟨some 10, .move (.tmp 0), (some (9, false))⟩,
 ⟨some 11, .nilCheck (.tmp 10), (some (9, false))⟩,
 ⟨some 12, .faddr (.tmp 11) 0, (some (9, false))⟩,
 ⟨some 13, .load false 1 (.tmp 12), (some (9, false))⟩,
 ⟨some 14, .load true 2 (.tmp 4), (some (9, false))⟩,
 ⟨some 15, .lookup 5023 (.sl true 0 1 [] []) false (.tmp 13) (.tmp 14), (some (9, false))⟩,
 ⟨some 16, .move (.tmp 2), (some (9, false))⟩,
 ⟨some 17, .call true (.const (.fn 583 [])) [(.tmp 15), (.tmp 16)] [], (some (9, false))⟩,
 ⟨some 18, .pick (.tmp 9) (.const (.bool true)) (.tmp 17), none⟩])
 (.cond (.tmp 18)
 (.seq
 (.region false [
 ⟨some 6, .assign (.const (.bool false)), none⟩])
 .ret)
 .skip))
 (.seq
 (.region true [
 ⟨some 19, .move (.tmp 0), none⟩,
 ⟨some 20, .nilCheck (.tmp 19), none⟩,
 ⟨some 21, .faddr (.tmp 20) 0, none⟩,
 ⟨some 22, .load false 1 (.tmp 21), none⟩,
 ⟨some 23, .load true 2 (.tmp 4), none⟩,
 ⟨some 24, .move (.tmp 0), none⟩,
 ⟨some 25, .load true 2 (.tmp 4), none⟩,
 ⟨some 26, .call true (.const (.fn 60 [])) [(.tmp 24), (.tmp 25)] [], none⟩,
 ⟨some 27, .move (.tmp 2), none⟩,
 ⟨some 28, .buildSlice 1 1 [.int .i64 0] [(0, (.tmp 27))], none⟩,
 ⟨some 29, .append 1 8 (.tmp 26) (.tmp 28), none⟩,
 ⟨none, .mapSet 5023 (.tmp 22) (.tmp 23) (.tmp 29), none⟩])
 (.seq
 (.region false [
 ⟨some 6, .assign (.const (.bool true)), none⟩])
 .ret)))) }
/-- (*purlin/owner.Table).Tell -/
def tf62 : TFn := { ntmps := 17, results := [.tmp 4], body :=
 (.seq
 (.region false [
 ⟨some 3, .box 2 (.tmp 1), none⟩,
 ⟨some 4, .assign (.const (.sl true 0 1 [] [])), none⟩])
 (.seq
 (.region false [
 ⟨some 6, .move (.tmp 0), none⟩,
 ⟨some 7, .load true 2 (.tmp 3), none⟩,
 ⟨some 8, .call true (.const (.fn 60 [])) [(.tmp 6), (.tmp 7)] [], none⟩,
 ⟨some 5, .assign (.tmp 8), none⟩])
 (.seq
 (.seq
 (.region false [
 ⟨some 9, .move (.tmp 0), none⟩,
 ⟨some 10, .bin 2 .neq (.tmp 9) (.const .nilptr), none⟩])
 (.cond (.tmp 10)
 (.region true [
 ⟨some 11, .move (.tmp 0), none⟩,
 ⟨some 12, .nilCheck (.tmp 11), none⟩,
 ⟨some 13, .faddr (.tmp 12) 0, none⟩,
 ⟨some 14, .load false 1 (.tmp 13), none⟩,
 ⟨some 15, .load true 2 (.tmp 3), none⟩,
 ⟨none, .mapDel 5023 (.tmp 14) (.tmp 15), none⟩])
 .skip))
 (.seq
 (.region false [
 ⟨some 16, .move (.tmp 5), none⟩,
 ⟨some 4, .assign (.tmp 16), none⟩])
 .ret)))) }
/-- slices.Index[[]int,int] -/
def tf85 : TFn := { ntmps := 19, results := [.tmp 4], body :=
 (.seq
 (.region false [
 ⟨some 4, .assign (.const (.int .i64 0)), none⟩])
 (.seq
 (.seq
 (.region false [
 ⟨some 6, .move (.tmp 0), none⟩,
 ⟨some 7, .len false (.tmp 6), none⟩,
 ⟨some 8, .move (.const (.int .i64 0)), none⟩])
 (.block 0
 (.loop [0, 1, 7, 8]
 (.seq
 (.region false [
 ⟨some 9, .bin 0 .lss (.tmp 8) (.tmp 7), none⟩])
 (.seq
 (.cond (.tmp 9)
 .skip
 (.exit 0))
 (.seq
 (.block 1
 (.seq
 (.region false [
 ⟨some 10, .move (.tmp 8), none⟩,
 ⟨some 5, .assign (.tmp 10), none⟩])
 (.seq
 (.region false [
 ⟨some 11, .move (.tmp 1), none⟩,
 ⟨some 12, .move (.tmp 0), none⟩,
 ⟨some 13, .move (.tmp 5), none⟩,
 ⟨some 14, .idxAddr (.tmp 12) (.tmp 13) 1, none⟩,
 ⟨some 15, .load false 1 (.tmp 14), none⟩,
 ⟨some 16, .bin 0 .eql (.tmp 11) (.tmp 15), none⟩])
 (.cond (.tmp 16)
 (.seq
 (.region false [
 ⟨some 17, .move (.tmp 5), none⟩,
 ⟨some 4, .assign (.tmp 17), none⟩])
 .ret)
 .skip))))
 (.region false [
 ⟨some 18, .bin 0 .add (.tmp 8) (.const (.int .i64 1)), none⟩,
 ⟨some 8, .move (.tmp 18), none⟩])))))))
 (.seq
 (.region false [
 ⟨some 4, .assign (.const (.int .i64 (-1))), none⟩])
 .ret))) }
/-- slices.Contains[[]int,int] -/
def tf583 : TFn := { ntmps := 9, results := [.tmp 4], body :=
 (.seq
 (.region false [
 ⟨some 4, .assign (.const (.bool false)), none⟩])
 (.seq
 (.region false [
 ⟨some 5, .move (.tmp 0), none⟩,
 ⟨some 6, .move (.tmp 1), none⟩,
 ⟨some 7, .call true (.const (.fn 85 [])) [(.tmp 5), (.tmp 6)] [], none⟩,
 ⟨some 8, .bin 0 .geq (.tmp 7) (.const (.int .i64 0)), none⟩,
 ⟨some 4, .assign (.tmp 8), none⟩])
 .ret)) }
def fnTable15 : List (Nat × TFn) := [(59, tf59), (60, tf60), (61, tf61), (62, tf62), (85, tf85), (583, tf583)]
end Tree
