/- Layer 4: the program's functions as E-code. -/
import Derived.Test.YtpjoppajohmmnaaDoorTE
set_option autoImplicit false
namespace Tree
open Go
/-- slices.ContainsFunc[[]purlin/api.Name,purlin/api.Name] -/
def tf174 : TFn := { ntmps := 9, results := [.tmp 4], body :=
 (.seq
 (.region false [
 ⟨some 4, .assign (.const (.bool false)), none⟩])
 (.seq
 (.region false [
 ⟨some 5, .move (.tmp 0), none⟩,
 ⟨some 6, .move (.tmp 1), none⟩,
 ⟨some 7, .call true (.const (.fn 207 [])) [(.tmp 5), (.tmp 6)] [], none⟩,
 ⟨some 8, .bin 0 .geq (.tmp 7) (.const (.int .i64 0)), none⟩,
 ⟨some 4, .assign (.tmp 8), none⟩])
 .ret)) }
/-- slices.IndexFunc[[]purlin/api.Name,purlin/api.Name] -/
def tf207 : TFn := { ntmps := 19, results := [.tmp 4], body :=
 (.seq
 (.region false [
 ⟨some 4, .assign (.const (.int .i64 0)), none⟩])
 (.seq
 (.seq
 (.region false [
 ⟨some 6, .move (.tmp 0), none⟩,
 ⟨some 7, .len false (.tmp 6), none⟩,
 ⟨some 8, .move (.const (.int .i64 0)), none⟩])
 (.block 0
 (.loop [0, 1, 7, 8]
 (.seq
 (.region false [
 ⟨some 9, .bin 0 .lss (.tmp 8) (.tmp 7), none⟩])
 (.seq
 (.cond (.tmp 9)
 .skip
 (.exit 0))
 (.seq
 (.block 1
 (.seq
 (.region false [
 ⟨some 10, .move (.tmp 8), none⟩,
 ⟨some 5, .assign (.tmp 10), none⟩])
 (.seq
 (.region false [
 ⟨some 11, .move (.tmp 1), none⟩,
 ⟨some 12, .move (.tmp 0), none⟩,
 ⟨some 13, .move (.tmp 5), none⟩,
 ⟨some 14, .idxAddr (.tmp 12) (.tmp 13) 2, none⟩,
 ⟨some 15, .load true 2 (.tmp 14), none⟩,
 ⟨some 16, .call true (.tmp 11) [(.tmp 15)] [], none⟩])
 (.cond (.tmp 16)
 (.seq
 (.region false [
 ⟨some 17, .move (.tmp 5), none⟩,
 ⟨some 4, .assign (.tmp 17), none⟩])
 .ret)
 .skip))))
 (.region false [
 ⟨some 18, .bin 0 .add (.tmp 8) (.const (.int .i64 1)), none⟩,
 ⟨some 8, .move (.tmp 18), none⟩])))))))
 (.seq
 (.region false [
 ⟨some 4, .assign (.const (.int .i64 (-1))), none⟩])
 .ret))) }
/-- purlin/purlinref01.Is -/
def tf256 : TFn := { ntmps := 42, results := [.tmp 6], body :=
 (.seq
 (.region false [
 ⟨some 6, .assign (.const (.bool false)), none⟩])
 (.seq
 (.seq
 (.region false [
 ⟨some 7, .move (.tmp 0), none⟩,
 ⟨some 8, .len false (.tmp 7), none⟩,
 ⟨some 9, .bin 0 .eql (.tmp 8) (.const (.int .i64 0)), none⟩,
 ⟨some 10, .move (.tmp 9), none⟩,
 ⟨some 11, .move (.tmp 0), (some (10, false))⟩,
 ⟨some 12, .idxAddr (.tmp 11) (.const (.int .i64 0)) 5, (some (10, false))⟩,
 ⟨some 13, .faddr (.tmp 12) 1, (some (10, false))⟩,
 ⟨some 14, .load false 1 (.tmp 13), (some (10, false))⟩,
 ⟨some 15, .move (.tmp 1), (some (10, false))⟩,
 ⟨some 16, .bin 0 .neq (.tmp 14) (.tmp 15), (some (10, false))⟩,
 ⟨some 17, .pick (.tmp 10) (.const (.bool true)) (.tmp 16), none⟩])
 (.cond (.tmp 17)
 (.seq
 (.region false [
 ⟨some 6, .assign (.const (.bool false)), none⟩])
 .ret)
 .skip))
 (.seq
 (.region false [
 ⟨some 18, .move (.tmp 0), none⟩,
 ⟨some 19, .idxAddr (.tmp 18) (.const (.int .i64 0)) 5, none⟩,
 ⟨some 20, .faddr (.tmp 19) 0, none⟩,
 ⟨some 21, .load false 1 (.tmp 20), none⟩,
 ⟨some 22, .bin 0 .eql (.tmp 21) (.const (.int .u8 3)), none⟩,
 ⟨some 23, .move (.tmp 22), none⟩,
 ⟨some 24, .move (.tmp 0), (some (23, true))⟩,
 ⟨some 25, .idxAddr (.tmp 24) (.const (.int .i64 0)) 5, (some (23, true))⟩,
 ⟨some 26, .faddr (.tmp 25) 2, (some (23, true))⟩,
 ⟨some 27, .load false 1 (.tmp 26), (some (23, true))⟩,
 ⟨some 28, .move (.tmp 2), (some (23, true))⟩,
 ⟨some 29, .bin 0 .eql (.tmp 27) (.tmp 28), (some (23, true))⟩,
 ⟨some 30, .pick (.tmp 23) (.tmp 29) (.const (.bool false)), none⟩,
 ⟨some 31, .move (.tmp 30), none⟩,
 ⟨some 32, .move (.tmp 2), (some (31, false))⟩,
 ⟨some 33, .bin 0 .eql (.tmp 32) (.const (.int .i64 0)), (some (31, false))⟩,
 ⟨some 34, .move (.tmp 33), (some (31, false))⟩,
 ⟨some 35, .move (.tmp 0), (some (34, true))⟩,
 ⟨some 36, .idxAddr (.tmp 35) (.const (.int .i64 0)) 5, (some (34, true))⟩,
 ⟨some 37, .faddr (.tmp 36) 0, (some (34, true))⟩,
 ⟨some 38, .load false 1 (.tmp 37), (some (34, true))⟩,
 ⟨some 39, .bin 0 .eql (.tmp 38) (.const (.int .u8 2)), (some (34, true))⟩,
 ⟨some 40, .pick (.tmp 34) (.tmp 39) (.const (.bool false)), (some (31, false))⟩,
 ⟨some 41, .pick (.tmp 31) (.const (.bool true)) (.tmp 40), none⟩,
 ⟨some 6, .assign (.tmp 41), none⟩])
 .ret))) }
/-- purlin/check.Where -/
def tf273 : TFn := { ntmps := 41, results := [.tmp 2, .tmp 3], body :=
 (.seq
 (.region false [
 ⟨some 2, .assign (.const (.int .i64 0)), none⟩,
 ⟨some 3, .assign (.const (.int .i64 0)), none⟩])
 (.seq
 (.seq
 (.region false [
 ⟨some 10, .move (.tmp 0), none⟩,
 ⟨some 11, .len false (.tmp 10), none⟩,
 ⟨some 12, .bin 0 .gtr (.tmp 11) (.const (.int .i64 64)), none⟩])
 (.cond (.tmp 12)
 (.seq
 (.region false [
 ⟨some 2, .assign (.const (.int .i64 0)), none⟩,
 ⟨some 3, .assign (.const (.int .i64 5)), none⟩])
 .ret)
 .skip))
 (.seq
 (.region false [
 ⟨some 13, .move (.tmp 0), none⟩,
 ⟨some 14, .buildSlice 1 1 [.sl true 0 4 [] []] [(0, (.tmp 13))], none⟩,
 ⟨some 15, .call true (.const (.fn 286 [])) [(.tmp 14)] [], none⟩,
 ⟨some 4, .box 1 (.const (.sl true 0 2 [] [])), none⟩,
 ⟨none, .store 1 (.tmp 4) (.tmp 15), none⟩])
 (.seq
 (.region false [
 ⟨some 16, .makeFunc 290 [(.tmp 4)], none⟩,
 ⟨some 5, .assign (.tmp 16), none⟩])
 (.seq
 (.region false [
 ⟨some 17, .build [.nilfn, .int .i64 0] [(0, 1, (.const (.fn 291 []))), (1, 1, (.const (.int .i64 5)))], none⟩,
 ⟨some 18, .build [.nilfn, .int .i64 0] [(0, 1, (.const (.fn 292 []))), (1, 1, (.const (.int .i64 6)))], none⟩,
 ⟨some 19, .build [.nilfn, .int .i64 0] [(0, 1, (.const (.fn 293 []))), (1, 1, (.const (.int .i64 40)))], none⟩,
 ⟨some 20, .build [.nilfn, .int .i64 0] [(0, 1, (.const (.fn 294 []))), (1, 1, (.const (.int .i64 41)))], none⟩,
 ⟨some 21, .build [.nilfn, .int .i64 0] [(0, 1, (.const (.fn 295 []))), (1, 1, (.const (.int .i64 42)))], none⟩,
 ⟨some 22, .move (.tmp 5), none⟩,
 ⟨some 23, .build [.nilfn, .int .i64 0] [(0, 1, (.tmp 22)), (1, 1, (.const (.int .i64 43)))], none⟩,
 ⟨some 24, .buildSlice 6 2 [.nilfn, .int .i64 0] [(0, (.tmp 17)), (1, (.tmp 18)), (2, (.tmp 19)), (3, (.tmp 20)), (4, (.tmp 21)), (5, (.tmp 23))], none⟩,
 ⟨some 6, .assign (.tmp 24), none⟩])
 (.seq
 (.seq
 (.region false [
 ⟨some 25, .move (.tmp 6), none⟩,
 ⟨some 26, .len false (.tmp 25), none⟩,
 ⟨some 27, .move (.const (.int .i64 0)), none⟩])
 (.block 0
 (.loop [0, 25, 26, 27]
 (.seq
 (.region false [
 ⟨some 28, .bin 0 .lss (.tmp 27) (.tmp 26), none⟩])
 (.seq
 (.cond (.tmp 28)
 .skip
 (.exit 0))
 (.seq
 (.block 1
 (.seq
 (.region false [
 ⟨some 29, .idxAddr (.tmp 25) (.tmp 27) 2, none⟩,
 ⟨some 30, .load true 2 (.tmp 29), none⟩,
 ⟨some 8, .box 2 (.const (.agg [.nilfn, .int .i64 0])), none⟩,
 ⟨none, .store 2 (.tmp 8) (.tmp 30), none⟩])
 (.seq
 (.region false [
 ⟨some 31, .move (.tmp 0), none⟩,
 ⟨some 32, .faddr (.tmp 8) 0, none⟩,
 ⟨some 33, .load false 1 (.tmp 32), none⟩,
 ⟨some 34, .call true (.const (.fn 296 [])) [(.tmp 31), (.tmp 33)] [], none⟩,
 ⟨some 9, .assign (.tmp 34), none⟩])
 (.seq
 (.region false [
 ⟨some 35, .move (.tmp 9), none⟩,
 ⟨some 36, .bin 0 .geq (.tmp 35) (.const (.int .i64 0)), none⟩])
 (.cond (.tmp 36)
 (.seq
 (.region true [
 ⟨some 37, .move (.tmp 9), none⟩,
 ⟨some 38, .faddr (.tmp 8) 1, none⟩,
 ⟨some 39, .load false 1 (.tmp 38), none⟩,
 ⟨some 2, .move (.tmp 37), none⟩,
 ⟨some 3, .move (.tmp 39), none⟩])
 .ret)
 .skip)))))
 (.region false [
 ⟨some 40, .bin 0 .add (.tmp 27) (.const (.int .i64 1)), none⟩,
 ⟨some 27, .move (.tmp 40), none⟩])))))))
 (.seq
 (.region false [
 ⟨some 2, .assign (.const (.int .i64 0)), none⟩,
 ⟨some 3, .assign (.const (.int .i64 0)), none⟩])
 .ret))))))) }
/-- purlin/purlinref04.Where -/
def tf274 : TFn := { ntmps := 38, results := [.tmp 2, .tmp 3], body :=
 (.seq
 (.region false [
 ⟨some 2, .assign (.const (.int .i64 0)), none⟩,
 ⟨some 3, .assign (.const (.int .i64 0)), none⟩])
 (.seq
 (.seq
 (.region false [
 ⟨some 7, .move (.tmp 0), none⟩,
 ⟨some 8, .len false (.tmp 7), none⟩,
 ⟨some 9, .bin 0 .gtr (.tmp 8) (.const (.int .i64 64)), none⟩])
 (.cond (.tmp 9)
 (.seq
 (.region false [
 ⟨some 2, .assign (.const (.int .i64 0)), none⟩,
 ⟨some 3, .assign (.const (.int .i64 5)), none⟩])
 .ret)
 .skip))
 (.seq
 (.region false [
 ⟨some 10, .buildSlice 6 1 [.int .i64 0] [(0, (.const (.int .i64 5))), (1, (.const (.int .i64 6))), (2, (.const (.int .i64 40))), (3, (.const (.int .i64 41))), (4, (.const (.int .i64 42))), (5, (.const (.int .i64 43)))], none⟩,
 ⟨some 4, .assign (.tmp 10), none⟩])
 (.seq
 (.seq
 (.region false [
 ⟨some 5, .assign (.const (.int .i64 0)), none⟩])
 (.block 0
 (.loop [0, 4, 5]
 (.seq
 (.seq
 (.region false [
 ⟨some 11, .move (.tmp 5), none⟩,
 ⟨some 12, .move (.tmp 4), none⟩,
 ⟨some 13, .len false (.tmp 12), none⟩,
 ⟨some 14, .bin 0 .lss (.tmp 11) (.tmp 13), none⟩])
 (.cond (.tmp 14)
 .skip
 (.exit 0)))
 (.seq
 (.block 1
 (.seq
 (.region false [
 ⟨some 6, .assign (.const (.int .i64 0)), none⟩])
 (.block 2
 (.loop [0, 4, 5, 6]
 (.seq
 (.seq
 (.region false [
 ⟨some 17, .move (.tmp 6), none⟩,
 ⟨some 18, .move (.tmp 0), none⟩,
 ⟨some 19, .len false (.tmp 18), none⟩,
 ⟨some 20, .bin 0 .lss (.tmp 17) (.tmp 19), none⟩])
 (.cond (.tmp 20)
 .skip
 (.exit 2)))
 (.seq
 (.block 3
 (.seq
 (.region true [
 ⟨some 23, .move (.tmp 0), none⟩,
 ⟨some 24, .move (.tmp 0), none⟩,
 ⟨some 25, .move (.tmp 6), none⟩,
 ⟨some 26, .idxAddr (.tmp 24) (.tmp 25) 4, none⟩,
 ⟨some 27, .load true 4 (.tmp 26), none⟩,
 ⟨some 28, .move (.tmp 4), none⟩,
 ⟨some 29, .move (.tmp 5), none⟩,
 ⟨some 30, .idxAddr (.tmp 28) (.tmp 29) 1, none⟩,
 ⟨some 31, .load false 1 (.tmp 30), none⟩,
 ⟨some 32, .call true (.const (.fn 297 [])) [(.tmp 23), (.tmp 27), (.tmp 31)] [], none⟩])
 (.cond (.tmp 32)
 (.seq
 (.region true [
 ⟨some 33, .move (.tmp 6), none⟩,
 ⟨some 34, .move (.tmp 4), none⟩,
 ⟨some 35, .move (.tmp 5), none⟩,
 ⟨some 36, .idxAddr (.tmp 34) (.tmp 35) 1, none⟩,
 ⟨some 37, .load false 1 (.tmp 36), none⟩,
 ⟨some 2, .move (.tmp 33), none⟩,
 ⟨some 3, .move (.tmp 37), none⟩])
 .ret)
 .skip)))
 (.region false [
 ⟨some 21, .move (.tmp 6), none⟩,
 ⟨some 22, .bin 0 .add (.tmp 21) (.const (.int .i64 1)), none⟩,
 ⟨some 6, .assign (.tmp 22), none⟩])))))))
 (.region false [
 ⟨some 15, .move (.tmp 5), none⟩,
 ⟨some 16, .bin 0 .add (.tmp 15) (.const (.int .i64 1)), none⟩,
 ⟨some 5, .assign (.tmp 16), none⟩]))))))
 (.seq
 (.region false [
 ⟨some 2, .assign (.const (.int .i64 0)), none⟩,
 ⟨some 3, .assign (.const (.int .i64 0)), none⟩])
 .ret))))) }
/-- purlin/purlinlaw04.live -/
def tf275 : TFn := { ntmps := 69, results := [.tmp 0], body :=
 (.seq
 (.region false [
 ⟨some 0, .assign (.const (.bool false)), none⟩])
 (.seq
 (.region false [
 ⟨some 3, .call true (.const (.fn 298 [])) [(.const (.int .i64 0))] [], none⟩,
 ⟨some 4, .buildSlice 1 1 [.sl true 0 5 [] []] [(0, (.tmp 3))], none⟩,
 ⟨some 5, .call true (.const (.fn 299 [])) [(.const (.str ⟨#[112]⟩)), (.tmp 4)] [], none⟩,
 ⟨some 6, .call true (.const (.fn 298 [])) [(.const (.int .i64 0))] [], none⟩,
 ⟨some 7, .call true (.const (.fn 298 [])) [(.const (.int .i64 1))] [], none⟩,
 ⟨some 8, .buildSlice 1 1 [.sl true 0 5 [] []] [(0, (.tmp 7))], none⟩,
 ⟨some 9, .call true (.const (.fn 299 [])) [(.const (.str ⟨#[102]⟩)), (.tmp 8)] [], none⟩,
 ⟨some 10, .buildSlice 2 1 [.sl true 0 5 [] []] [(0, (.tmp 6)), (1, (.tmp 9))], none⟩,
 ⟨some 11, .call true (.const (.fn 299 [])) [(.const (.str ⟨#[61]⟩)), (.tmp 10)] [], none⟩,
 ⟨some 12, .call true (.const (.fn 298 [])) [(.const (.int .i64 1))] [], none⟩,
 ⟨some 13, .buildSlice 1 1 [.sl true 0 5 [] []] [(0, (.tmp 12))], none⟩,
 ⟨some 14, .call true (.const (.fn 299 [])) [(.const (.str ⟨#[113]⟩)), (.tmp 13)] [], none⟩,
 ⟨some 15, .build [.int .u8 0, .str ⟨#[]⟩, .int .i64 0, .int .i64 0, .int .i64 0] [(0, 1, (.const (.int .u8 1))), (2, 1, (.const (.int .i64 1)))], none⟩,
 ⟨some 16, .buildSlice 1 5 [.int .u8 0, .str ⟨#[]⟩, .int .i64 0, .int .i64 0, .int .i64 0] [(0, (.tmp 15))], none⟩,
 ⟨some 17, .buildSlice 2 1 [.sl true 0 5 [] []] [(0, (.tmp 14)), (1, (.tmp 16))], none⟩,
 ⟨some 18, .call true (.const (.fn 299 [])) [(.const (.str ⟨#[64]⟩)), (.tmp 17)] [], none⟩,
 ⟨some 19, .buildSlice 2 1 [.sl true 0 5 [] []] [(0, (.tmp 11)), (1, (.tmp 18))], none⟩,
 ⟨some 20, .build [.sl true 0 5 [] [], .sl true 0 1 [] [], .sl true 0 1 [] [], .int .i64 0] [(0, 1, (.tmp 5)), (2, 1, (.tmp 19)), (3, 1, (.const (.int .i64 2)))], none⟩,
 ⟨some 21, .build [.int .u8 0, .str ⟨#[]⟩, .int .i64 0, .int .i64 0, .int .i64 0] [(0, 1, (.const (.int .u8 2))), (1, 1, (.const (.str ⟨#[97]⟩)))], none⟩,
 ⟨some 22, .buildSlice 1 5 [.int .u8 0, .str ⟨#[]⟩, .int .i64 0, .int .i64 0, .int .i64 0] [(0, (.tmp 21))], none⟩,
 ⟨some 23, .buildSlice 1 1 [.sl true 0 5 [] []] [(0, (.tmp 22))], none⟩,
 ⟨some 24, .call true (.const (.fn 299 [])) [(.const (.str ⟨#[113]⟩)), (.tmp 23)] [], none⟩,
 ⟨some 25, .build [.sl true 0 5 [] [], .sl true 0 1 [] [], .sl true 0 1 [] [], .int .i64 0] [(0, 1, (.tmp 24))], none⟩,
 ⟨some 26, .buildSlice 2 4 [.sl true 0 5 [] [], .sl true 0 1 [] [], .sl true 0 1 [] [], .int .i64 0] [(0, (.tmp 20)), (1, (.tmp 25))], none⟩,
 ⟨some 1, .assign (.tmp 26), none⟩])
 (.seq
 (.region false [
 ⟨some 27, .move (.tmp 1), none⟩,
 ⟨some 28, .call true (.const (.fn 279 [])) [(.tmp 27), (.const (.int .i64 0))] [], none⟩,
 ⟨some 2, .assign (.tmp 28), none⟩])
 (.seq
 (.region false [
 ⟨some 29, .move (.tmp 1), none⟩,
 ⟨some 30, .call true (.const (.fn 276 [])) [(.tmp 29)] [], none⟩,
 ⟨some 31, .bin 0 .eql (.tmp 30) (.const (.int .i64 0)), none⟩,
 ⟨some 32, .move (.tmp 31), none⟩,
 ⟨some 33, .move (.tmp 1), (some (32, true))⟩,
 ⟨some 34, .slice 4 (.tmp 33) none (some (.const (.int .i64 1))), (some (32, true))⟩,
 ⟨some 35, .call true (.const (.fn 276 [])) [(.tmp 34)] [], (some (32, true))⟩,
 ⟨some 36, .bin 0 .eql (.tmp 35) (.const (.int .i64 43)), (some (32, true))⟩,
 ⟨some 37, .pick (.tmp 32) (.tmp 36) (.const (.bool false)), none⟩,
 ⟨some 38, .move (.tmp 37), none⟩,
 ⟨some 39, .move (.tmp 2), (some (38, true))⟩,
 ⟨some 40, .len false (.tmp 39), (some (38, true))⟩,
 ⟨some 41, .bin 0 .eql (.tmp 40) (.const (.int .i64 1)), (some (38, true))⟩,
 ⟨some 42, .pick (.tmp 38) (.tmp 41) (.const (.bool false)), none⟩,
 ⟨some 43, .move (.tmp 42), none⟩,
 ⟨some 44, .move (.tmp 2), (some (43, true))⟩,
 ⟨some 45, .idxAddr (.tmp 44) (.const (.int .i64 0)) 2, (some (43, true))⟩,
 ⟨some 46, .load true 2 (.tmp 45), (some (43, true))⟩,
 ⟨some 47, .build [.str ⟨#[]⟩, .int .i64 0] [(0, 1, (.const (.str ⟨#[113]⟩))), (1, 1, (.const (.int .i64 1)))], (some (43, true))⟩,
 ⟨some 48, .eqAgg false 6100 (.tmp 46) (.tmp 47), (some (43, true))⟩,
 ⟨some 49, .pick (.tmp 43) (.tmp 48) (.const (.bool false)), none⟩,
 ⟨some 50, .move (.tmp 49), none⟩,
 ⟨some 51, .move (.tmp 1), (some (50, true))⟩,
 ⟨some 52, .idxAddr (.tmp 51) (.const (.int .i64 0)) 4, (some (50, true))⟩,
 ⟨some 53, .faddr (.tmp 52) 2, (some (50, true))⟩,
 ⟨some 54, .load false 1 (.tmp 53), (some (50, true))⟩,
 ⟨some 55, .idxAddr (.tmp 54) (.const (.int .i64 1)) 1, (some (50, true))⟩,
 ⟨some 56, .load false 1 (.tmp 55), (some (50, true))⟩,
 ⟨some 57, .call true (.const (.fn 284 [])) [(.tmp 56)] [], (some (50, true))⟩,
 ⟨some 58, .pick (.tmp 50) (.tmp 57) (.const (.bool false)), none⟩,
 ⟨some 59, .move (.tmp 58), none⟩,
 ⟨some 60, .move (.tmp 1), (some (59, true))⟩,
 ⟨some 61, .idxAddr (.tmp 60) (.const (.int .i64 0)) 4, (some (59, true))⟩,
 ⟨some 62, .faddr (.tmp 61) 2, (some (59, true))⟩,
 ⟨some 63, .load false 1 (.tmp 62), (some (59, true))⟩,
 ⟨some 64, .idxAddr (.tmp 63) (.const (.int .i64 1)) 1, (some (59, true))⟩,
 ⟨some 65, .load false 1 (.tmp 64), (some (59, true))⟩,
 ⟨some 66, .call true (.const (.fn 282 [])) [(.tmp 65)] [], (some (59, true))⟩,
 ⟨some 67, .un .not (.tmp 66), (some (59, true))⟩,
 ⟨some 68, .pick (.tmp 59) (.tmp 67) (.const (.bool false)), none⟩,
 ⟨some 0, .assign (.tmp 68), none⟩])
 .ret)))) }
/-- purlin/check.Program -/
def tf276 : TFn := { ntmps := 11, results := [.tmp 2], body :=
 (.seq
 (.region false [
 ⟨some 2, .assign (.const (.int .i64 0)), none⟩])
 (.seq
 (.region false [
 ⟨some 6, .move (.tmp 0), none⟩,
 ⟨some 7, .call true (.const (.fn 273 [])) [(.tmp 6)] [], none⟩,
 ⟨some 5, .move (.tmp 7), none⟩,
 ⟨some 8, .extract (.tmp 5) 0, none⟩,
 ⟨some 9, .extract (.tmp 5) 1, none⟩,
 ⟨some 3, .assign (.tmp 8), none⟩,
 ⟨some 4, .assign (.tmp 9), none⟩])
 (.seq
 (.region false [
 ⟨some 10, .move (.tmp 4), none⟩,
 ⟨some 2, .assign (.tmp 10), none⟩])
 .ret))) }
/-- purlin/purlinref04.Program -/
def tf277 : TFn := { ntmps := 11, results := [.tmp 2], body :=
 (.seq
 (.region false [
 ⟨some 2, .assign (.const (.int .i64 0)), none⟩])
 (.seq
 (.region false [
 ⟨some 6, .move (.tmp 0), none⟩,
 ⟨some 7, .call true (.const (.fn 274 [])) [(.tmp 6)] [], none⟩,
 ⟨some 5, .move (.tmp 7), none⟩,
 ⟨some 8, .extract (.tmp 5) 0, none⟩,
 ⟨some 9, .extract (.tmp 5) 1, none⟩,
 ⟨some 3, .assign (.tmp 8), none⟩,
 ⟨some 4, .assign (.tmp 9), none⟩])
 (.seq
 (.region false [
 ⟨some 10, .move (.tmp 4), none⟩,
 ⟨some 2, .assign (.tmp 10), none⟩])
 .ret))) }
/-- purlin/check.Calls -/
def tf279 : TFn := { ntmps := 19, results := [.tmp 4], body :=
 (.seq
 (.region false [
 ⟨some 4, .assign (.const (.sl true 0 2 [] [])), none⟩])
 (.seq
 (.seq
 (.region false [
 ⟨some 5, .move (.tmp 1), none⟩,
 ⟨some 6, .bin 0 .lss (.tmp 5) (.const (.int .i64 0)), none⟩,
 ⟨some 7, .move (.tmp 6), none⟩,
 ⟨some 8, .move (.tmp 1), (some (7, false))⟩,
 ⟨some 9, .move (.tmp 0), (some (7, false))⟩,
 ⟨some 10, .len false (.tmp 9), (some (7, false))⟩,
 ⟨some 11, .bin 0 .geq (.tmp 8) (.tmp 10), (some (7, false))⟩,
 ⟨some 12, .pick (.tmp 7) (.const (.bool true)) (.tmp 11), none⟩])
 (.cond (.tmp 12)
 (.seq
 (.region false [
 ⟨some 4, .assign (.const (.sl true 0 2 [] [])), none⟩])
 .ret)
 .skip))
 (.seq
 (.region false [
 ⟨some 13, .move (.tmp 0), none⟩,
 ⟨some 14, .move (.tmp 1), none⟩,
 ⟨some 15, .idxAddr (.tmp 13) (.tmp 14) 4, none⟩,
 ⟨some 16, .faddr (.tmp 15) 2, none⟩,
 ⟨some 17, .load false 1 (.tmp 16), none⟩,
 ⟨some 18, .call true (.const (.fn 300 [])) [(.tmp 17)] [], none⟩,
 ⟨some 4, .assign (.tmp 18), none⟩])
 .ret))) }
/-- purlin/check.IsGuard -/
def tf282 : TFn := { ntmps := 9, results := [.tmp 2], body :=
 (.seq
 (.region false [
 ⟨some 2, .assign (.const (.bool false)), none⟩])
 (.seq
 (.region false [
 ⟨some 3, .move (.tmp 0), none⟩,
 ⟨some 4, .call true (.const (.fn 30 [])) [(.tmp 3)] [], none⟩,
 ⟨some 5, .move (.tmp 4), none⟩,
 ⟨some 6, .move (.tmp 0), (some (5, true))⟩,
 ⟨some 7, .call true (.const (.fn 303 [])) [(.tmp 6)] [], (some (5, true))⟩,
 ⟨some 8, .pick (.tmp 5) (.tmp 7) (.const (.bool false)), none⟩,
 ⟨some 2, .assign (.tmp 8), none⟩])
 .ret)) }
/-- purlin/purlinref04.IsGuard -/
def tf283 : TFn := { ntmps := 66, results := [.tmp 2], body :=
 (.seq
 (.region false [
 ⟨some 2, .assign (.const (.bool false)), none⟩])
 (.seq
 (.seq
 (.region false [
 ⟨some 4, .move (.tmp 0), none⟩,
 ⟨some 5, .call true (.const (.fn 18 [])) [(.tmp 4)] [], none⟩,
 ⟨some 6, .un .not (.tmp 5), none⟩])
 (.cond (.tmp 6)
 (.seq
 (.region false [
 ⟨some 2, .assign (.const (.bool false)), none⟩])
 .ret)
 .skip))
 (.seq
 (.seq
 (.region false [
 ⟨some 7, .move (.tmp 0), none⟩,
 ⟨some 8, .call true (.const (.fn 256 [])) [(.tmp 7), (.const (.str ⟨#[116, 114, 117, 101]⟩)), (.const (.int .i64 0))] [], none⟩])
 (.cond (.tmp 8)
 (.seq
 (.region false [
 ⟨some 2, .assign (.const (.bool true)), none⟩])
 .ret)
 .skip))
 (.seq
 (.region false [
 ⟨some 9, .move (.tmp 0), none⟩,
 ⟨some 10, .call true (.const (.fn 29 [])) [(.tmp 9)] [], none⟩,
 ⟨some 3, .assign (.tmp 10), none⟩])
 (.seq
 (.block 0
 (.seq
 (.region false [
 ⟨some 12, .move (.tmp 3), none⟩,
 ⟨some 13, .len false (.tmp 12), none⟩,
 ⟨some 14, .bin 0 .eql (.tmp 13) (.const (.int .i64 1)), none⟩,
 ⟨some 11, .assign (.tmp 14), none⟩])
 (.cond (.tmp 11)
 (.seq
 (.region false [
 ⟨some 15, .move (.tmp 0), none⟩,
 ⟨some 16, .idxAddr (.tmp 15) (.const (.int .i64 0)) 5, none⟩,
 ⟨some 17, .faddr (.tmp 16) 1, none⟩,
 ⟨some 18, .load false 1 (.tmp 17), none⟩])
 (.block 1
 (.seq
 (.seq
 (.region false [
 ⟨some 20, .bin 0 .eql (.tmp 18) (.const (.str ⟨#[105, 110, 116, 101, 103, 101, 114]⟩)), none⟩,
 ⟨some 19, .assign (.tmp 20), none⟩])
 (.cond (.tmp 19)
 .skip
 (.seq
 (.region false [
 ⟨some 21, .bin 0 .eql (.tmp 18) (.const (.str ⟨#[97, 116, 111, 109]⟩)), none⟩,
 ⟨some 19, .assign (.tmp 21), none⟩])
 (.cond (.tmp 19)
 .skip
 (.seq
 (.region false [
 ⟨some 22, .bin 0 .eql (.tmp 18) (.const (.str ⟨#[99, 111, 109, 112, 111, 117, 110, 100]⟩)), none⟩,
 ⟨some 19, .assign (.tmp 22), none⟩])
 (.cond (.tmp 19)
 .skip
 (.region false [
 ⟨some 23, .bin 0 .eql (.tmp 18) (.const (.str ⟨#[107, 110, 111, 119, 110]⟩)), none⟩,
 ⟨some 19, .assign (.tmp 23), none⟩])))))))
 (.cond (.tmp 19)
 (.seq
 (.region false [
 ⟨some 24, .move (.tmp 3), none⟩,
 ⟨some 25, .idxAddr (.tmp 24) (.const (.int .i64 0)) 1, none⟩,
 ⟨some 26, .load false 1 (.tmp 25), none⟩,
 ⟨some 27, .call true (.const (.fn 304 [])) [(.tmp 26)] [], none⟩,
 ⟨some 2, .assign (.tmp 27), none⟩])
 .ret)
 .skip))))
 (.seq
 (.region false [
 ⟨some 29, .move (.tmp 3), none⟩,
 ⟨some 30, .len false (.tmp 29), none⟩,
 ⟨some 31, .bin 0 .eql (.tmp 30) (.const (.int .i64 2)), none⟩,
 ⟨some 28, .assign (.tmp 31), none⟩])
 (.cond (.tmp 28)
 (.seq
 (.region false [
 ⟨some 32, .move (.tmp 0), none⟩,
 ⟨some 33, .idxAddr (.tmp 32) (.const (.int .i64 0)) 5, none⟩,
 ⟨some 34, .faddr (.tmp 33) 1, none⟩,
 ⟨some 35, .load false 1 (.tmp 34), none⟩])
 (.block 2
 (.seq
 (.seq
 (.region false [
 ⟨some 37, .bin 0 .eql (.tmp 35) (.const (.str ⟨#[60]⟩)), none⟩,
 ⟨some 36, .assign (.tmp 37), none⟩])
 (.cond (.tmp 36)
 .skip
 (.seq
 (.region false [
 ⟨some 38, .bin 0 .eql (.tmp 35) (.const (.str ⟨#[61, 60]⟩)), none⟩,
 ⟨some 36, .assign (.tmp 38), none⟩])
 (.cond (.tmp 36)
 .skip
 (.seq
 (.region false [
 ⟨some 39, .bin 0 .eql (.tmp 35) (.const (.str ⟨#[62]⟩)), none⟩,
 ⟨some 36, .assign (.tmp 39), none⟩])
 (.cond (.tmp 36)
 .skip
 (.seq
 (.region false [
 ⟨some 40, .bin 0 .eql (.tmp 35) (.const (.str ⟨#[62, 61]⟩)), none⟩,
 ⟨some 36, .assign (.tmp 40), none⟩])
 (.cond (.tmp 36)
 .skip
 (.seq
 (.region false [
 ⟨some 41, .bin 0 .eql (.tmp 35) (.const (.str ⟨#[61, 58, 61]⟩)), none⟩,
 ⟨some 36, .assign (.tmp 41), none⟩])
 (.cond (.tmp 36)
 .skip
 (.region false [
 ⟨some 42, .bin 0 .eql (.tmp 35) (.const (.str ⟨#[61, 92, 61]⟩)), none⟩,
 ⟨some 36, .assign (.tmp 42), none⟩])))))))))))
 (.cond (.tmp 36)
 (.seq
 (.region false [
 ⟨some 43, .move (.tmp 3), none⟩,
 ⟨some 44, .idxAddr (.tmp 43) (.const (.int .i64 0)) 1, none⟩,
 ⟨some 45, .load false 1 (.tmp 44), none⟩,
 ⟨some 46, .call true (.const (.fn 302 [])) [(.tmp 45)] [], none⟩,
 ⟨some 47, .move (.tmp 46), none⟩,
 ⟨some 48, .move (.tmp 3), (some (47, true))⟩,
 ⟨some 49, .idxAddr (.tmp 48) (.const (.int .i64 1)) 1, (some (47, true))⟩,
 ⟨some 50, .load false 1 (.tmp 49), (some (47, true))⟩,
 ⟨some 51, .call true (.const (.fn 302 [])) [(.tmp 50)] [], (some (47, true))⟩,
 ⟨some 52, .pick (.tmp 47) (.tmp 51) (.const (.bool false)), none⟩,
 ⟨some 2, .assign (.tmp 52), none⟩])
 .ret)
 (.seq
 (.seq
 (.region false [
 ⟨some 54, .bin 0 .eql (.tmp 35) (.const (.str ⟨#[101, 113, 117, 97, 108]⟩)), none⟩,
 ⟨some 53, .assign (.tmp 54), none⟩])
 (.cond (.tmp 53)
 .skip
 (.region false [
 ⟨some 55, .bin 0 .eql (.tmp 35) (.const (.str ⟨#[117, 110, 108, 105, 107, 101]⟩)), none⟩,
 ⟨some 53, .assign (.tmp 55), none⟩])))
 (.cond (.tmp 53)
 (.seq
 (.region false [
 ⟨some 56, .move (.tmp 3), none⟩,
 ⟨some 57, .idxAddr (.tmp 56) (.const (.int .i64 0)) 1, none⟩,
 ⟨some 58, .load false 1 (.tmp 57), none⟩,
 ⟨some 59, .call true (.const (.fn 304 [])) [(.tmp 58)] [], none⟩,
 ⟨some 60, .move (.tmp 59), none⟩,
 ⟨some 61, .move (.tmp 3), (some (60, true))⟩,
 ⟨some 62, .idxAddr (.tmp 61) (.const (.int .i64 1)) 1, (some (60, true))⟩,
 ⟨some 63, .load false 1 (.tmp 62), (some (60, true))⟩,
 ⟨some 64, .call true (.const (.fn 304 [])) [(.tmp 63)] [], (some (60, true))⟩,
 ⟨some 65, .pick (.tmp 60) (.tmp 64) (.const (.bool false)), none⟩,
 ⟨some 2, .assign (.tmp 65), none⟩])
 .ret)
 .skip))))))
 .skip)))))
 (.seq
 (.region false [
 ⟨some 2, .assign (.const (.bool false)), none⟩])
 .ret)))))) }
/-- purlin/check.IsGoal -/
def tf284 : TFn := { ntmps := 9, results := [.tmp 2], body :=
 (.seq
 (.region false [
 ⟨some 2, .assign (.const (.bool false)), none⟩])
 (.seq
 (.region false [
 ⟨some 3, .move (.tmp 0), none⟩,
 ⟨some 4, .call true (.const (.fn 30 [])) [(.tmp 3)] [], none⟩,
 ⟨some 5, .move (.tmp 4), none⟩,
 ⟨some 6, .move (.tmp 0), (some (5, true))⟩,
 ⟨some 7, .call true (.const (.fn 305 [])) [(.tmp 6), (.const (.bool true))] [], (some (5, true))⟩,
 ⟨some 8, .pick (.tmp 5) (.tmp 7) (.const (.bool false)), none⟩,
 ⟨some 2, .assign (.tmp 8), none⟩])
 .ret)) }
/-- purlin/purlinref04.IsGoal -/
def tf285 : TFn := { ntmps := 9, results := [.tmp 2], body :=
 (.seq
 (.region false [
 ⟨some 2, .assign (.const (.bool false)), none⟩])
 (.seq
 (.region false [
 ⟨some 3, .move (.tmp 0), none⟩,
 ⟨some 4, .call true (.const (.fn 18 [])) [(.tmp 3)] [], none⟩,
 ⟨some 5, .move (.tmp 4), none⟩,
 ⟨some 6, .move (.tmp 0), (some (5, true))⟩,
 ⟨some 7, .call true (.const (.fn 306 [])) [(.tmp 6), (.const (.bool false))] [], (some (5, true))⟩,
 ⟨some 8, .pick (.tmp 5) (.tmp 7) (.const (.bool false)), none⟩,
 ⟨some 2, .assign (.tmp 8), none⟩])
 .ret)) }
/-- purlin/check.Preds -/
def tf286 : TFn := { ntmps := 42, results := [.tmp 2], body :=
 (.seq
 (.region false [
 ⟨some 2, .assign (.const (.sl true 0 2 [] [])), none⟩])
 (.seq
 (.region false [
 ⟨some 3, .assign (.const (.sl true 0 2 [] [])), none⟩])
 (.seq
 (.seq
 (.region false [
 ⟨some 10, .move (.tmp 0), none⟩,
 ⟨some 11, .len false (.tmp 10), none⟩,
 ⟨some 12, .move (.const (.int .i64 0)), none⟩])
 (.block 0
 (.loop [3, 10, 11, 12]
 (.seq
 (.region false [
 ⟨some 13, .bin 0 .lss (.tmp 12) (.tmp 11), none⟩])
 (.seq
 (.cond (.tmp 13)
 .skip
 (.exit 0))
 (.seq
 (.block 1
 (.seq
 (.region false [
 ⟨some 14, .idxAddr (.tmp 10) (.tmp 12) 1, none⟩,
 ⟨some 15, .load false 1 (.tmp 14), none⟩,
 ⟨some 5, .assign (.tmp 15), none⟩])
 (.seq
 (.region false [
 ⟨some 16, .move (.tmp 5), none⟩,
 ⟨some 17, .len false (.tmp 16), none⟩,
 ⟨some 18, .move (.const (.int .i64 0)), none⟩])
 (.block 2
 (.loop [3, 10, 11, 12, 16, 17, 18]
 (.seq
 (.region false [
 ⟨some 19, .bin 0 .lss (.tmp 18) (.tmp 17), none⟩])
 (.seq
 (.cond (.tmp 19)
 .skip
 (.exit 2))
 (.seq
 (.block 3
 (.seq
 (.region false [
 ⟨some 20, .idxAddr (.tmp 16) (.tmp 18) 4, none⟩,
 ⟨some 21, .load true 4 (.tmp 20), none⟩,
 ⟨some 7, .box 4 (.const (.agg [.sl true 0 5 [] [], .sl true 0 1 [] [], .sl true 0 1 [] [], .int .i64 0])), none⟩,
 ⟨none, .store 4 (.tmp 7) (.tmp 21), none⟩])
 (.seq
 (.region false [
 ⟨some 23, .faddr (.tmp 7) 0, none⟩,
 ⟨some 24, .load false 1 (.tmp 23), none⟩,
 ⟨some 25, .call true (.const (.fn 307 [])) [(.tmp 24)] [], none⟩,
 ⟨some 22, .move (.tmp 25), none⟩,
 ⟨some 26, .extract (.tmp 22) 0, none⟩,
 ⟨some 27, .extract (.tmp 22) 1, none⟩,
 ⟨some 8, .box 2 (.const (.agg [.str ⟨#[]⟩, .int .i64 0])), none⟩,
 ⟨none, .store 2 (.tmp 8) (.tmp 26), none⟩,
 ⟨some 9, .assign (.tmp 27), none⟩])
 (.seq
 (.region false [
 ⟨some 28, .move (.tmp 9), none⟩,
 ⟨some 29, .move (.tmp 28), none⟩,
 ⟨some 30, .move (.tmp 3), (some (29, true))⟩,
 ⟨some 31, .load true 2 (.tmp 8), (some (29, true))⟩,
 ⟨some 32, .call true (.const (.fn 308 [])) [(.tmp 30), (.tmp 31)] [], (some (29, true))⟩,
 ⟨some 33, .un .not (.tmp 32), (some (29, true))⟩,
 ⟨some 34, .pick (.tmp 29) (.tmp 33) (.const (.bool false)), none⟩])
 (.cond (.tmp 34)
 (.region false [
 ⟨some 35, .move (.tmp 3), none⟩,
 ⟨some 36, .load true 2 (.tmp 8), none⟩,
 ⟨some 37, .buildSlice 1 2 [.str ⟨#[]⟩, .int .i64 0] [(0, (.tmp 36))], none⟩,
 ⟨some 38, .append 2 24 (.tmp 35) (.tmp 37), none⟩,
 ⟨some 3, .assign (.tmp 38), none⟩])
 .skip)))))
 (.region false [
 ⟨some 39, .bin 0 .add (.tmp 18) (.const (.int .i64 1)), none⟩,
 ⟨some 18, .move (.tmp 39), none⟩])))))))))
 (.region false [
 ⟨some 40, .bin 0 .add (.tmp 12) (.const (.int .i64 1)), none⟩,
 ⟨some 12, .move (.tmp 40), none⟩])))))))
 (.seq
 (.region false [
 ⟨some 41, .move (.tmp 3), none⟩,
 ⟨some 2, .assign (.tmp 41), none⟩])
 .ret)))) }
/-- purlin/check.Clauses -/
def tf287 : TFn := { ntmps := 39, results := [.tmp 6], body :=
 (.seq
 (.region false [
 ⟨some 6, .assign (.const (.sl true 0 1 [] [])), none⟩])
 (.seq
 (.region false [
 ⟨some 7, .assign (.const (.sl true 0 1 [] [])), none⟩])
 (.seq
 (.seq
 (.region false [
 ⟨some 12, .move (.tmp 0), none⟩,
 ⟨some 13, .len false (.tmp 12), none⟩,
 ⟨some 14, .move (.const (.int .i64 0)), none⟩])
 (.block 0
 (.loop [1, 2, 7, 12, 13, 14]
 (.seq
 (.region false [
 ⟨some 15, .bin 0 .lss (.tmp 14) (.tmp 13), none⟩])
 (.seq
 (.cond (.tmp 15)
 .skip
 (.exit 0))
 (.seq
 (.block 1
 (.seq
 (.region false [
 ⟨some 16, .move (.tmp 14), none⟩,
 ⟨some 17, .idxAddr (.tmp 12) (.tmp 14) 4, none⟩,
 ⟨some 18, .load true 4 (.tmp 17), none⟩,
 ⟨some 9, .box 4 (.const (.agg [.sl true 0 5 [] [], .sl true 0 1 [] [], .sl true 0 1 [] [], .int .i64 0])), none⟩,
 ⟨some 8, .assign (.tmp 16), none⟩,
 ⟨none, .store 4 (.tmp 9) (.tmp 18), none⟩])
 (.seq
 (.region false [
 ⟨some 20, .faddr (.tmp 9) 0, none⟩,
 ⟨some 21, .load false 1 (.tmp 20), none⟩,
 ⟨some 22, .call true (.const (.fn 307 [])) [(.tmp 21)] [], none⟩,
 ⟨some 19, .move (.tmp 22), none⟩,
 ⟨some 23, .extract (.tmp 19) 0, none⟩,
 ⟨some 24, .extract (.tmp 19) 1, none⟩,
 ⟨some 10, .box 2 (.const (.agg [.str ⟨#[]⟩, .int .i64 0])), none⟩,
 ⟨none, .store 2 (.tmp 10) (.tmp 23), none⟩,
 ⟨some 11, .assign (.tmp 24), none⟩])
 (.seq
 (.region false [
 ⟨some 25, .move (.tmp 11), none⟩,
 ⟨some 26, .move (.tmp 25), none⟩,
 ⟨some 27, .load true 2 (.tmp 10), (some (26, true))⟩,
 ⟨some 28, .move (.tmp 1), (some (26, true))⟩,
 ⟨some 29, .move (.tmp 2), (some (26, true))⟩,
 ⟨some 30, .build [.str ⟨#[]⟩, .int .i64 0] [(0, 1, (.tmp 28)), (1, 1, (.tmp 29))], (some (26, true))⟩,
 ⟨some 31, .eqAgg false 6100 (.tmp 27) (.tmp 30), (some (26, true))⟩,
 ⟨some 32, .pick (.tmp 26) (.tmp 31) (.const (.bool false)), none⟩])
 (.cond (.tmp 32)
 (.region false [
 ⟨some 33, .move (.tmp 7), none⟩,
 ⟨some 34, .move (.tmp 8), none⟩,
 ⟨some 35, .buildSlice 1 1 [.int .i64 0] [(0, (.tmp 34))], none⟩,
 ⟨some 36, .append 1 8 (.tmp 33) (.tmp 35), none⟩,
 ⟨some 7, .assign (.tmp 36), none⟩])
 .skip)))))
 (.region false [
 ⟨some 37, .bin 0 .add (.tmp 14) (.const (.int .i64 1)), none⟩,
 ⟨some 14, .move (.tmp 37), none⟩])))))))
 (.seq
 (.region false [
 ⟨some 38, .move (.tmp 7), none⟩,
 ⟨some 6, .assign (.tmp 38), none⟩])
 .ret)))) }
/-- purlin/check.Reached -/
def tf288 : TFn := { ntmps := 55, results := [.tmp 4], body :=
 (.seq
 (.region false [
 ⟨some 4, .assign (.const (.sl true 0 2 [] [])), none⟩])
 (.seq
 (.region false [
 ⟨some 11, .move (.tmp 1), none⟩,
 ⟨some 12, .call true (.const (.fn 300 [])) [(.tmp 11)] [], none⟩,
 ⟨some 5, .assign (.tmp 12), none⟩])
 (.seq
 (.seq
 (.region false [
 ⟨some 6, .assign (.const (.int .i64 0)), none⟩])
 (.block 0
 (.loop [0, 5, 6]
 (.seq
 (.seq
 (.region false [
 ⟨some 13, .move (.tmp 6), none⟩,
 ⟨some 14, .move (.tmp 5), none⟩,
 ⟨some 15, .len false (.tmp 14), none⟩,
 ⟨some 16, .bin 0 .lss (.tmp 13) (.tmp 15), none⟩])
 (.cond (.tmp 16)
 .skip
 (.exit 0)))
 (.seq
 (.block 1
 (.seq
 (.region true [
 ⟨some 19, .move (.tmp 0), none⟩,
 ⟨some 20, .move (.tmp 5), none⟩,
 ⟨some 21, .move (.tmp 6), none⟩,
 ⟨some 22, .idxAddr (.tmp 20) (.tmp 21) 2, none⟩,
 ⟨some 23, .faddr (.tmp 22) 0, none⟩,
 ⟨some 24, .load false 1 (.tmp 23), none⟩,
 ⟨some 25, .move (.tmp 5), none⟩,
 ⟨some 26, .move (.tmp 6), none⟩,
 ⟨some 27, .idxAddr (.tmp 25) (.tmp 26) 2, none⟩,
 ⟨some 28, .faddr (.tmp 27) 1, none⟩,
 ⟨some 29, .load false 1 (.tmp 28), none⟩,
 ⟨some 30, .call true (.const (.fn 287 [])) [(.tmp 19), (.tmp 24), (.tmp 29)] [], none⟩,
 ⟨some 31, .len false (.tmp 30), none⟩,
 ⟨some 32, .move (.const (.int .i64 0)), none⟩])
 (.block 2
 (.loop [0, 5, 6, 30, 31, 32]
 (.seq
 (.region false [
 ⟨some 33, .bin 0 .lss (.tmp 32) (.tmp 31), none⟩])
 (.seq
 (.cond (.tmp 33)
 .skip
 (.exit 2))
 (.seq
 (.block 3
 (.seq
 (.region false [
 ⟨some 34, .idxAddr (.tmp 30) (.tmp 32) 1, none⟩,
 ⟨some 35, .load false 1 (.tmp 34), none⟩,
 ⟨some 8, .assign (.tmp 35), none⟩])
 (.seq
 (.region false [
 ⟨some 36, .move (.tmp 0), none⟩,
 ⟨some 37, .move (.tmp 8), none⟩,
 ⟨some 38, .call true (.const (.fn 279 [])) [(.tmp 36), (.tmp 37)] [], none⟩,
 ⟨some 39, .len false (.tmp 38), none⟩,
 ⟨some 40, .move (.const (.int .i64 0)), none⟩])
 (.block 4
 (.loop [0, 5, 6, 30, 31, 32, 38, 39, 40]
 (.seq
 (.region false [
 ⟨some 41, .bin 0 .lss (.tmp 40) (.tmp 39), none⟩])
 (.seq
 (.cond (.tmp 41)
 .skip
 (.exit 4))
 (.seq
 (.block 5
 (.seq
 (.region false [
 ⟨some 42, .idxAddr (.tmp 38) (.tmp 40) 2, none⟩,
 ⟨some 43, .load true 2 (.tmp 42), none⟩,
 ⟨some 10, .box 2 (.const (.agg [.str ⟨#[]⟩, .int .i64 0])), none⟩,
 ⟨none, .store 2 (.tmp 10) (.tmp 43), none⟩])
 (.seq
 (.region false [
 ⟨some 44, .move (.tmp 5), none⟩,
 ⟨some 45, .load true 2 (.tmp 10), none⟩,
 ⟨some 46, .call true (.const (.fn 308 [])) [(.tmp 44), (.tmp 45)] [], none⟩,
 ⟨some 47, .un .not (.tmp 46), none⟩])
 (.cond (.tmp 47)
 (.region false [
 ⟨some 48, .move (.tmp 5), none⟩,
 ⟨some 49, .load true 2 (.tmp 10), none⟩,
 ⟨some 50, .buildSlice 1 2 [.str ⟨#[]⟩, .int .i64 0] [(0, (.tmp 49))], none⟩,
 ⟨some 51, .append 2 24 (.tmp 48) (.tmp 50), none⟩,
 ⟨some 5, .assign (.tmp 51), none⟩])
 .skip))))
 (.region false [
 ⟨some 52, .bin 0 .add (.tmp 40) (.const (.int .i64 1)), none⟩,
 ⟨some 40, .move (.tmp 52), none⟩])))))))))
 (.region false [
 ⟨some 53, .bin 0 .add (.tmp 32) (.const (.int .i64 1)), none⟩,
 ⟨some 32, .move (.tmp 53), none⟩]))))))))
 (.region false [
 ⟨some 17, .move (.tmp 6), none⟩,
 ⟨some 18, .bin 0 .add (.tmp 17) (.const (.int .i64 1)), none⟩,
 ⟨some 6, .assign (.tmp 18), none⟩]))))))
 (.seq
 (.region false [
 ⟨some 54, .move (.tmp 5), none⟩,
 ⟨some 4, .assign (.tmp 54), none⟩])
 .ret)))) }
/-- purlin/purlinlaw04.has -/
def tf289 : TFn := { ntmps := 18, results := [.tmp 4], body :=
 (.seq
 (.region false [
 ⟨some 3, .box 2 (.tmp 1), none⟩,
 ⟨some 4, .assign (.const (.bool false)), none⟩])
 (.seq
 (.seq
 (.region false [
 ⟨some 5, .assign (.const (.int .i64 0)), none⟩])
 (.block 0
 (.loop [0, 3, 5]
 (.seq
 (.seq
 (.region false [
 ⟨some 6, .move (.tmp 5), none⟩,
 ⟨some 7, .move (.tmp 0), none⟩,
 ⟨some 8, .len false (.tmp 7), none⟩,
 ⟨some 9, .bin 0 .lss (.tmp 6) (.tmp 8), none⟩])
 (.cond (.tmp 9)
 .skip
 (.exit 0)))
 (.seq
 (.block 1
 (.seq
 (.region true [
 ⟨some 12, .move (.tmp 0), none⟩,
 ⟨some 13, .move (.tmp 5), none⟩,
 ⟨some 14, .idxAddr (.tmp 12) (.tmp 13) 2, none⟩,
 ⟨some 15, .load true 2 (.tmp 14), none⟩,
 ⟨some 16, .load true 2 (.tmp 3), none⟩,
 ⟨some 17, .eqAgg false 6100 (.tmp 15) (.tmp 16), none⟩])
 (.cond (.tmp 17)
 (.seq
 (.region false [
 ⟨some 4, .assign (.const (.bool true)), none⟩])
 .ret)
 .skip)))
 (.region false [
 ⟨some 10, .move (.tmp 5), none⟩,
 ⟨some 11, .bin 0 .add (.tmp 10) (.const (.int .i64 1)), none⟩,
 ⟨some 5, .assign (.tmp 11), none⟩]))))))
 (.seq
 (.region false [
 ⟨some 4, .assign (.const (.bool false)), none⟩])
 .ret))) }
/-- purlin/check.Where$1 -/
def tf290 : TFn := { ntmps := 9, results := [.tmp 3], body :=
 (.seq
 (.region false [
 ⟨some 2, .box 4 (.tmp 0), none⟩,
 ⟨some 3, .assign (.const (.bool false)), none⟩])
 (.seq
 (.region false [
 ⟨some 4, .faddr (.tmp 2) 2, none⟩,
 ⟨some 5, .load false 1 (.tmp 4), none⟩,
 ⟨some 6, .call true (.const (.fn 300 [])) [(.tmp 5)] [], none⟩,
 ⟨some 7, .makeFunc 309 [(.tmp 1)], none⟩,
 ⟨some 8, .call true (.const (.fn 310 [])) [(.tmp 6), (.tmp 7)] [], none⟩,
 ⟨some 3, .assign (.tmp 8), none⟩])
 .ret)) }
/-- purlin/check.long -/
def tf291 : TFn := { ntmps := 18, results := [.tmp 2], body :=
 (.seq
 (.region false [
 ⟨some 1, .box 4 (.tmp 0), none⟩,
 ⟨some 2, .assign (.const (.bool false)), none⟩])
 (.seq
 (.region false [
 ⟨some 3, .faddr (.tmp 1) 1, none⟩,
 ⟨some 4, .load false 1 (.tmp 3), none⟩,
 ⟨some 5, .len false (.tmp 4), none⟩,
 ⟨some 6, .bin 0 .gtr (.tmp 5) (.const (.int .i64 4)), none⟩,
 ⟨some 7, .move (.tmp 6), none⟩,
 ⟨some 8, .faddr (.tmp 1) 2, (some (7, false))⟩,
 ⟨some 9, .load false 1 (.tmp 8), (some (7, false))⟩,
 ⟨some 10, .len false (.tmp 9), (some (7, false))⟩,
 ⟨some 11, .bin 0 .gtr (.tmp 10) (.const (.int .i64 8)), (some (7, false))⟩,
 ⟨some 12, .pick (.tmp 7) (.const (.bool true)) (.tmp 11), none⟩,
 ⟨some 13, .move (.tmp 12), none⟩,
 ⟨some 14, .faddr (.tmp 1) 3, (some (13, false))⟩,
 ⟨some 15, .load false 1 (.tmp 14), (some (13, false))⟩,
 ⟨some 16, .bin 0 .gtr (.tmp 15) (.const (.int .i64 16)), (some (13, false))⟩,
 ⟨some 17, .pick (.tmp 13) (.const (.bool true)) (.tmp 16), none⟩,
 ⟨some 2, .assign (.tmp 17), none⟩])
 .ret)) }
/-- purlin/check.form -/
def tf292 : TFn := { ntmps := 19, results := [.tmp 2], body :=
 (.seq
 (.region false [
 ⟨some 1, .box 4 (.tmp 0), none⟩,
 ⟨some 2, .assign (.const (.bool false)), none⟩])
 (.seq
 (.region false [
 ⟨some 4, .load true 4 (.tmp 1), none⟩,
 ⟨some 5, .call true (.const (.fn 314 [])) [(.tmp 4)] [], none⟩,
 ⟨some 3, .assign (.tmp 5), none⟩])
 (.seq
 (.region false [
 ⟨some 6, .faddr (.tmp 1) 3, none⟩,
 ⟨some 7, .load false 1 (.tmp 6), none⟩,
 ⟨some 8, .bin 0 .lss (.tmp 7) (.const (.int .i64 0)), none⟩,
 ⟨some 9, .move (.tmp 8), none⟩,
 ⟨some 10, .move (.tmp 3), (some (9, false))⟩,
 ⟨some 11, .call true (.const (.fn 33 [])) [(.tmp 10), (.const (.fn 315 []))] [], (some (9, false))⟩,
 ⟨some 12, .pick (.tmp 9) (.const (.bool true)) (.tmp 11), none⟩,
 ⟨some 13, .move (.tmp 12), none⟩,
 ⟨some 14, .move (.tmp 3), (some (13, false))⟩,
 ⟨some 15, .call true (.const (.fn 22 [])) [(.tmp 14)] [], (some (13, false))⟩,
 ⟨some 16, .makeFunc 316 [(.tmp 1)], (some (13, false))⟩,
 ⟨some 17, .call true (.const (.fn 174 [])) [(.tmp 15), (.tmp 16)] [], (some (13, false))⟩,
 ⟨some 18, .pick (.tmp 13) (.const (.bool true)) (.tmp 17), none⟩,
 ⟨some 2, .assign (.tmp 18), none⟩])
 .ret))) }
/-- purlin/check.head -/
def tf293 : TFn := { ntmps := 37, results := [.tmp 2], body :=
 (.seq
 (.region false [
 ⟨some 1, .box 4 (.tmp 0), none⟩,
 ⟨some 2, .assign (.const (.bool false)), none⟩])
 (.seq
 (.region false [
 ⟨some 3, .assign (.const (.int .i64 0)), none⟩])
 (.seq
 (.seq
 (.region false [
 ⟨some 6, .faddr (.tmp 1) 0, none⟩,
 ⟨some 7, .load false 1 (.tmp 6), none⟩,
 ⟨some 8, .len false (.tmp 7), none⟩,
 ⟨some 9, .move (.const (.int .i64 0)), none⟩])
 (.block 0
 (.loop [1, 3, 7, 8, 9]
 (.seq
 (.region false [
 ⟨some 10, .bin 0 .lss (.tmp 9) (.tmp 8), none⟩])
 (.seq
 (.cond (.tmp 10)
 .skip
 (.exit 0))
 (.seq
 (.block 1
 (.seq
 (.region false [
 ⟨some 11, .idxAddr (.tmp 7) (.tmp 9) 5, none⟩,
 ⟨some 12, .load true 5 (.tmp 11), none⟩,
 ⟨some 5, .box 5 (.const (.agg [.int .u8 0, .str ⟨#[]⟩, .int .i64 0, .int .i64 0, .int .i64 0])), none⟩,
 ⟨none, .store 5 (.tmp 5) (.tmp 12), none⟩])
 (.seq
 (.region false [
 ⟨some 13, .faddr (.tmp 5) 0, none⟩,
 ⟨some 14, .load false 1 (.tmp 13), none⟩,
 ⟨some 15, .bin 0 .eql (.tmp 14) (.const (.int .u8 4)), none⟩])
 (.cond (.tmp 15)
 (.region false [
 ⟨some 16, .move (.tmp 3), none⟩,
 ⟨some 17, .bin 0 .add (.tmp 16) (.const (.int .i64 1)), none⟩,
 ⟨some 3, .assign (.tmp 17), none⟩])
 .skip))))
 (.region false [
 ⟨some 18, .bin 0 .add (.tmp 9) (.const (.int .i64 1)), none⟩,
 ⟨some 9, .move (.tmp 18), none⟩])))))))
 (.seq
 (.region false [
 ⟨some 19, .faddr (.tmp 1) 0, none⟩,
 ⟨some 20, .load false 1 (.tmp 19), none⟩,
 ⟨some 21, .call true (.const (.fn 317 [])) [(.tmp 20)] [], none⟩,
 ⟨some 22, .un .not (.tmp 21), none⟩,
 ⟨some 23, .move (.tmp 22), none⟩,
 ⟨some 24, .faddr (.tmp 1) 0, (some (23, false))⟩,
 ⟨some 25, .load false 1 (.tmp 24), (some (23, false))⟩,
 ⟨some 26, .call true (.const (.fn 312 [])) [(.tmp 25), (.const (.str ⟨#[116, 114, 117, 101]⟩)), (.const (.int .i64 0))] [], (some (23, false))⟩,
 ⟨some 27, .pick (.tmp 23) (.const (.bool true)) (.tmp 26), none⟩,
 ⟨some 28, .move (.tmp 27), none⟩,
 ⟨some 29, .move (.tmp 3), (some (28, false))⟩,
 ⟨some 30, .faddr (.tmp 1) 0, (some (28, false))⟩,
 ⟨some 31, .load false 1 (.tmp 30), (some (28, false))⟩,
 ⟨some 32, .buildSlice 1 1 [.sl true 0 5 [] []] [(0, (.tmp 31))], (some (28, false))⟩,
 ⟨some 33, .call true (.const (.fn 22 [])) [(.tmp 32)] [], (some (28, false))⟩,
 ⟨some 34, .len false (.tmp 33), (some (28, false))⟩,
 ⟨some 35, .bin 0 .gtr (.tmp 29) (.tmp 34), (some (28, false))⟩,
 ⟨some 36, .pick (.tmp 28) (.const (.bool true)) (.tmp 35), none⟩,
 ⟨some 2, .assign (.tmp 36), none⟩])
 .ret)))) }
/-- purlin/check.guard -/
def tf294 : TFn := { ntmps := 12, results := [.tmp 2], body :=
 (.seq
 (.region false [
 ⟨some 1, .box 4 (.tmp 0), none⟩,
 ⟨some 2, .assign (.const (.bool false)), none⟩])
 (.seq
 (.region false [
 ⟨some 4, .faddr (.tmp 1) 0, none⟩,
 ⟨some 5, .load false 1 (.tmp 4), none⟩,
 ⟨some 6, .buildSlice 1 1 [.sl true 0 5 [] []] [(0, (.tmp 5))], none⟩,
 ⟨some 7, .call true (.const (.fn 22 [])) [(.tmp 6)] [], none⟩,
 ⟨some 3, .box 1 (.const (.sl true 0 2 [] [])), none⟩,
 ⟨none, .store 1 (.tmp 3) (.tmp 7), none⟩])
 (.seq
 (.region false [
 ⟨some 8, .faddr (.tmp 1) 1, none⟩,
 ⟨some 9, .load false 1 (.tmp 8), none⟩,
 ⟨some 10, .makeFunc 318 [(.tmp 3)], none⟩,
 ⟨some 11, .call true (.const (.fn 33 [])) [(.tmp 9), (.tmp 10)] [], none⟩,
 ⟨some 2, .assign (.tmp 11), none⟩])
 .ret))) }
/-- purlin/check.body -/
def tf295 : TFn := { ntmps := 6, results := [.tmp 2], body :=
 (.seq
 (.region false [
 ⟨some 1, .box 4 (.tmp 0), none⟩,
 ⟨some 2, .assign (.const (.bool false)), none⟩])
 (.seq
 (.region false [
 ⟨some 3, .faddr (.tmp 1) 2, none⟩,
 ⟨some 4, .load false 1 (.tmp 3), none⟩,
 ⟨some 5, .call true (.const (.fn 33 [])) [(.tmp 4), (.const (.fn 319 []))] [], none⟩,
 ⟨some 2, .assign (.tmp 5), none⟩])
 .ret)) }
/-- slices.IndexFunc[purlin/api.Program,purlin/api.Clause] -/
def tf296 : TFn := { ntmps := 19, results := [.tmp 4], body :=
 (.seq
 (.region false [
 ⟨some 4, .assign (.const (.int .i64 0)), none⟩])
 (.seq
 (.seq
 (.region false [
 ⟨some 6, .move (.tmp 0), none⟩,
 ⟨some 7, .len false (.tmp 6), none⟩,
 ⟨some 8, .move (.const (.int .i64 0)), none⟩])
 (.block 0
 (.loop [0, 1, 7, 8]
 (.seq
 (.region false [
 ⟨some 9, .bin 0 .lss (.tmp 8) (.tmp 7), none⟩])
 (.seq
 (.cond (.tmp 9)
 .skip
 (.exit 0))
 (.seq
 (.block 1
 (.seq
 (.region false [
 ⟨some 10, .move (.tmp 8), none⟩,
 ⟨some 5, .assign (.tmp 10), none⟩])
 (.seq
 (.region false [
 ⟨some 11, .move (.tmp 1), none⟩,
 ⟨some 12, .move (.tmp 0), none⟩,
 ⟨some 13, .move (.tmp 5), none⟩,
 ⟨some 14, .idxAddr (.tmp 12) (.tmp 13) 4, none⟩,
 ⟨some 15, .load true 4 (.tmp 14), none⟩,
 ⟨some 16, .call true (.tmp 11) [(.tmp 15)] [], none⟩])
 (.cond (.tmp 16)
 (.seq
 (.region false [
 ⟨some 17, .move (.tmp 5), none⟩,
 ⟨some 4, .assign (.tmp 17), none⟩])
 .ret)
 .skip))))
 (.region false [
 ⟨some 18, .bin 0 .add (.tmp 8) (.const (.int .i64 1)), none⟩,
 ⟨some 8, .move (.tmp 18), none⟩])))))))
 (.seq
 (.region false [
 ⟨some 4, .assign (.const (.int .i64 (-1))), none⟩])
 .ret))) }
/-- purlin/purlinref04.wrong -/
def tf297 : TFn := { ntmps := 157, results := [.tmp 6], body :=
 (.seq
 (.region false [
 ⟨some 4, .box 4 (.tmp 1), none⟩,
 ⟨some 6, .assign (.const (.bool false)), none⟩])
 (.seq
 (.seq
 (.region false [
 ⟨some 11, .move (.tmp 2), none⟩])
 (.block 0
 (.seq
 (.region false [
 ⟨some 13, .bin 0 .eql (.tmp 11) (.const (.int .i64 5)), none⟩,
 ⟨some 12, .assign (.tmp 13), none⟩])
 (.cond (.tmp 12)
 (.seq
 (.region false [
 ⟨some 14, .faddr (.tmp 4) 1, none⟩,
 ⟨some 15, .load false 1 (.tmp 14), none⟩,
 ⟨some 16, .len false (.tmp 15), none⟩,
 ⟨some 17, .bin 0 .gtr (.tmp 16) (.const (.int .i64 4)), none⟩,
 ⟨some 18, .move (.tmp 17), none⟩,
 ⟨some 19, .faddr (.tmp 4) 2, (some (18, false))⟩,
 ⟨some 20, .load false 1 (.tmp 19), (some (18, false))⟩,
 ⟨some 21, .len false (.tmp 20), (some (18, false))⟩,
 ⟨some 22, .bin 0 .gtr (.tmp 21) (.const (.int .i64 8)), (some (18, false))⟩,
 ⟨some 23, .pick (.tmp 18) (.const (.bool true)) (.tmp 22), none⟩,
 ⟨some 24, .move (.tmp 23), none⟩,
 ⟨some 25, .faddr (.tmp 4) 3, (some (24, false))⟩,
 ⟨some 26, .load false 1 (.tmp 25), (some (24, false))⟩,
 ⟨some 27, .bin 0 .gtr (.tmp 26) (.const (.int .i64 16)), (some (24, false))⟩,
 ⟨some 28, .pick (.tmp 24) (.const (.bool true)) (.tmp 27), none⟩,
 ⟨some 6, .assign (.tmp 28), none⟩])
 .ret)
 (.seq
 (.region false [
 ⟨some 30, .bin 0 .eql (.tmp 11) (.const (.int .i64 40)), none⟩,
 ⟨some 29, .assign (.tmp 30), none⟩])
 (.cond (.tmp 29)
 (.seq
 (.region false [
 ⟨some 31, .faddr (.tmp 4) 0, none⟩,
 ⟨some 32, .load false 1 (.tmp 31), none⟩,
 ⟨some 33, .call true (.const (.fn 320 [])) [(.tmp 32)] [], none⟩,
 ⟨some 34, .un .not (.tmp 33), none⟩,
 ⟨some 35, .move (.tmp 34), none⟩,
 ⟨some 36, .faddr (.tmp 4) 0, (some (35, false))⟩,
 ⟨some 37, .load false 1 (.tmp 36), (some (35, false))⟩,
 ⟨some 38, .call true (.const (.fn 256 [])) [(.tmp 37), (.const (.str ⟨#[116, 114, 117, 101]⟩)), (.const (.int .i64 0))] [], (some (35, false))⟩,
 ⟨some 39, .pick (.tmp 35) (.const (.bool true)) (.tmp 38), none⟩,
 ⟨some 40, .move (.tmp 39), none⟩,
 ⟨some 41, .faddr (.tmp 4) 0, (some (40, false))⟩,
 ⟨some 42, .load false 1 (.tmp 41), (some (40, false))⟩,
 ⟨some 43, .call true (.const (.fn 321 [])) [(.tmp 42)] [], (some (40, false))⟩,
 ⟨some 44, .pick (.tmp 40) (.const (.bool true)) (.tmp 43), none⟩,
 ⟨some 6, .assign (.tmp 44), none⟩])
 .ret)
 (.seq
 (.region false [
 ⟨some 46, .bin 0 .eql (.tmp 11) (.const (.int .i64 6)), none⟩,
 ⟨some 45, .assign (.tmp 46), none⟩])
 (.cond (.tmp 45)
 (.seq
 (.region false [
 ⟨some 47, .faddr (.tmp 4) 3, none⟩,
 ⟨some 48, .load false 1 (.tmp 47), none⟩,
 ⟨some 49, .bin 0 .lss (.tmp 48) (.const (.int .i64 0)), none⟩,
 ⟨some 50, .move (.tmp 49), none⟩,
 ⟨some 51, .faddr (.tmp 4) 0, (some (50, false))⟩,
 ⟨some 52, .load false 1 (.tmp 51), (some (50, false))⟩,
 ⟨some 53, .faddr (.tmp 4) 3, (some (50, false))⟩,
 ⟨some 54, .load false 1 (.tmp 53), (some (50, false))⟩,
 ⟨some 55, .call true (.const (.fn 322 [])) [(.tmp 52), (.tmp 54)] [], (some (50, false))⟩,
 ⟨some 56, .pick (.tmp 50) (.const (.bool true)) (.tmp 55), none⟩])
 (.cond (.tmp 56)
 (.seq
 (.region false [
 ⟨some 6, .assign (.const (.bool true)), none⟩])
 .ret)
 .skip))
 .skip))))))))
 (.seq
 (.seq
 (.region false [
 ⟨some 7, .assign (.const (.int .i64 0)), none⟩])
 (.block 1
 (.loop [0, 2, 4, 7]
 (.seq
 (.seq
 (.region false [
 ⟨some 57, .move (.tmp 7), none⟩,
 ⟨some 58, .faddr (.tmp 4) 1, none⟩,
 ⟨some 59, .load false 1 (.tmp 58), none⟩,
 ⟨some 60, .len false (.tmp 59), none⟩,
 ⟨some 61, .bin 0 .lss (.tmp 57) (.tmp 60), none⟩])
 (.cond (.tmp 61)
 .skip
 (.exit 1)))
 (.seq
 (.block 2
 (.seq
 (.region true [
 ⟨some 64, .move (.tmp 2), none⟩,
 ⟨some 65, .bin 0 .eql (.tmp 64) (.const (.int .i64 6)), none⟩,
 ⟨some 66, .move (.tmp 65), none⟩,
 ⟨some 67, .faddr (.tmp 4) 1, (some (66, true))⟩,
 ⟨some 68, .load false 1 (.tmp 67), (some (66, true))⟩,
 ⟨some 69, .move (.tmp 7), (some (66, true))⟩,
 ⟨some 70, .idxAddr (.tmp 68) (.tmp 69) 1, (some (66, true))⟩,
 ⟨some 71, .load false 1 (.tmp 70), (some (66, true))⟩,
 ⟨some 72, .faddr (.tmp 4) 3, (some (66, true))⟩,
 ⟨some 73, .load false 1 (.tmp 72), (some (66, true))⟩,
 ⟨some 74, .call true (.const (.fn 322 [])) [(.tmp 71), (.tmp 73)] [], (some (66, true))⟩,
 ⟨some 75, .pick (.tmp 66) (.tmp 74) (.const (.bool false)), none⟩,
 ⟨some 76, .move (.tmp 75), none⟩,
 ⟨some 77, .move (.tmp 2), (some (76, false))⟩,
 ⟨some 78, .bin 0 .eql (.tmp 77) (.const (.int .i64 41)), (some (76, false))⟩,
 ⟨some 79, .move (.tmp 78), (some (76, false))⟩,
 ⟨some 80, .faddr (.tmp 4) 1, (some (79, true))⟩,
 ⟨some 81, .load false 1 (.tmp 80), (some (79, true))⟩,
 ⟨some 82, .move (.tmp 7), (some (79, true))⟩,
 ⟨some 83, .idxAddr (.tmp 81) (.tmp 82) 1, (some (79, true))⟩,
 ⟨some 84, .load false 1 (.tmp 83), (some (79, true))⟩,
 ⟨some 85, .call true (.const (.fn 283 [])) [(.tmp 84)] [], (some (79, true))⟩,
 ⟨some 86, .un .not (.tmp 85), (some (79, true))⟩,
 ⟨some 87, .move (.tmp 86), (some (79, true))⟩,
 ⟨some 88, .faddr (.tmp 4) 1, (some (87, false))⟩,
 ⟨some 89, .load false 1 (.tmp 88), (some (87, false))⟩,
 ⟨some 90, .move (.tmp 7), (some (87, false))⟩,
 ⟨some 91, .idxAddr (.tmp 89) (.tmp 90) 1, (some (87, false))⟩,
 ⟨some 92, .load false 1 (.tmp 91), (some (87, false))⟩,
 ⟨some 93, .faddr (.tmp 4) 0, (some (87, false))⟩,
 ⟨some 94, .load false 1 (.tmp 93), (some (87, false))⟩,
 ⟨some 95, .call true (.const (.fn 27 [])) [(.tmp 94)] [], (some (87, false))⟩,
 ⟨some 96, .call true (.const (.fn 323 [])) [(.tmp 92), (.tmp 95)] [], (some (87, false))⟩,
 ⟨some 97, .un .not (.tmp 96), (some (87, false))⟩,
 ⟨some 98, .pick (.tmp 87) (.const (.bool true)) (.tmp 97), (some (79, true))⟩,
 ⟨some 99, .pick (.tmp 79) (.tmp 98) (.const (.bool false)), (some (76, false))⟩,
 ⟨some 100, .pick (.tmp 76) (.const (.bool true)) (.tmp 99), none⟩])
 (.cond (.tmp 100)
 (.seq
 (.region false [
 ⟨some 6, .assign (.const (.bool true)), none⟩])
 .ret)
 .skip)))
 (.region false [
 ⟨some 62, .move (.tmp 7), none⟩,
 ⟨some 63, .bin 0 .add (.tmp 62) (.const (.int .i64 1)), none⟩,
 ⟨some 7, .assign (.tmp 63), none⟩]))))))
 (.seq
 (.seq
 (.region false [
 ⟨some 8, .assign (.const (.int .i64 0)), none⟩])
 (.block 3
 (.loop [0, 2, 4, 8]
 (.seq
 (.seq
 (.region false [
 ⟨some 101, .move (.tmp 8), none⟩,
 ⟨some 102, .faddr (.tmp 4) 2, none⟩,
 ⟨some 103, .load false 1 (.tmp 102), none⟩,
 ⟨some 104, .len false (.tmp 103), none⟩,
 ⟨some 105, .bin 0 .lss (.tmp 101) (.tmp 104), none⟩])
 (.cond (.tmp 105)
 .skip
 (.exit 3)))
 (.seq
 (.block 4
 (.seq
 (.region true [
 ⟨some 108, .move (.tmp 2), none⟩,
 ⟨some 109, .bin 0 .eql (.tmp 108) (.const (.int .i64 6)), none⟩,
 ⟨some 110, .move (.tmp 109), none⟩,
 ⟨some 111, .faddr (.tmp 4) 2, (some (110, true))⟩,
 ⟨some 112, .load false 1 (.tmp 111), (some (110, true))⟩,
 ⟨some 113, .move (.tmp 8), (some (110, true))⟩,
 ⟨some 114, .idxAddr (.tmp 112) (.tmp 113) 1, (some (110, true))⟩,
 ⟨some 115, .load false 1 (.tmp 114), (some (110, true))⟩,
 ⟨some 116, .faddr (.tmp 4) 3, (some (110, true))⟩,
 ⟨some 117, .load false 1 (.tmp 116), (some (110, true))⟩,
 ⟨some 118, .call true (.const (.fn 322 [])) [(.tmp 115), (.tmp 117)] [], (some (110, true))⟩,
 ⟨some 119, .pick (.tmp 110) (.tmp 118) (.const (.bool false)), none⟩,
 ⟨some 120, .move (.tmp 119), none⟩,
 ⟨some 121, .move (.tmp 2), (some (120, false))⟩,
 ⟨some 122, .bin 0 .eql (.tmp 121) (.const (.int .i64 42)), (some (120, false))⟩,
 ⟨some 123, .move (.tmp 122), (some (120, false))⟩,
 ⟨some 124, .faddr (.tmp 4) 2, (some (123, true))⟩,
 ⟨some 125, .load false 1 (.tmp 124), (some (123, true))⟩,
 ⟨some 126, .move (.tmp 8), (some (123, true))⟩,
 ⟨some 127, .idxAddr (.tmp 125) (.tmp 126) 1, (some (123, true))⟩,
 ⟨some 128, .load false 1 (.tmp 127), (some (123, true))⟩,
 ⟨some 129, .call true (.const (.fn 285 [])) [(.tmp 128)] [], (some (123, true))⟩,
 ⟨some 130, .un .not (.tmp 129), (some (123, true))⟩,
 ⟨some 131, .pick (.tmp 123) (.tmp 130) (.const (.bool false)), (some (120, false))⟩,
 ⟨some 132, .pick (.tmp 120) (.const (.bool true)) (.tmp 131), none⟩])
 (.cond (.tmp 132)
 (.seq
 (.region false [
 ⟨some 6, .assign (.const (.bool true)), none⟩])
 .ret)
 .skip)))
 (.region false [
 ⟨some 106, .move (.tmp 8), none⟩,
 ⟨some 107, .bin 0 .add (.tmp 106) (.const (.int .i64 1)), none⟩,
 ⟨some 8, .assign (.tmp 107), none⟩]))))))
 (.seq
 (.seq
 (.region false [
 ⟨some 133, .move (.tmp 2), none⟩,
 ⟨some 134, .bin 0 .eql (.tmp 133) (.const (.int .i64 43)), none⟩])
 (.cond (.tmp 134)
 (.seq
 (.region false [
 ⟨some 135, .load true 4 (.tmp 4), none⟩,
 ⟨some 136, .call true (.const (.fn 324 [])) [(.tmp 135)] [], none⟩,
 ⟨some 9, .assign (.tmp 136), none⟩])
 (.seq
 (.region false [
 ⟨some 10, .assign (.const (.int .i64 0)), none⟩])
 (.block 5
 (.loop [0, 9, 10]
 (.seq
 (.seq
 (.region false [
 ⟨some 137, .move (.tmp 10), none⟩,
 ⟨some 138, .move (.tmp 9), none⟩,
 ⟨some 139, .len false (.tmp 138), none⟩,
 ⟨some 140, .bin 0 .lss (.tmp 137) (.tmp 139), none⟩])
 (.cond (.tmp 140)
 .skip
 (.exit 5)))
 (.seq
 (.block 6
 (.seq
 (.region true [
 ⟨some 143, .move (.tmp 0), none⟩,
 ⟨some 144, .move (.tmp 9), none⟩,
 ⟨some 145, .move (.tmp 10), none⟩,
 ⟨some 146, .idxAddr (.tmp 144) (.tmp 145) 2, none⟩,
 ⟨some 147, .faddr (.tmp 146) 0, none⟩,
 ⟨some 148, .load false 1 (.tmp 147), none⟩,
 ⟨some 149, .move (.tmp 9), none⟩,
 ⟨some 150, .move (.tmp 10), none⟩,
 ⟨some 151, .idxAddr (.tmp 149) (.tmp 150) 2, none⟩,
 ⟨some 152, .faddr (.tmp 151) 1, none⟩,
 ⟨some 153, .load false 1 (.tmp 152), none⟩,
 ⟨some 154, .call true (.const (.fn 325 [])) [(.tmp 143), (.tmp 148), (.tmp 153)] [], none⟩,
 ⟨some 155, .len false (.tmp 154), none⟩,
 ⟨some 156, .bin 0 .eql (.tmp 155) (.const (.int .i64 0)), none⟩])
 (.cond (.tmp 156)
 (.seq
 (.region false [
 ⟨some 6, .assign (.const (.bool true)), none⟩])
 .ret)
 .skip)))
 (.region false [
 ⟨some 141, .move (.tmp 10), none⟩,
 ⟨some 142, .bin 0 .add (.tmp 141) (.const (.int .i64 1)), none⟩,
 ⟨some 10, .assign (.tmp 142), none⟩])))))))
 .skip))
 (.seq
 (.region false [
 ⟨some 6, .assign (.const (.bool false)), none⟩])
 .ret)))))) }
/-- purlin/purlinlaw04.local -/
def tf298 : TFn := { ntmps := 7, results := [.tmp 2], body :=
 (.seq
 (.region false [
 ⟨some 2, .assign (.const (.sl true 0 5 [] [])), none⟩])
 (.seq
 (.region false [
 ⟨some 3, .move (.tmp 0), none⟩,
 ⟨some 4, .build [.int .i64 0, .int .i64 0] [(0, 1, (.const (.int .i64 (-1)))), (1, 1, (.tmp 3))], none⟩,
 ⟨some 5, .build [.int .u8 0, .str ⟨#[]⟩, .int .i64 0, .int .i64 0, .int .i64 0] [(0, 1, (.const (.int .u8 4))), (3, 2, (.tmp 4))], none⟩,
 ⟨some 6, .buildSlice 1 5 [.int .u8 0, .str ⟨#[]⟩, .int .i64 0, .int .i64 0, .int .i64 0] [(0, (.tmp 5))], none⟩,
 ⟨some 2, .assign (.tmp 6), none⟩])
 .ret)) }
/-- purlin/purlinlaw04.of -/
def tf299 : TFn := { ntmps := 25, results := [.tmp 4], body :=
 (.seq
 (.region false [
 ⟨some 4, .assign (.const (.sl true 0 5 [] [])), none⟩])
 (.seq
 (.region false [
 ⟨some 7, .move (.tmp 0), none⟩,
 ⟨some 8, .move (.tmp 1), none⟩,
 ⟨some 9, .len false (.tmp 8), none⟩,
 ⟨some 10, .build [.int .u8 0, .str ⟨#[]⟩, .int .i64 0, .int .i64 0, .int .i64 0] [(0, 1, (.const (.int .u8 3))), (1, 1, (.tmp 7)), (2, 1, (.tmp 9))], none⟩,
 ⟨some 11, .buildSlice 1 5 [.int .u8 0, .str ⟨#[]⟩, .int .i64 0, .int .i64 0, .int .i64 0] [(0, (.tmp 10))], none⟩,
 ⟨some 5, .assign (.tmp 11), none⟩])
 (.seq
 (.seq
 (.region false [
 ⟨some 6, .assign (.const (.int .i64 0)), none⟩])
 (.block 0
 (.loop [1, 5, 6]
 (.seq
 (.seq
 (.region false [
 ⟨some 12, .move (.tmp 6), none⟩,
 ⟨some 13, .move (.tmp 1), none⟩,
 ⟨some 14, .len false (.tmp 13), none⟩,
 ⟨some 15, .bin 0 .lss (.tmp 12) (.tmp 14), none⟩])
 (.cond (.tmp 15)
 .skip
 (.exit 0)))
 (.seq
 (.block 1
 (.region false [
 ⟨some 18, .move (.tmp 5), none⟩,
 ⟨some 19, .move (.tmp 1), none⟩,
 ⟨some 20, .move (.tmp 6), none⟩,
 ⟨some 21, .idxAddr (.tmp 19) (.tmp 20) 1, none⟩,
 ⟨some 22, .load false 1 (.tmp 21), none⟩,
 ⟨some 23, .append 5 48 (.tmp 18) (.tmp 22), none⟩,
 ⟨some 5, .assign (.tmp 23), none⟩]))
 (.region false [
 ⟨some 16, .move (.tmp 6), none⟩,
 ⟨some 17, .bin 0 .add (.tmp 16) (.const (.int .i64 1)), none⟩,
 ⟨some 6, .assign (.tmp 17), none⟩]))))))
 (.seq
 (.region false [
 ⟨some 24, .move (.tmp 5), none⟩,
 ⟨some 4, .assign (.tmp 24), none⟩])
 .ret)))) }
/-- purlin/check.calls -/
def tf300 : TFn := { ntmps := 46, results := [.tmp 2], body :=
 (.seq
 (.region false [
 ⟨some 2, .assign (.const (.sl true 0 2 [] [])), none⟩])
 (.seq
 (.region false [
 ⟨some 3, .assign (.const (.sl true 0 2 [] [])), none⟩])
 (.seq
 (.seq
 (.region false [
 ⟨some 8, .move (.tmp 0), none⟩,
 ⟨some 9, .len false (.tmp 8), none⟩,
 ⟨some 10, .move (.const (.int .i64 0)), none⟩])
 (.block 0
 (.loop [3, 8, 9, 10]
 (.seq
 (.region false [
 ⟨some 11, .bin 0 .lss (.tmp 10) (.tmp 9), none⟩])
 (.seq
 (.cond (.tmp 11)
 .skip
 (.exit 0))
 (.seq
 (.block 1
 (.seq
 (.region false [
 ⟨some 12, .idxAddr (.tmp 8) (.tmp 10) 1, none⟩,
 ⟨some 13, .load false 1 (.tmp 12), none⟩,
 ⟨some 5, .assign (.tmp 13), none⟩])
 (.seq
 (.seq
 (.region false [
 ⟨some 14, .move (.tmp 5), none⟩,
 ⟨some 15, .call true (.const (.fn 30 [])) [(.tmp 14)] [], none⟩,
 ⟨some 16, .un .not (.tmp 15), none⟩])
 (.cond (.tmp 16)
 (.exit 1)
 .skip))
 (.seq
 (.seq
 (.region false [
 ⟨some 17, .move (.tmp 5), none⟩,
 ⟨some 18, .call true (.const (.fn 312 [])) [(.tmp 17), (.const (.str ⟨#[64]⟩)), (.const (.int .i64 2))] [], none⟩])
 (.cond (.tmp 18)
 (.region false [
 ⟨some 19, .move (.tmp 5), none⟩,
 ⟨some 20, .call true (.const (.fn 17 [])) [(.tmp 19)] [], none⟩,
 ⟨some 21, .idxAddr (.tmp 20) (.const (.int .i64 0)) 1, none⟩,
 ⟨some 22, .load false 1 (.tmp 21), none⟩,
 ⟨some 5, .assign (.tmp 22), none⟩])
 .skip))
 (.seq
 (.region false [
 ⟨some 24, .move (.tmp 5), none⟩,
 ⟨some 25, .call true (.const (.fn 307 [])) [(.tmp 24)] [], none⟩,
 ⟨some 23, .move (.tmp 25), none⟩,
 ⟨some 26, .extract (.tmp 23) 0, none⟩,
 ⟨some 27, .extract (.tmp 23) 1, none⟩,
 ⟨some 6, .box 2 (.const (.agg [.str ⟨#[]⟩, .int .i64 0])), none⟩,
 ⟨none, .store 2 (.tmp 6) (.tmp 26), none⟩,
 ⟨some 7, .assign (.tmp 27), none⟩])
 (.seq
 (.region false [
 ⟨some 28, .move (.tmp 7), none⟩,
 ⟨some 29, .move (.tmp 28), none⟩,
 ⟨some 30, .load true 2 (.tmp 6), (some (29, true))⟩,
 ⟨some 31, .build [.str ⟨#[]⟩, .int .i64 0] [(0, 1, (.const (.str ⟨#[116, 114, 117, 101]⟩))), (1, 1, (.const (.int .i64 0)))], (some (29, true))⟩,
 ⟨some 32, .eqAgg true 6100 (.tmp 30) (.tmp 31), (some (29, true))⟩,
 ⟨some 33, .pick (.tmp 29) (.tmp 32) (.const (.bool false)), none⟩,
 ⟨some 34, .move (.tmp 33), none⟩,
 ⟨some 35, .move (.tmp 3), (some (34, true))⟩,
 ⟨some 36, .load true 2 (.tmp 6), (some (34, true))⟩,
 ⟨some 37, .call true (.const (.fn 308 [])) [(.tmp 35), (.tmp 36)] [], (some (34, true))⟩,
 ⟨some 38, .un .not (.tmp 37), (some (34, true))⟩,
 ⟨some 39, .pick (.tmp 34) (.tmp 38) (.const (.bool false)), none⟩])
 (.cond (.tmp 39)
 (.region false [
 ⟨some 40, .move (.tmp 3), none⟩,
 ⟨some 41, .load true 2 (.tmp 6), none⟩,
 ⟨some 42, .buildSlice 1 2 [.str ⟨#[]⟩, .int .i64 0] [(0, (.tmp 41))], none⟩,
 ⟨some 43, .append 2 24 (.tmp 40) (.tmp 42), none⟩,
 ⟨some 3, .assign (.tmp 43), none⟩])
 .skip)))))))
 (.region false [
 ⟨some 44, .bin 0 .add (.tmp 10) (.const (.int .i64 1)), none⟩,
 ⟨some 10, .move (.tmp 44), none⟩])))))))
 (.seq
 (.region false [
 ⟨some 45, .move (.tmp 3), none⟩,
 ⟨some 2, .assign (.tmp 45), none⟩])
 .ret)))) }
/-- purlin/check.isSum -/
def tf301 : TFn := { ntmps := 41, results := [.tmp 2], body :=
 (.seq
 (.region false [
 ⟨some 2, .assign (.const (.bool false)), none⟩])
 (.seq
 (.seq
 (.region false [
 ⟨some 5, .move (.tmp 0), none⟩,
 ⟨some 6, .idxAddr (.tmp 5) (.const (.int .i64 0)) 5, none⟩,
 ⟨some 7, .load true 5 (.tmp 6), none⟩,
 ⟨some 3, .box 5 (.const (.agg [.int .u8 0, .str ⟨#[]⟩, .int .i64 0, .int .i64 0, .int .i64 0])), none⟩,
 ⟨none, .store 5 (.tmp 3) (.tmp 7), none⟩])
 (.seq
 (.region false [
 ⟨some 8, .faddr (.tmp 3) 0, none⟩,
 ⟨some 9, .load false 1 (.tmp 8), none⟩])
 (.block 0
 (.seq
 (.seq
 (.region false [
 ⟨some 11, .bin 0 .eql (.tmp 9) (.const (.int .u8 1)), none⟩,
 ⟨some 10, .assign (.tmp 11), none⟩])
 (.cond (.tmp 10)
 .skip
 (.region false [
 ⟨some 12, .bin 0 .eql (.tmp 9) (.const (.int .u8 4)), none⟩,
 ⟨some 10, .assign (.tmp 12), none⟩])))
 (.cond (.tmp 10)
 (.seq
 (.region false [
 ⟨some 2, .assign (.const (.bool true)), none⟩])
 .ret)
 (.seq
 (.region false [
 ⟨some 14, .bin 0 .eql (.tmp 9) (.const (.int .u8 3)), none⟩,
 ⟨some 13, .assign (.tmp 14), none⟩])
 (.cond (.tmp 13)
 (.seq
 (.region false [
 ⟨some 15, .buildSlice 7 1 [.str ⟨#[]⟩] [(0, (.const (.str ⟨#[43]⟩))), (1, (.const (.str ⟨#[45]⟩))), (2, (.const (.str ⟨#[42]⟩))), (3, (.const (.str ⟨#[100, 105, 118]⟩))), (4, (.const (.str ⟨#[109, 111, 100]⟩))), (5, (.const (.str ⟨#[109, 105, 110]⟩))), (6, (.const (.str ⟨#[109, 97, 120]⟩)))], none⟩,
 ⟨some 16, .faddr (.tmp 3) 1, none⟩,
 ⟨some 17, .load false 1 (.tmp 16), none⟩,
 ⟨some 18, .call true (.const (.fn 248 [])) [(.tmp 15), (.tmp 17)] [], none⟩,
 ⟨some 19, .move (.tmp 18), none⟩,
 ⟨some 20, .faddr (.tmp 3) 2, (some (19, true))⟩,
 ⟨some 21, .load false 1 (.tmp 20), (some (19, true))⟩,
 ⟨some 22, .bin 0 .eql (.tmp 21) (.const (.int .i64 2)), (some (19, true))⟩,
 ⟨some 23, .pick (.tmp 19) (.tmp 22) (.const (.bool false)), none⟩,
 ⟨some 4, .assign (.tmp 23), none⟩])
 (.seq
 (.region false [
 ⟨some 24, .move (.tmp 4), none⟩,
 ⟨some 25, .move (.tmp 24), none⟩,
 ⟨some 26, .faddr (.tmp 3) 1, (some (25, false))⟩,
 ⟨some 27, .load false 1 (.tmp 26), (some (25, false))⟩,
 ⟨some 28, .bin 0 .eql (.tmp 27) (.const (.str ⟨#[97, 98, 115]⟩)), (some (25, false))⟩,
 ⟨some 29, .move (.tmp 28), (some (25, false))⟩,
 ⟨some 30, .faddr (.tmp 3) 2, (some (29, true))⟩,
 ⟨some 31, .load false 1 (.tmp 30), (some (29, true))⟩,
 ⟨some 32, .bin 0 .eql (.tmp 31) (.const (.int .i64 1)), (some (29, true))⟩,
 ⟨some 33, .pick (.tmp 29) (.tmp 32) (.const (.bool false)), (some (25, false))⟩,
 ⟨some 34, .pick (.tmp 25) (.const (.bool true)) (.tmp 33), none⟩,
 ⟨some 35, .move (.tmp 34), none⟩,
 ⟨some 36, .move (.tmp 0), (some (35, true))⟩,
 ⟨some 37, .call true (.const (.fn 17 [])) [(.tmp 36)] [], (some (35, true))⟩,
 ⟨some 38, .call true (.const (.fn 33 [])) [(.tmp 37), (.const (.fn 326 []))] [], (some (35, true))⟩,
 ⟨some 39, .un .not (.tmp 38), (some (35, true))⟩,
 ⟨some 40, .pick (.tmp 35) (.tmp 39) (.const (.bool false)), none⟩,
 ⟨some 2, .assign (.tmp 40), none⟩])
 .ret))
 .skip)))))))
 (.seq
 (.region false [
 ⟨some 2, .assign (.const (.bool false)), none⟩])
 .ret))) }
/-- purlin/purlinref04.sum -/
def tf302 : TFn := { ntmps := 60, results := [.tmp 2], body :=
 (.seq
 (.region false [
 ⟨some 2, .assign (.const (.bool false)), none⟩])
 (.seq
 (.region false [
 ⟨some 5, .move (.tmp 0), none⟩,
 ⟨some 6, .call true (.const (.fn 29 [])) [(.tmp 5)] [], none⟩,
 ⟨some 3, .assign (.tmp 6), none⟩])
 (.seq
 (.region false [
 ⟨some 7, .move (.tmp 0), none⟩,
 ⟨some 8, .idxAddr (.tmp 7) (.const (.int .i64 0)) 5, none⟩,
 ⟨some 9, .load true 5 (.tmp 8), none⟩,
 ⟨some 4, .box 5 (.const (.agg [.int .u8 0, .str ⟨#[]⟩, .int .i64 0, .int .i64 0, .int .i64 0])), none⟩,
 ⟨none, .store 5 (.tmp 4) (.tmp 9), none⟩])
 (.seq
 (.block 0
 (.seq
 (.region false [
 ⟨some 11, .faddr (.tmp 4) 0, none⟩,
 ⟨some 12, .load false 1 (.tmp 11), none⟩,
 ⟨some 13, .bin 0 .eql (.tmp 12) (.const (.int .u8 1)), none⟩,
 ⟨some 14, .move (.tmp 13), none⟩,
 ⟨some 15, .faddr (.tmp 4) 0, (some (14, false))⟩,
 ⟨some 16, .load false 1 (.tmp 15), (some (14, false))⟩,
 ⟨some 17, .bin 0 .eql (.tmp 16) (.const (.int .u8 4)), (some (14, false))⟩,
 ⟨some 18, .pick (.tmp 14) (.const (.bool true)) (.tmp 17), none⟩,
 ⟨some 10, .assign (.tmp 18), none⟩])
 (.cond (.tmp 10)
 (.seq
 (.region false [
 ⟨some 2, .assign (.const (.bool true)), none⟩])
 .ret)
 (.seq
 (.region false [
 ⟨some 20, .faddr (.tmp 4) 0, none⟩,
 ⟨some 21, .load false 1 (.tmp 20), none⟩,
 ⟨some 22, .bin 0 .neq (.tmp 21) (.const (.int .u8 3)), none⟩,
 ⟨some 19, .assign (.tmp 22), none⟩])
 (.cond (.tmp 19)
 (.seq
 (.region false [
 ⟨some 2, .assign (.const (.bool false)), none⟩])
 .ret)
 (.seq
 (.region false [
 ⟨some 24, .move (.tmp 3), none⟩,
 ⟨some 25, .len false (.tmp 24), none⟩,
 ⟨some 26, .bin 0 .eql (.tmp 25) (.const (.int .i64 1)), none⟩,
 ⟨some 23, .assign (.tmp 26), none⟩])
 (.cond (.tmp 23)
 (.seq
 (.region false [
 ⟨some 27, .faddr (.tmp 4) 1, none⟩,
 ⟨some 28, .load false 1 (.tmp 27), none⟩,
 ⟨some 29, .bin 0 .eql (.tmp 28) (.const (.str ⟨#[97, 98, 115]⟩)), none⟩,
 ⟨some 30, .move (.tmp 29), none⟩,
 ⟨some 31, .move (.tmp 3), (some (30, true))⟩,
 ⟨some 32, .idxAddr (.tmp 31) (.const (.int .i64 0)) 1, (some (30, true))⟩,
 ⟨some 33, .load false 1 (.tmp 32), (some (30, true))⟩,
 ⟨some 34, .call true (.const (.fn 302 [])) [(.tmp 33)] [], (some (30, true))⟩,
 ⟨some 35, .pick (.tmp 30) (.tmp 34) (.const (.bool false)), none⟩,
 ⟨some 2, .assign (.tmp 35), none⟩])
 .ret)
 (.seq
 (.region false [
 ⟨some 37, .move (.tmp 3), none⟩,
 ⟨some 38, .len false (.tmp 37), none⟩,
 ⟨some 39, .bin 0 .neq (.tmp 38) (.const (.int .i64 2)), none⟩,
 ⟨some 36, .assign (.tmp 39), none⟩])
 (.cond (.tmp 36)
 (.seq
 (.region false [
 ⟨some 2, .assign (.const (.bool false)), none⟩])
 .ret)
 .skip)))))))))
 (.seq
 (.seq
 (.region false [
 ⟨some 40, .faddr (.tmp 4) 1, none⟩,
 ⟨some 41, .load false 1 (.tmp 40), none⟩])
 (.block 1
 (.seq
 (.seq
 (.region false [
 ⟨some 43, .bin 0 .eql (.tmp 41) (.const (.str ⟨#[43]⟩)), none⟩,
 ⟨some 42, .assign (.tmp 43), none⟩])
 (.cond (.tmp 42)
 .skip
 (.seq
 (.region false [
 ⟨some 44, .bin 0 .eql (.tmp 41) (.const (.str ⟨#[45]⟩)), none⟩,
 ⟨some 42, .assign (.tmp 44), none⟩])
 (.cond (.tmp 42)
 .skip
 (.seq
 (.region false [
 ⟨some 45, .bin 0 .eql (.tmp 41) (.const (.str ⟨#[42]⟩)), none⟩,
 ⟨some 42, .assign (.tmp 45), none⟩])
 (.cond (.tmp 42)
 .skip
 (.seq
 (.region false [
 ⟨some 46, .bin 0 .eql (.tmp 41) (.const (.str ⟨#[100, 105, 118]⟩)), none⟩,
 ⟨some 42, .assign (.tmp 46), none⟩])
 (.cond (.tmp 42)
 .skip
 (.seq
 (.region false [
 ⟨some 47, .bin 0 .eql (.tmp 41) (.const (.str ⟨#[109, 111, 100]⟩)), none⟩,
 ⟨some 42, .assign (.tmp 47), none⟩])
 (.cond (.tmp 42)
 .skip
 (.seq
 (.region false [
 ⟨some 48, .bin 0 .eql (.tmp 41) (.const (.str ⟨#[109, 105, 110]⟩)), none⟩,
 ⟨some 42, .assign (.tmp 48), none⟩])
 (.cond (.tmp 42)
 .skip
 (.region false [
 ⟨some 49, .bin 0 .eql (.tmp 41) (.const (.str ⟨#[109, 97, 120]⟩)), none⟩,
 ⟨some 42, .assign (.tmp 49), none⟩])))))))))))))
 (.cond (.tmp 42)
 (.seq
 (.region false [
 ⟨some 50, .move (.tmp 3), none⟩,
 ⟨some 51, .idxAddr (.tmp 50) (.const (.int .i64 0)) 1, none⟩,
 ⟨some 52, .load false 1 (.tmp 51), none⟩,
 ⟨some 53, .call true (.const (.fn 302 [])) [(.tmp 52)] [], none⟩,
 ⟨some 54, .move (.tmp 53), none⟩,
 ⟨some 55, .move (.tmp 3), (some (54, true))⟩,
 ⟨some 56, .idxAddr (.tmp 55) (.const (.int .i64 1)) 1, (some (54, true))⟩,
 ⟨some 57, .load false 1 (.tmp 56), (some (54, true))⟩,
 ⟨some 58, .call true (.const (.fn 302 [])) [(.tmp 57)] [], (some (54, true))⟩,
 ⟨some 59, .pick (.tmp 54) (.tmp 58) (.const (.bool false)), none⟩,
 ⟨some 2, .assign (.tmp 59), none⟩])
 .ret)
 .skip))))
 (.seq
 (.region false [
 ⟨some 2, .assign (.const (.bool false)), none⟩])
 .ret)))))) }
/-- purlin/check.isGuard -/
def tf303 : TFn := { ntmps := 52, results := [.tmp 2], body :=
 (.seq
 (.region false [
 ⟨some 2, .assign (.const (.bool false)), none⟩])
 (.seq
 (.seq
 (.region false [
 ⟨some 5, .move (.tmp 0), none⟩,
 ⟨some 6, .call true (.const (.fn 312 [])) [(.tmp 5), (.const (.str ⟨#[116, 114, 117, 101]⟩)), (.const (.int .i64 0))] [], none⟩])
 (.cond (.tmp 6)
 (.seq
 (.region false [
 ⟨some 2, .assign (.const (.bool true)), none⟩])
 .ret)
 .skip))
 (.seq
 (.region false [
 ⟨some 7, .move (.tmp 0), none⟩,
 ⟨some 8, .idxAddr (.tmp 7) (.const (.int .i64 0)) 5, none⟩,
 ⟨some 9, .load true 5 (.tmp 8), none⟩,
 ⟨some 3, .box 5 (.const (.agg [.int .u8 0, .str ⟨#[]⟩, .int .i64 0, .int .i64 0, .int .i64 0])), none⟩,
 ⟨none, .store 5 (.tmp 3) (.tmp 9), none⟩])
 (.seq
 (.seq
 (.region false [
 ⟨some 10, .faddr (.tmp 3) 0, none⟩,
 ⟨some 11, .load false 1 (.tmp 10), none⟩,
 ⟨some 12, .bin 0 .neq (.tmp 11) (.const (.int .u8 3)), none⟩])
 (.cond (.tmp 12)
 (.seq
 (.region false [
 ⟨some 2, .assign (.const (.bool false)), none⟩])
 .ret)
 .skip))
 (.seq
 (.region false [
 ⟨some 4, .box 1 (.const (.nilfn)), none⟩,
 ⟨none, .store 1 (.tmp 4) (.const (.fn 327 [])), none⟩])
 (.seq
 (.block 0
 (.seq
 (.region false [
 ⟨some 14, .faddr (.tmp 3) 2, none⟩,
 ⟨some 15, .load false 1 (.tmp 14), none⟩,
 ⟨some 16, .bin 0 .eql (.tmp 15) (.const (.int .i64 2)), none⟩,
 ⟨some 17, .move (.tmp 16), none⟩,
 ⟨some 18, .buildSlice 6 1 [.str ⟨#[]⟩] [(0, (.const (.str ⟨#[60]⟩))), (1, (.const (.str ⟨#[61, 60]⟩))), (2, (.const (.str ⟨#[62]⟩))), (3, (.const (.str ⟨#[62, 61]⟩))), (4, (.const (.str ⟨#[61, 58, 61]⟩))), (5, (.const (.str ⟨#[61, 92, 61]⟩)))], (some (17, true))⟩,
 ⟨some 19, .faddr (.tmp 3) 1, (some (17, true))⟩,
 ⟨some 20, .load false 1 (.tmp 19), (some (17, true))⟩,
 ⟨some 21, .call true (.const (.fn 248 [])) [(.tmp 18), (.tmp 20)] [], (some (17, true))⟩,
 ⟨some 22, .pick (.tmp 17) (.tmp 21) (.const (.bool false)), none⟩,
 ⟨some 13, .assign (.tmp 22), none⟩])
 (.cond (.tmp 13)
 (.region false [
 ⟨none, .store 1 (.tmp 4) (.const (.fn 301 [])), none⟩])
 (.seq
 (.region false [
 ⟨some 24, .faddr (.tmp 3) 2, none⟩,
 ⟨some 25, .load false 1 (.tmp 24), none⟩,
 ⟨some 26, .bin 0 .eql (.tmp 25) (.const (.int .i64 1)), none⟩,
 ⟨some 27, .move (.tmp 26), none⟩,
 ⟨some 28, .buildSlice 4 1 [.str ⟨#[]⟩] [(0, (.const (.str ⟨#[105, 110, 116, 101, 103, 101, 114]⟩))), (1, (.const (.str ⟨#[97, 116, 111, 109]⟩))), (2, (.const (.str ⟨#[99, 111, 109, 112, 111, 117, 110, 100]⟩))), (3, (.const (.str ⟨#[107, 110, 111, 119, 110]⟩)))], (some (27, true))⟩,
 ⟨some 29, .faddr (.tmp 3) 1, (some (27, true))⟩,
 ⟨some 30, .load false 1 (.tmp 29), (some (27, true))⟩,
 ⟨some 31, .call true (.const (.fn 248 [])) [(.tmp 28), (.tmp 30)] [], (some (27, true))⟩,
 ⟨some 32, .pick (.tmp 27) (.tmp 31) (.const (.bool false)), none⟩,
 ⟨some 23, .assign (.tmp 32), none⟩])
 (.cond (.tmp 23)
 .skip
 (.seq
 (.region false [
 ⟨some 34, .faddr (.tmp 3) 2, none⟩,
 ⟨some 35, .load false 1 (.tmp 34), none⟩,
 ⟨some 36, .bin 0 .eql (.tmp 35) (.const (.int .i64 2)), none⟩,
 ⟨some 37, .move (.tmp 36), none⟩,
 ⟨some 38, .faddr (.tmp 3) 1, (some (37, true))⟩,
 ⟨some 39, .load false 1 (.tmp 38), (some (37, true))⟩,
 ⟨some 40, .bin 0 .eql (.tmp 39) (.const (.str ⟨#[101, 113, 117, 97, 108]⟩)), (some (37, true))⟩,
 ⟨some 41, .move (.tmp 40), (some (37, true))⟩,
 ⟨some 42, .faddr (.tmp 3) 1, (some (41, false))⟩,
 ⟨some 43, .load false 1 (.tmp 42), (some (41, false))⟩,
 ⟨some 44, .bin 0 .eql (.tmp 43) (.const (.str ⟨#[117, 110, 108, 105, 107, 101]⟩)), (some (41, false))⟩,
 ⟨some 45, .pick (.tmp 41) (.const (.bool true)) (.tmp 44), (some (37, true))⟩,
 ⟨some 46, .pick (.tmp 37) (.tmp 45) (.const (.bool false)), none⟩,
 ⟨some 33, .assign (.tmp 46), none⟩])
 (.cond (.tmp 33)
 .skip
 (.seq
 (.region false [
 ⟨some 2, .assign (.const (.bool false)), none⟩])
 .ret))))))))
 (.seq
 (.region false [
 ⟨some 47, .move (.tmp 0), none⟩,
 ⟨some 48, .call true (.const (.fn 17 [])) [(.tmp 47)] [], none⟩,
 ⟨some 49, .makeFunc 328 [(.tmp 4)], none⟩,
 ⟨some 50, .call true (.const (.fn 33 [])) [(.tmp 48), (.tmp 49)] [], none⟩,
 ⟨some 51, .un .not (.tmp 50), none⟩,
 ⟨some 2, .assign (.tmp 51), none⟩])
 .ret))))))) }
/-- purlin/purlinref04.simple -/
def tf304 : TFn := { ntmps := 8, results := [.tmp 2], body :=
 (.seq
 (.region false [
 ⟨some 2, .assign (.const (.bool false)), none⟩])
 (.seq
 (.region false [
 ⟨some 3, .move (.tmp 0), none⟩,
 ⟨some 4, .idxAddr (.tmp 3) (.const (.int .i64 0)) 5, none⟩,
 ⟨some 5, .faddr (.tmp 4) 0, none⟩,
 ⟨some 6, .load false 1 (.tmp 5), none⟩,
 ⟨some 7, .bin 0 .neq (.tmp 6) (.const (.int .u8 3)), none⟩,
 ⟨some 2, .assign (.tmp 7), none⟩])
 .ret)) }
/-- purlin/check.isGoal -/
def tf305 : TFn := { ntmps := 56, results := [.tmp 4], body :=
 (.seq
 (.region false [
 ⟨some 4, .assign (.const (.bool false)), none⟩])
 (.seq
 (.region false [
 ⟨some 7, .move (.tmp 0), none⟩,
 ⟨some 8, .call true (.const (.fn 17 [])) [(.tmp 7)] [], none⟩,
 ⟨some 5, .assign (.tmp 8), none⟩])
 (.seq
 (.block 0
 (.seq
 (.region false [
 ⟨some 10, .move (.tmp 0), none⟩,
 ⟨some 11, .call true (.const (.fn 312 [])) [(.tmp 10), (.const (.str ⟨#[61]⟩)), (.const (.int .i64 2))] [], none⟩,
 ⟨some 9, .assign (.tmp 11), none⟩])
 (.cond (.tmp 9)
 (.seq
 (.region false [
 ⟨some 4, .assign (.const (.bool true)), none⟩])
 .ret)
 (.seq
 (.region false [
 ⟨some 13, .move (.tmp 0), none⟩,
 ⟨some 14, .call true (.const (.fn 312 [])) [(.tmp 13), (.const (.str ⟨#[58, 61]⟩)), (.const (.int .i64 2))] [], none⟩,
 ⟨some 12, .assign (.tmp 14), none⟩])
 (.cond (.tmp 12)
 (.seq
 (.region false [
 ⟨some 15, .move (.tmp 5), none⟩,
 ⟨some 16, .idxAddr (.tmp 15) (.const (.int .i64 1)) 1, none⟩,
 ⟨some 17, .load false 1 (.tmp 16), none⟩,
 ⟨some 18, .call true (.const (.fn 301 [])) [(.tmp 17)] [], none⟩,
 ⟨some 4, .assign (.tmp 18), none⟩])
 .ret)
 (.seq
 (.region false [
 ⟨some 20, .move (.tmp 0), none⟩,
 ⟨some 21, .call true (.const (.fn 312 [])) [(.tmp 20), (.const (.str ⟨#[64]⟩)), (.const (.int .i64 2))] [], none⟩,
 ⟨some 19, .assign (.tmp 21), none⟩])
 (.cond (.tmp 19)
 (.seq
 (.region false [
 ⟨some 22, .move (.tmp 5), none⟩,
 ⟨some 23, .idxAddr (.tmp 22) (.const (.int .i64 1)) 1, none⟩,
 ⟨some 24, .load false 1 (.tmp 23), none⟩,
 ⟨some 25, .idxAddr (.tmp 24) (.const (.int .i64 0)) 5, none⟩,
 ⟨some 26, .load true 5 (.tmp 25), none⟩,
 ⟨some 6, .box 5 (.const (.agg [.int .u8 0, .str ⟨#[]⟩, .int .i64 0, .int .i64 0, .int .i64 0])), none⟩,
 ⟨none, .store 5 (.tmp 6) (.tmp 26), none⟩])
 (.seq
 (.region false [
 ⟨some 27, .move (.tmp 1), none⟩,
 ⟨some 28, .move (.tmp 27), none⟩,
 ⟨some 29, .move (.tmp 5), (some (28, true))⟩,
 ⟨some 30, .idxAddr (.tmp 29) (.const (.int .i64 0)) 1, (some (28, true))⟩,
 ⟨some 31, .load false 1 (.tmp 30), (some (28, true))⟩,
 ⟨some 32, .call true (.const (.fn 305 [])) [(.tmp 31), (.const (.bool false))] [], (some (28, true))⟩,
 ⟨some 33, .pick (.tmp 28) (.tmp 32) (.const (.bool false)), none⟩,
 ⟨some 34, .move (.tmp 33), none⟩,
 ⟨some 35, .faddr (.tmp 6) 0, (some (34, true))⟩,
 ⟨some 36, .load false 1 (.tmp 35), (some (34, true))⟩,
 ⟨some 37, .bin 0 .eql (.tmp 36) (.const (.int .u8 4)), (some (34, true))⟩,
 ⟨some 38, .move (.tmp 37), (some (34, true))⟩,
 ⟨some 39, .faddr (.tmp 6) 0, (some (38, false))⟩,
 ⟨some 40, .load false 1 (.tmp 39), (some (38, false))⟩,
 ⟨some 41, .bin 0 .eql (.tmp 40) (.const (.int .u8 1)), (some (38, false))⟩,
 ⟨some 42, .move (.tmp 41), (some (38, false))⟩,
 ⟨some 43, .faddr (.tmp 6) 2, (some (42, true))⟩,
 ⟨some 44, .load false 1 (.tmp 43), (some (42, true))⟩,
 ⟨some 45, .bin 0 .geq (.tmp 44) (.const (.int .i64 0)), (some (42, true))⟩,
 ⟨some 46, .pick (.tmp 42) (.tmp 45) (.const (.bool false)), (some (38, false))⟩,
 ⟨some 47, .move (.tmp 46), (some (38, false))⟩,
 ⟨some 48, .faddr (.tmp 6) 2, (some (47, true))⟩,
 ⟨some 49, .load false 1 (.tmp 48), (some (47, true))⟩,
 ⟨some 50, .bin 0 .lss (.tmp 49) (.const (.int .i64 4)), (some (47, true))⟩,
 ⟨some 51, .pick (.tmp 47) (.tmp 50) (.const (.bool false)), (some (38, false))⟩,
 ⟨some 52, .pick (.tmp 38) (.const (.bool true)) (.tmp 51), (some (34, true))⟩,
 ⟨some 53, .pick (.tmp 34) (.tmp 52) (.const (.bool false)), none⟩,
 ⟨some 4, .assign (.tmp 53), none⟩])
 .ret))
 .skip)))))))
 (.seq
 (.region false [
 ⟨some 54, .move (.tmp 0), none⟩,
 ⟨some 55, .call true (.const (.fn 317 [])) [(.tmp 54)] [], none⟩,
 ⟨some 4, .assign (.tmp 55), none⟩])
 .ret)))) }
/-- purlin/purlinref04.goal -/
def tf306 : TFn := { ntmps := 61, results := [.tmp 4], body :=
 (.seq
 (.region false [
 ⟨some 4, .assign (.const (.bool false)), none⟩])
 (.seq
 (.seq
 (.region false [
 ⟨some 7, .move (.tmp 0), none⟩,
 ⟨some 8, .call true (.const (.fn 256 [])) [(.tmp 7), (.const (.str ⟨#[116, 114, 117, 101]⟩)), (.const (.int .i64 0))] [], none⟩,
 ⟨some 9, .move (.tmp 8), none⟩,
 ⟨some 10, .move (.tmp 0), (some (9, false))⟩,
 ⟨some 11, .call true (.const (.fn 256 [])) [(.tmp 10), (.const (.str ⟨#[61]⟩)), (.const (.int .i64 2))] [], (some (9, false))⟩,
 ⟨some 12, .pick (.tmp 9) (.const (.bool true)) (.tmp 11), none⟩,
 ⟨some 13, .move (.tmp 12), none⟩,
 ⟨some 14, .move (.tmp 0), (some (13, false))⟩,
 ⟨some 15, .call true (.const (.fn 329 [])) [(.tmp 14)] [], (some (13, false))⟩,
 ⟨some 16, .pick (.tmp 13) (.const (.bool true)) (.tmp 15), none⟩])
 (.cond (.tmp 16)
 (.seq
 (.region false [
 ⟨some 4, .assign (.const (.bool true)), none⟩])
 .ret)
 .skip))
 (.seq
 (.region false [
 ⟨some 17, .move (.tmp 0), none⟩,
 ⟨some 18, .call true (.const (.fn 29 [])) [(.tmp 17)] [], none⟩,
 ⟨some 5, .assign (.tmp 18), none⟩])
 (.seq
 (.seq
 (.region false [
 ⟨some 19, .move (.tmp 0), none⟩,
 ⟨some 20, .call true (.const (.fn 256 [])) [(.tmp 19), (.const (.str ⟨#[58, 61]⟩)), (.const (.int .i64 2))] [], none⟩])
 (.cond (.tmp 20)
 (.seq
 (.region false [
 ⟨some 21, .move (.tmp 5), none⟩,
 ⟨some 22, .idxAddr (.tmp 21) (.const (.int .i64 1)) 1, none⟩,
 ⟨some 23, .load false 1 (.tmp 22), none⟩,
 ⟨some 24, .call true (.const (.fn 302 [])) [(.tmp 23)] [], none⟩,
 ⟨some 4, .assign (.tmp 24), none⟩])
 .ret)
 .skip))
 (.seq
 (.seq
 (.region false [
 ⟨some 25, .move (.tmp 1), none⟩,
 ⟨some 26, .move (.tmp 25), none⟩,
 ⟨some 27, .move (.tmp 0), (some (26, false))⟩,
 ⟨some 28, .call true (.const (.fn 256 [])) [(.tmp 27), (.const (.str ⟨#[64]⟩)), (.const (.int .i64 2))] [], (some (26, false))⟩,
 ⟨some 29, .un .not (.tmp 28), (some (26, false))⟩,
 ⟨some 30, .pick (.tmp 26) (.const (.bool true)) (.tmp 29), none⟩,
 ⟨some 31, .move (.tmp 30), none⟩,
 ⟨some 32, .move (.tmp 5), (some (31, false))⟩,
 ⟨some 33, .idxAddr (.tmp 32) (.const (.int .i64 0)) 1, (some (31, false))⟩,
 ⟨some 34, .load false 1 (.tmp 33), (some (31, false))⟩,
 ⟨some 35, .call true (.const (.fn 306 [])) [(.tmp 34), (.const (.bool true))] [], (some (31, false))⟩,
 ⟨some 36, .un .not (.tmp 35), (some (31, false))⟩,
 ⟨some 37, .pick (.tmp 31) (.const (.bool true)) (.tmp 36), none⟩])
 (.cond (.tmp 37)
 (.seq
 (.region false [
 ⟨some 4, .assign (.const (.bool false)), none⟩])
 .ret)
 .skip))
 (.seq
 (.region false [
 ⟨some 38, .move (.tmp 5), none⟩,
 ⟨some 39, .idxAddr (.tmp 38) (.const (.int .i64 1)) 1, none⟩,
 ⟨some 40, .load false 1 (.tmp 39), none⟩,
 ⟨some 41, .idxAddr (.tmp 40) (.const (.int .i64 0)) 5, none⟩,
 ⟨some 42, .load true 5 (.tmp 41), none⟩,
 ⟨some 6, .box 5 (.const (.agg [.int .u8 0, .str ⟨#[]⟩, .int .i64 0, .int .i64 0, .int .i64 0])), none⟩,
 ⟨none, .store 5 (.tmp 6) (.tmp 42), none⟩])
 (.seq
 (.region false [
 ⟨some 43, .faddr (.tmp 6) 0, none⟩,
 ⟨some 44, .load false 1 (.tmp 43), none⟩,
 ⟨some 45, .bin 0 .eql (.tmp 44) (.const (.int .u8 4)), none⟩,
 ⟨some 46, .move (.tmp 45), none⟩,
 ⟨some 47, .faddr (.tmp 6) 0, (some (46, false))⟩,
 ⟨some 48, .load false 1 (.tmp 47), (some (46, false))⟩,
 ⟨some 49, .bin 0 .eql (.tmp 48) (.const (.int .u8 1)), (some (46, false))⟩,
 ⟨some 50, .move (.tmp 49), (some (46, false))⟩,
 ⟨some 51, .faddr (.tmp 6) 2, (some (50, true))⟩,
 ⟨some 52, .load false 1 (.tmp 51), (some (50, true))⟩,
 ⟨some 53, .bin 0 .geq (.tmp 52) (.const (.int .i64 0)), (some (50, true))⟩,
 ⟨some 54, .pick (.tmp 50) (.tmp 53) (.const (.bool false)), (some (46, false))⟩,
 ⟨some 55, .move (.tmp 54), (some (46, false))⟩,
 ⟨some 56, .faddr (.tmp 6) 2, (some (55, true))⟩,
 ⟨some 57, .load false 1 (.tmp 56), (some (55, true))⟩,
 ⟨some 58, .bin 0 .lss (.tmp 57) (.const (.int .i64 4)), (some (55, true))⟩,
 ⟨some 59, .pick (.tmp 55) (.tmp 58) (.const (.bool false)), (some (46, false))⟩,
 ⟨some 60, .pick (.tmp 46) (.const (.bool true)) (.tmp 59), none⟩,
 ⟨some 4, .assign (.tmp 60), none⟩])
 .ret))))))) }
/-- purlin/check.predOf -/
def tf307 : TFn := { ntmps := 35, results := [.cell 2 true 2, .tmp 3], body :=
 (.seq
 (.region false [
 ⟨some 2, .box 2 (.const (.agg [.str ⟨#[]⟩, .int .i64 0])), none⟩,
 ⟨some 3, .assign (.const (.bool false)), none⟩])
 (.seq
 (.seq
 (.region false [
 ⟨some 5, .move (.tmp 0), none⟩,
 ⟨some 6, .len false (.tmp 5), none⟩,
 ⟨some 7, .bin 0 .eql (.tmp 6) (.const (.int .i64 0)), none⟩,
 ⟨some 8, .move (.tmp 7), none⟩,
 ⟨some 9, .move (.tmp 0), (some (8, false))⟩,
 ⟨some 10, .idxAddr (.tmp 9) (.const (.int .i64 0)) 5, (some (8, false))⟩,
 ⟨some 11, .faddr (.tmp 10) 1, (some (8, false))⟩,
 ⟨some 12, .load false 1 (.tmp 11), (some (8, false))⟩,
 ⟨some 13, .call true (.const (.fn 1 [])) [(.tmp 12)] [], (some (8, false))⟩,
 ⟨some 14, .un .not (.tmp 13), (some (8, false))⟩,
 ⟨some 15, .pick (.tmp 8) (.const (.bool true)) (.tmp 14), none⟩])
 (.cond (.tmp 15)
 (.seq
 (.region false [
 ⟨some 16, .build [.str ⟨#[]⟩, .int .i64 0] [], none⟩,
 ⟨none, .store 2 (.tmp 2) (.tmp 16), none⟩,
 ⟨some 3, .assign (.const (.bool false)), none⟩])
 .ret)
 .skip))
 (.seq
 (.seq
 (.region false [
 ⟨some 17, .move (.tmp 0), none⟩,
 ⟨some 18, .idxAddr (.tmp 17) (.const (.int .i64 0)) 5, none⟩,
 ⟨some 19, .load true 5 (.tmp 18), none⟩,
 ⟨some 4, .box 5 (.const (.agg [.int .u8 0, .str ⟨#[]⟩, .int .i64 0, .int .i64 0, .int .i64 0])), none⟩,
 ⟨none, .store 5 (.tmp 4) (.tmp 19), none⟩])
 (.seq
 (.region false [
 ⟨some 20, .faddr (.tmp 4) 0, none⟩,
 ⟨some 21, .load false 1 (.tmp 20), none⟩])
 (.block 0
 (.seq
 (.region false [
 ⟨some 23, .bin 0 .eql (.tmp 21) (.const (.int .u8 2)), none⟩,
 ⟨some 22, .assign (.tmp 23), none⟩])
 (.cond (.tmp 22)
 (.seq
 (.region false [
 ⟨some 24, .faddr (.tmp 4) 1, none⟩,
 ⟨some 25, .load false 1 (.tmp 24), none⟩,
 ⟨some 26, .build [.str ⟨#[]⟩, .int .i64 0] [(0, 1, (.tmp 25)), (1, 1, (.const (.int .i64 0)))], none⟩,
 ⟨none, .store 2 (.tmp 2) (.tmp 26), none⟩,
 ⟨some 3, .assign (.const (.bool true)), none⟩])
 .ret)
 (.seq
 (.region false [
 ⟨some 28, .bin 0 .eql (.tmp 21) (.const (.int .u8 3)), none⟩,
 ⟨some 27, .assign (.tmp 28), none⟩])
 (.cond (.tmp 27)
 (.seq
 (.region false [
 ⟨some 29, .faddr (.tmp 4) 1, none⟩,
 ⟨some 30, .load false 1 (.tmp 29), none⟩,
 ⟨some 31, .faddr (.tmp 4) 2, none⟩,
 ⟨some 32, .load false 1 (.tmp 31), none⟩,
 ⟨some 33, .build [.str ⟨#[]⟩, .int .i64 0] [(0, 1, (.tmp 30)), (1, 1, (.tmp 32))], none⟩,
 ⟨none, .store 2 (.tmp 2) (.tmp 33), none⟩,
 ⟨some 3, .assign (.const (.bool true)), none⟩])
 .ret)
 .skip)))))))
 (.seq
 (.region false [
 ⟨some 34, .build [.str ⟨#[]⟩, .int .i64 0] [], none⟩,
 ⟨none, .store 2 (.tmp 2) (.tmp 34), none⟩,
 ⟨some 3, .assign (.const (.bool false)), none⟩])
 .ret)))) }
/-- slices.Contains[[]purlin/check.Pred,purlin/check.Pred] -/
def tf308 : TFn := { ntmps := 9, results := [.tmp 4], body :=
 (.seq
 (.region false [
 ⟨some 3, .box 2 (.tmp 1), none⟩,
 ⟨some 4, .assign (.const (.bool false)), none⟩])
 (.seq
 (.region false [
 ⟨some 5, .move (.tmp 0), none⟩,
 ⟨some 6, .load true 2 (.tmp 3), none⟩,
 ⟨some 7, .call true (.const (.fn 313 [])) [(.tmp 5), (.tmp 6)] [], none⟩,
 ⟨some 8, .bin 0 .geq (.tmp 7) (.const (.int .i64 0)), none⟩,
 ⟨some 4, .assign (.tmp 8), none⟩])
 .ret)) }
/-- purlin/check.Where$1$1 -/
def tf309 : TFn := { ntmps := 8, results := [.tmp 3], body :=
 (.seq
 (.region false [
 ⟨some 2, .box 2 (.tmp 0), none⟩,
 ⟨some 3, .assign (.const (.bool false)), none⟩])
 (.seq
 (.region false [
 ⟨some 4, .load false 1 (.tmp 1), none⟩,
 ⟨some 5, .load true 2 (.tmp 2), none⟩,
 ⟨some 6, .call true (.const (.fn 308 [])) [(.tmp 4), (.tmp 5)] [], none⟩,
 ⟨some 7, .un .not (.tmp 6), none⟩,
 ⟨some 3, .assign (.tmp 7), none⟩])
 .ret)) }
/-- slices.ContainsFunc[[]purlin/check.Pred,purlin/check.Pred] -/
def tf310 : TFn := { ntmps := 9, results := [.tmp 4], body :=
 (.seq
 (.region false [
 ⟨some 4, .assign (.const (.bool false)), none⟩])
 (.seq
 (.region false [
 ⟨some 5, .move (.tmp 0), none⟩,
 ⟨some 6, .move (.tmp 1), none⟩,
 ⟨some 7, .call true (.const (.fn 311 [])) [(.tmp 5), (.tmp 6)] [], none⟩,
 ⟨some 8, .bin 0 .geq (.tmp 7) (.const (.int .i64 0)), none⟩,
 ⟨some 4, .assign (.tmp 8), none⟩])
 .ret)) }
/-- slices.IndexFunc[[]purlin/check.Pred,purlin/check.Pred] -/
def tf311 : TFn := { ntmps := 19, results := [.tmp 4], body :=
 (.seq
 (.region false [
 ⟨some 4, .assign (.const (.int .i64 0)), none⟩])
 (.seq
 (.seq
 (.region false [
 ⟨some 6, .move (.tmp 0), none⟩,
 ⟨some 7, .len false (.tmp 6), none⟩,
 ⟨some 8, .move (.const (.int .i64 0)), none⟩])
 (.block 0
 (.loop [0, 1, 7, 8]
 (.seq
 (.region false [
 ⟨some 9, .bin 0 .lss (.tmp 8) (.tmp 7), none⟩])
 (.seq
 (.cond (.tmp 9)
 .skip
 (.exit 0))
 (.seq
 (.block 1
 (.seq
 (.region false [
 ⟨some 10, .move (.tmp 8), none⟩,
 ⟨some 5, .assign (.tmp 10), none⟩])
 (.seq
 (.region false [
 ⟨some 11, .move (.tmp 1), none⟩,
 ⟨some 12, .move (.tmp 0), none⟩,
 ⟨some 13, .move (.tmp 5), none⟩,
 ⟨some 14, .idxAddr (.tmp 12) (.tmp 13) 2, none⟩,
 ⟨some 15, .load true 2 (.tmp 14), none⟩,
 ⟨some 16, .call true (.tmp 11) [(.tmp 15)] [], none⟩])
 (.cond (.tmp 16)
 (.seq
 (.region false [
 ⟨some 17, .move (.tmp 5), none⟩,
 ⟨some 4, .assign (.tmp 17), none⟩])
 .ret)
 .skip))))
 (.region false [
 ⟨some 18, .bin 0 .add (.tmp 8) (.const (.int .i64 1)), none⟩,
 ⟨some 8, .move (.tmp 18), none⟩])))))))
 (.seq
 (.region false [
 ⟨some 4, .assign (.const (.int .i64 (-1))), none⟩])
 .ret))) }
/-- purlin/term.Is -/
def tf312 : TFn := { ntmps := 42, results := [.tmp 6], body :=
 (.seq
 (.region false [
 ⟨some 6, .assign (.const (.bool false)), none⟩])
 (.seq
 (.seq
 (.region false [
 ⟨some 7, .move (.tmp 0), none⟩,
 ⟨some 8, .len false (.tmp 7), none⟩,
 ⟨some 9, .bin 0 .eql (.tmp 8) (.const (.int .i64 0)), none⟩,
 ⟨some 10, .move (.tmp 9), none⟩,
 ⟨some 11, .move (.tmp 0), (some (10, false))⟩,
 ⟨some 12, .idxAddr (.tmp 11) (.const (.int .i64 0)) 5, (some (10, false))⟩,
 ⟨some 13, .faddr (.tmp 12) 1, (some (10, false))⟩,
 ⟨some 14, .load false 1 (.tmp 13), (some (10, false))⟩,
 ⟨some 15, .move (.tmp 1), (some (10, false))⟩,
 ⟨some 16, .bin 0 .neq (.tmp 14) (.tmp 15), (some (10, false))⟩,
 ⟨some 17, .pick (.tmp 10) (.const (.bool true)) (.tmp 16), none⟩])
 (.cond (.tmp 17)
 (.seq
 (.region false [
 ⟨some 6, .assign (.const (.bool false)), none⟩])
 .ret)
 .skip))
 (.seq
 (.region false [
 ⟨some 18, .move (.tmp 0), none⟩,
 ⟨some 19, .idxAddr (.tmp 18) (.const (.int .i64 0)) 5, none⟩,
 ⟨some 20, .faddr (.tmp 19) 0, none⟩,
 ⟨some 21, .load false 1 (.tmp 20), none⟩,
 ⟨some 22, .bin 0 .eql (.tmp 21) (.const (.int .u8 3)), none⟩,
 ⟨some 23, .move (.tmp 22), none⟩,
 ⟨some 24, .move (.tmp 0), (some (23, true))⟩,
 ⟨some 25, .idxAddr (.tmp 24) (.const (.int .i64 0)) 5, (some (23, true))⟩,
 ⟨some 26, .faddr (.tmp 25) 2, (some (23, true))⟩,
 ⟨some 27, .load false 1 (.tmp 26), (some (23, true))⟩,
 ⟨some 28, .move (.tmp 2), (some (23, true))⟩,
 ⟨some 29, .bin 0 .eql (.tmp 27) (.tmp 28), (some (23, true))⟩,
 ⟨some 30, .pick (.tmp 23) (.tmp 29) (.const (.bool false)), none⟩,
 ⟨some 31, .move (.tmp 30), none⟩,
 ⟨some 32, .move (.tmp 2), (some (31, false))⟩,
 ⟨some 33, .bin 0 .eql (.tmp 32) (.const (.int .i64 0)), (some (31, false))⟩,
 ⟨some 34, .move (.tmp 33), (some (31, false))⟩,
 ⟨some 35, .move (.tmp 0), (some (34, true))⟩,
 ⟨some 36, .idxAddr (.tmp 35) (.const (.int .i64 0)) 5, (some (34, true))⟩,
 ⟨some 37, .faddr (.tmp 36) 0, (some (34, true))⟩,
 ⟨some 38, .load false 1 (.tmp 37), (some (34, true))⟩,
 ⟨some 39, .bin 0 .eql (.tmp 38) (.const (.int .u8 2)), (some (34, true))⟩,
 ⟨some 40, .pick (.tmp 34) (.tmp 39) (.const (.bool false)), (some (31, false))⟩,
 ⟨some 41, .pick (.tmp 31) (.const (.bool true)) (.tmp 40), none⟩,
 ⟨some 6, .assign (.tmp 41), none⟩])
 .ret))) }
/-- slices.Index[[]purlin/check.Pred,purlin/check.Pred] -/
def tf313 : TFn := { ntmps := 19, results := [.tmp 4], body :=
 (.seq
 (.region false [
 ⟨some 3, .box 2 (.tmp 1), none⟩,
 ⟨some 4, .assign (.const (.int .i64 0)), none⟩])
 (.seq
 (.seq
 (.region false [
 ⟨some 6, .move (.tmp 0), none⟩,
 ⟨some 7, .len false (.tmp 6), none⟩,
 ⟨some 8, .move (.const (.int .i64 0)), none⟩])
 (.block 0
 (.loop [0, 3, 7, 8]
 (.seq
 (.region false [
 ⟨some 9, .bin 0 .lss (.tmp 8) (.tmp 7), none⟩])
 (.seq
 (.cond (.tmp 9)
 .skip
 (.exit 0))
 (.seq
 (.block 1
 (.seq
 (.region false [
 ⟨some 10, .move (.tmp 8), none⟩,
 ⟨some 5, .assign (.tmp 10), none⟩])
 (.seq
 (.region true [
 ⟨some 11, .load true 2 (.tmp 3), none⟩,
 ⟨some 12, .move (.tmp 0), none⟩,
 ⟨some 13, .move (.tmp 5), none⟩,
 ⟨some 14, .idxAddr (.tmp 12) (.tmp 13) 2, none⟩,
 ⟨some 15, .load true 2 (.tmp 14), none⟩,
 ⟨some 16, .eqAgg false 6100 (.tmp 11) (.tmp 15), none⟩])
 (.cond (.tmp 16)
 (.seq
 (.region false [
 ⟨some 17, .move (.tmp 5), none⟩,
 ⟨some 4, .assign (.tmp 17), none⟩])
 .ret)
 .skip))))
 (.region false [
 ⟨some 18, .bin 0 .add (.tmp 8) (.const (.int .i64 1)), none⟩,
 ⟨some 8, .move (.tmp 18), none⟩])))))))
 (.seq
 (.region false [
 ⟨some 4, .assign (.const (.int .i64 (-1))), none⟩])
 .ret))) }
/-- purlin/check.terms -/
def tf314 : TFn := { ntmps := 12, results := [.tmp 2], body :=
 (.seq
 (.region false [
 ⟨some 1, .box 4 (.tmp 0), none⟩,
 ⟨some 2, .assign (.const (.sl true 0 1 [] [])), none⟩])
 (.seq
 (.region false [
 ⟨some 3, .faddr (.tmp 1) 0, none⟩,
 ⟨some 4, .load false 1 (.tmp 3), none⟩,
 ⟨some 5, .buildSlice 1 1 [.sl true 0 5 [] []] [(0, (.tmp 4))], none⟩,
 ⟨some 6, .faddr (.tmp 1) 1, none⟩,
 ⟨some 7, .load false 1 (.tmp 6), none⟩,
 ⟨some 8, .faddr (.tmp 1) 2, none⟩,
 ⟨some 9, .load false 1 (.tmp 8), none⟩,
 ⟨some 10, .buildSlice 3 1 [.sl true 0 1 [] []] [(0, (.tmp 5)), (1, (.tmp 7)), (2, (.tmp 9))], none⟩,
 ⟨some 11, .call true (.const (.fn 330 [])) [(.tmp 10)] [], none⟩,
 ⟨some 2, .assign (.tmp 11), none⟩])
 .ret)) }
/-- purlin/check.form$1 -/
def tf315 : TFn := { ntmps := 6, results := [.tmp 2], body :=
 (.seq
 (.region false [
 ⟨some 2, .assign (.const (.bool false)), none⟩])
 (.seq
 (.region false [
 ⟨some 3, .move (.tmp 0), none⟩,
 ⟨some 4, .call true (.const (.fn 30 [])) [(.tmp 3)] [], none⟩,
 ⟨some 5, .un .not (.tmp 4), none⟩,
 ⟨some 2, .assign (.tmp 5), none⟩])
 .ret)) }
/-- purlin/check.form$2 -/
def tf316 : TFn := { ntmps := 14, results := [.tmp 3], body :=
 (.seq
 (.region false [
 ⟨some 2, .box 2 (.tmp 0), none⟩,
 ⟨some 3, .assign (.const (.bool false)), none⟩])
 (.seq
 (.region false [
 ⟨some 4, .faddr (.tmp 2) 0, none⟩,
 ⟨some 5, .load false 1 (.tmp 4), none⟩,
 ⟨some 6, .bin 0 .neq (.tmp 5) (.const (.int .i64 (-1))), none⟩,
 ⟨some 7, .move (.tmp 6), none⟩,
 ⟨some 8, .faddr (.tmp 2) 1, (some (7, false))⟩,
 ⟨some 9, .load false 1 (.tmp 8), (some (7, false))⟩,
 ⟨some 10, .faddr (.tmp 1) 3, (some (7, false))⟩,
 ⟨some 11, .load false 1 (.tmp 10), (some (7, false))⟩,
 ⟨some 12, .bin 0 .geq (.tmp 9) (.tmp 11), (some (7, false))⟩,
 ⟨some 13, .pick (.tmp 7) (.const (.bool true)) (.tmp 12), none⟩,
 ⟨some 3, .assign (.tmp 13), none⟩])
 .ret)) }
/-- purlin/check.isCall -/
def tf317 : TFn := { ntmps := 22, results := [.tmp 2], body :=
 (.seq
 (.region false [
 ⟨some 2, .assign (.const (.bool false)), none⟩])
 (.seq
 (.region false [
 ⟨some 3, .move (.tmp 0), none⟩,
 ⟨some 4, .idxAddr (.tmp 3) (.const (.int .i64 0)) 5, none⟩,
 ⟨some 5, .faddr (.tmp 4) 0, none⟩,
 ⟨some 6, .load false 1 (.tmp 5), none⟩,
 ⟨some 7, .bin 0 .neq (.tmp 6) (.const (.int .u8 1)), none⟩,
 ⟨some 8, .move (.tmp 7), none⟩,
 ⟨some 9, .move (.tmp 0), (some (8, true))⟩,
 ⟨some 10, .idxAddr (.tmp 9) (.const (.int .i64 0)) 5, (some (8, true))⟩,
 ⟨some 11, .faddr (.tmp 10) 0, (some (8, true))⟩,
 ⟨some 12, .load false 1 (.tmp 11), (some (8, true))⟩,
 ⟨some 13, .bin 0 .neq (.tmp 12) (.const (.int .u8 4)), (some (8, true))⟩,
 ⟨some 14, .pick (.tmp 8) (.tmp 13) (.const (.bool false)), none⟩,
 ⟨some 15, .move (.tmp 14), none⟩,
 ⟨some 16, .move (.tmp 0), (some (15, true))⟩,
 ⟨some 17, .idxAddr (.tmp 16) (.const (.int .i64 0)) 5, (some (15, true))⟩,
 ⟨some 18, .faddr (.tmp 17) 1, (some (15, true))⟩,
 ⟨some 19, .load false 1 (.tmp 18), (some (15, true))⟩,
 ⟨some 20, .call true (.const (.fn 1 [])) [(.tmp 19)] [], (some (15, true))⟩,
 ⟨some 21, .pick (.tmp 15) (.tmp 20) (.const (.bool false)), none⟩,
 ⟨some 2, .assign (.tmp 21), none⟩])
 .ret)) }
/-- purlin/check.guard$1 -/
def tf318 : TFn := { ntmps := 14, results := [.tmp 3], body :=
 (.seq
 (.region false [
 ⟨some 3, .assign (.const (.bool false)), none⟩])
 (.seq
 (.region false [
 ⟨some 4, .move (.tmp 0), none⟩,
 ⟨some 5, .call true (.const (.fn 303 [])) [(.tmp 4)] [], none⟩,
 ⟨some 6, .un .not (.tmp 5), none⟩,
 ⟨some 7, .move (.tmp 6), none⟩,
 ⟨some 8, .move (.tmp 0), (some (7, false))⟩,
 ⟨some 9, .buildSlice 1 1 [.sl true 0 5 [] []] [(0, (.tmp 8))], (some (7, false))⟩,
 ⟨some 10, .call true (.const (.fn 22 [])) [(.tmp 9)] [], (some (7, false))⟩,
 ⟨some 11, .makeFunc 331 [(.tmp 1)], (some (7, false))⟩,
 ⟨some 12, .call true (.const (.fn 174 [])) [(.tmp 10), (.tmp 11)] [], (some (7, false))⟩,
 ⟨some 13, .pick (.tmp 7) (.const (.bool true)) (.tmp 12), none⟩,
 ⟨some 3, .assign (.tmp 13), none⟩])
 .ret)) }
/-- purlin/check.body$1 -/
def tf319 : TFn := { ntmps := 6, results := [.tmp 2], body :=
 (.seq
 (.region false [
 ⟨some 2, .assign (.const (.bool false)), none⟩])
 (.seq
 (.region false [
 ⟨some 3, .move (.tmp 0), none⟩,
 ⟨some 4, .call true (.const (.fn 305 [])) [(.tmp 3), (.const (.bool true))] [], none⟩,
 ⟨some 5, .un .not (.tmp 4), none⟩,
 ⟨some 2, .assign (.tmp 5), none⟩])
 .ret)) }
/-- purlin/purlinref04.isHead -/
def tf320 : TFn := { ntmps := 34, results := [.tmp 2], body :=
 (.seq
 (.region false [
 ⟨some 2, .assign (.const (.bool false)), none⟩])
 (.seq
 (.region false [
 ⟨some 3, .move (.tmp 0), none⟩,
 ⟨some 4, .len false (.tmp 3), none⟩,
 ⟨some 5, .bin 0 .gtr (.tmp 4) (.const (.int .i64 0)), none⟩,
 ⟨some 6, .move (.tmp 5), none⟩,
 ⟨some 7, .move (.tmp 0), (some (6, true))⟩,
 ⟨some 8, .idxAddr (.tmp 7) (.const (.int .i64 0)) 5, (some (6, true))⟩,
 ⟨some 9, .faddr (.tmp 8) 0, (some (6, true))⟩,
 ⟨some 10, .load false 1 (.tmp 9), (some (6, true))⟩,
 ⟨some 11, .bin 0 .eql (.tmp 10) (.const (.int .u8 2)), (some (6, true))⟩,
 ⟨some 12, .move (.tmp 11), (some (6, true))⟩,
 ⟨some 13, .move (.tmp 0), (some (12, true))⟩,
 ⟨some 14, .idxAddr (.tmp 13) (.const (.int .i64 0)) 5, (some (12, true))⟩,
 ⟨some 15, .faddr (.tmp 14) 1, (some (12, true))⟩,
 ⟨some 16, .load false 1 (.tmp 15), (some (12, true))⟩,
 ⟨some 17, .call true (.const (.fn 4 [])) [(.tmp 16)] [], (some (12, true))⟩,
 ⟨some 18, .pick (.tmp 12) (.tmp 17) (.const (.bool false)), (some (6, true))⟩,
 ⟨some 19, .move (.tmp 18), (some (6, true))⟩,
 ⟨some 20, .move (.tmp 0), (some (19, false))⟩,
 ⟨some 21, .idxAddr (.tmp 20) (.const (.int .i64 0)) 5, (some (19, false))⟩,
 ⟨some 22, .faddr (.tmp 21) 0, (some (19, false))⟩,
 ⟨some 23, .load false 1 (.tmp 22), (some (19, false))⟩,
 ⟨some 24, .bin 0 .eql (.tmp 23) (.const (.int .u8 3)), (some (19, false))⟩,
 ⟨some 25, .move (.tmp 24), (some (19, false))⟩,
 ⟨some 26, .move (.tmp 0), (some (25, true))⟩,
 ⟨some 27, .idxAddr (.tmp 26) (.const (.int .i64 0)) 5, (some (25, true))⟩,
 ⟨some 28, .faddr (.tmp 27) 1, (some (25, true))⟩,
 ⟨some 29, .load false 1 (.tmp 28), (some (25, true))⟩,
 ⟨some 30, .call true (.const (.fn 4 [])) [(.tmp 29)] [], (some (25, true))⟩,
 ⟨some 31, .pick (.tmp 25) (.tmp 30) (.const (.bool false)), (some (19, false))⟩,
 ⟨some 32, .pick (.tmp 19) (.const (.bool true)) (.tmp 31), (some (6, true))⟩,
 ⟨some 33, .pick (.tmp 6) (.tmp 32) (.const (.bool false)), none⟩,
 ⟨some 2, .assign (.tmp 33), none⟩])
 .ret)) }
/-- purlin/purlinref04.twice -/
def tf321 : TFn := { ntmps := 24, results := [.tmp 2], body :=
 (.seq
 (.region false [
 ⟨some 2, .assign (.const (.bool false)), none⟩])
 (.seq
 (.region false [
 ⟨some 3, .assign (.const (.int .i64 0)), none⟩])
 (.seq
 (.seq
 (.region false [
 ⟨some 4, .assign (.const (.int .i64 0)), none⟩])
 (.block 0
 (.loop [0, 3, 4]
 (.seq
 (.seq
 (.region false [
 ⟨some 5, .move (.tmp 4), none⟩,
 ⟨some 6, .move (.tmp 0), none⟩,
 ⟨some 7, .len false (.tmp 6), none⟩,
 ⟨some 8, .bin 0 .lss (.tmp 5) (.tmp 7), none⟩])
 (.cond (.tmp 8)
 .skip
 (.exit 0)))
 (.seq
 (.block 1
 (.seq
 (.region false [
 ⟨some 11, .move (.tmp 0), none⟩,
 ⟨some 12, .move (.tmp 4), none⟩,
 ⟨some 13, .idxAddr (.tmp 11) (.tmp 12) 5, none⟩,
 ⟨some 14, .faddr (.tmp 13) 0, none⟩,
 ⟨some 15, .load false 1 (.tmp 14), none⟩,
 ⟨some 16, .bin 0 .eql (.tmp 15) (.const (.int .u8 4)), none⟩])
 (.cond (.tmp 16)
 (.region false [
 ⟨some 17, .move (.tmp 3), none⟩,
 ⟨some 18, .bin 0 .add (.tmp 17) (.const (.int .i64 1)), none⟩,
 ⟨some 3, .assign (.tmp 18), none⟩])
 .skip)))
 (.region false [
 ⟨some 9, .move (.tmp 4), none⟩,
 ⟨some 10, .bin 0 .add (.tmp 9) (.const (.int .i64 1)), none⟩,
 ⟨some 4, .assign (.tmp 10), none⟩]))))))
 (.seq
 (.region false [
 ⟨some 19, .move (.tmp 3), none⟩,
 ⟨some 20, .move (.tmp 0), none⟩,
 ⟨some 21, .call true (.const (.fn 27 [])) [(.tmp 20)] [], none⟩,
 ⟨some 22, .len false (.tmp 21), none⟩,
 ⟨some 23, .bin 0 .neq (.tmp 19) (.tmp 22), none⟩,
 ⟨some 2, .assign (.tmp 23), none⟩])
 .ret)))) }
/-- purlin/purlinref04.bad -/
def tf322 : TFn := { ntmps := 33, results := [.tmp 4], body :=
 (.seq
 (.region false [
 ⟨some 4, .assign (.const (.bool false)), none⟩])
 (.seq
 (.seq
 (.region false [
 ⟨some 7, .move (.tmp 0), none⟩,
 ⟨some 8, .call true (.const (.fn 18 [])) [(.tmp 7)] [], none⟩,
 ⟨some 9, .un .not (.tmp 8), none⟩])
 (.cond (.tmp 9)
 (.seq
 (.region false [
 ⟨some 4, .assign (.const (.bool true)), none⟩])
 .ret)
 .skip))
 (.seq
 (.region false [
 ⟨some 10, .move (.tmp 0), none⟩,
 ⟨some 11, .call true (.const (.fn 27 [])) [(.tmp 10)] [], none⟩,
 ⟨some 5, .assign (.tmp 11), none⟩])
 (.seq
 (.seq
 (.region false [
 ⟨some 6, .assign (.const (.int .i64 0)), none⟩])
 (.block 0
 (.loop [1, 5, 6]
 (.seq
 (.seq
 (.region false [
 ⟨some 12, .move (.tmp 6), none⟩,
 ⟨some 13, .move (.tmp 5), none⟩,
 ⟨some 14, .len false (.tmp 13), none⟩,
 ⟨some 15, .bin 0 .lss (.tmp 12) (.tmp 14), none⟩])
 (.cond (.tmp 15)
 .skip
 (.exit 0)))
 (.seq
 (.block 1
 (.seq
 (.region false [
 ⟨some 18, .move (.tmp 5), none⟩,
 ⟨some 19, .move (.tmp 6), none⟩,
 ⟨some 20, .idxAddr (.tmp 18) (.tmp 19) 2, none⟩,
 ⟨some 21, .faddr (.tmp 20) 0, none⟩,
 ⟨some 22, .load false 1 (.tmp 21), none⟩,
 ⟨some 23, .bin 0 .neq (.tmp 22) (.const (.int .i64 (-1))), none⟩,
 ⟨some 24, .move (.tmp 23), none⟩,
 ⟨some 25, .move (.tmp 5), (some (24, false))⟩,
 ⟨some 26, .move (.tmp 6), (some (24, false))⟩,
 ⟨some 27, .idxAddr (.tmp 25) (.tmp 26) 2, (some (24, false))⟩,
 ⟨some 28, .faddr (.tmp 27) 1, (some (24, false))⟩,
 ⟨some 29, .load false 1 (.tmp 28), (some (24, false))⟩,
 ⟨some 30, .move (.tmp 1), (some (24, false))⟩,
 ⟨some 31, .bin 0 .geq (.tmp 29) (.tmp 30), (some (24, false))⟩,
 ⟨some 32, .pick (.tmp 24) (.const (.bool true)) (.tmp 31), none⟩])
 (.cond (.tmp 32)
 (.seq
 (.region false [
 ⟨some 4, .assign (.const (.bool true)), none⟩])
 .ret)
 .skip)))
 (.region false [
 ⟨some 16, .move (.tmp 6), none⟩,
 ⟨some 17, .bin 0 .add (.tmp 16) (.const (.int .i64 1)), none⟩,
 ⟨some 6, .assign (.tmp 17), none⟩]))))))
 (.seq
 (.region false [
 ⟨some 4, .assign (.const (.bool false)), none⟩])
 .ret))))) }
/-- purlin/purlinref04.within -/
def tf323 : TFn := { ntmps := 22, results := [.tmp 4], body :=
 (.seq
 (.region false [
 ⟨some 4, .assign (.const (.bool false)), none⟩])
 (.seq
 (.region false [
 ⟨some 7, .move (.tmp 0), none⟩,
 ⟨some 8, .call true (.const (.fn 27 [])) [(.tmp 7)] [], none⟩,
 ⟨some 5, .assign (.tmp 8), none⟩])
 (.seq
 (.seq
 (.region false [
 ⟨some 6, .assign (.const (.int .i64 0)), none⟩])
 (.block 0
 (.loop [1, 5, 6]
 (.seq
 (.seq
 (.region false [
 ⟨some 9, .move (.tmp 6), none⟩,
 ⟨some 10, .move (.tmp 5), none⟩,
 ⟨some 11, .len false (.tmp 10), none⟩,
 ⟨some 12, .bin 0 .lss (.tmp 9) (.tmp 11), none⟩])
 (.cond (.tmp 12)
 .skip
 (.exit 0)))
 (.seq
 (.block 1
 (.seq
 (.region false [
 ⟨some 15, .move (.tmp 1), none⟩,
 ⟨some 16, .move (.tmp 5), none⟩,
 ⟨some 17, .move (.tmp 6), none⟩,
 ⟨some 18, .idxAddr (.tmp 16) (.tmp 17) 2, none⟩,
 ⟨some 19, .load true 2 (.tmp 18), none⟩,
 ⟨some 20, .call true (.const (.fn 28 [])) [(.tmp 15), (.tmp 19)] [], none⟩,
 ⟨some 21, .un .not (.tmp 20), none⟩])
 (.cond (.tmp 21)
 (.seq
 (.region false [
 ⟨some 4, .assign (.const (.bool false)), none⟩])
 .ret)
 .skip)))
 (.region false [
 ⟨some 13, .move (.tmp 6), none⟩,
 ⟨some 14, .bin 0 .add (.tmp 13) (.const (.int .i64 1)), none⟩,
 ⟨some 6, .assign (.tmp 14), none⟩]))))))
 (.seq
 (.region false [
 ⟨some 4, .assign (.const (.bool true)), none⟩])
 .ret)))) }
/-- purlin/purlinref04.callsOf -/
def tf324 : TFn := { ntmps := 28, results := [.tmp 2], body :=
 (.seq
 (.region false [
 ⟨some 1, .box 4 (.tmp 0), none⟩,
 ⟨some 2, .assign (.const (.sl true 0 2 [] [])), none⟩])
 (.seq
 (.region false [
 ⟨some 3, .assign (.const (.sl true 0 2 [] [])), none⟩])
 (.seq
 (.seq
 (.region false [
 ⟨some 4, .assign (.const (.int .i64 0)), none⟩])
 (.block 0
 (.loop [1, 3, 4]
 (.seq
 (.seq
 (.region false [
 ⟨some 7, .move (.tmp 4), none⟩,
 ⟨some 8, .faddr (.tmp 1) 2, none⟩,
 ⟨some 9, .load false 1 (.tmp 8), none⟩,
 ⟨some 10, .len false (.tmp 9), none⟩,
 ⟨some 11, .bin 0 .lss (.tmp 7) (.tmp 10), none⟩])
 (.cond (.tmp 11)
 .skip
 (.exit 0)))
 (.seq
 (.block 1
 (.seq
 (.region false [
 ⟨some 15, .faddr (.tmp 1) 2, none⟩,
 ⟨some 16, .load false 1 (.tmp 15), none⟩,
 ⟨some 17, .move (.tmp 4), none⟩,
 ⟨some 18, .idxAddr (.tmp 16) (.tmp 17) 1, none⟩,
 ⟨some 19, .load false 1 (.tmp 18), none⟩,
 ⟨some 20, .call true (.const (.fn 332 [])) [(.tmp 19)] [], none⟩,
 ⟨some 14, .move (.tmp 20), none⟩,
 ⟨some 21, .extract (.tmp 14) 0, none⟩,
 ⟨some 22, .extract (.tmp 14) 1, none⟩,
 ⟨some 5, .box 2 (.const (.agg [.str ⟨#[]⟩, .int .i64 0])), none⟩,
 ⟨none, .store 2 (.tmp 5) (.tmp 21), none⟩,
 ⟨some 6, .assign (.tmp 22), none⟩])
 (.seq
 (.region false [
 ⟨some 23, .move (.tmp 6), none⟩])
 (.cond (.tmp 23)
 (.region false [
 ⟨some 24, .move (.tmp 3), none⟩,
 ⟨some 25, .load true 2 (.tmp 5), none⟩,
 ⟨some 26, .call true (.const (.fn 333 [])) [(.tmp 24), (.tmp 25)] [0], none⟩,
 ⟨some 3, .assign (.tmp 26), none⟩])
 .skip))))
 (.region false [
 ⟨some 12, .move (.tmp 4), none⟩,
 ⟨some 13, .bin 0 .add (.tmp 12) (.const (.int .i64 1)), none⟩,
 ⟨some 4, .assign (.tmp 13), none⟩]))))))
 (.seq
 (.region false [
 ⟨some 27, .move (.tmp 3), none⟩,
 ⟨some 2, .assign (.tmp 27), none⟩])
 .ret)))) }
/-- purlin/purlinref04.Clauses -/
def tf325 : TFn := { ntmps := 36, results := [.tmp 6], body :=
 (.seq
 (.region false [
 ⟨some 6, .assign (.const (.sl true 0 1 [] [])), none⟩])
 (.seq
 (.region false [
 ⟨some 7, .assign (.const (.sl true 0 1 [] [])), none⟩])
 (.seq
 (.seq
 (.region false [
 ⟨some 8, .assign (.const (.int .i64 0)), none⟩])
 (.block 0
 (.loop [0, 1, 2, 7, 8]
 (.seq
 (.seq
 (.region false [
 ⟨some 9, .move (.tmp 8), none⟩,
 ⟨some 10, .move (.tmp 0), none⟩,
 ⟨some 11, .len false (.tmp 10), none⟩,
 ⟨some 12, .bin 0 .lss (.tmp 9) (.tmp 11), none⟩])
 (.cond (.tmp 12)
 .skip
 (.exit 0)))
 (.seq
 (.block 1
 (.seq
 (.region false [
 ⟨some 15, .move (.tmp 0), none⟩,
 ⟨some 16, .move (.tmp 8), none⟩,
 ⟨some 17, .idxAddr (.tmp 15) (.tmp 16) 4, none⟩,
 ⟨some 18, .faddr (.tmp 17) 0, none⟩,
 ⟨some 19, .load false 1 (.tmp 18), none⟩,
 ⟨some 20, .call true (.const (.fn 320 [])) [(.tmp 19)] [], none⟩,
 ⟨some 21, .move (.tmp 20), none⟩,
 ⟨some 22, .move (.tmp 0), (some (21, true))⟩,
 ⟨some 23, .move (.tmp 8), (some (21, true))⟩,
 ⟨some 24, .idxAddr (.tmp 22) (.tmp 23) 4, (some (21, true))⟩,
 ⟨some 25, .faddr (.tmp 24) 0, (some (21, true))⟩,
 ⟨some 26, .load false 1 (.tmp 25), (some (21, true))⟩,
 ⟨some 27, .move (.tmp 1), (some (21, true))⟩,
 ⟨some 28, .move (.tmp 2), (some (21, true))⟩,
 ⟨some 29, .call true (.const (.fn 256 [])) [(.tmp 26), (.tmp 27), (.tmp 28)] [], (some (21, true))⟩,
 ⟨some 30, .pick (.tmp 21) (.tmp 29) (.const (.bool false)), none⟩])
 (.cond (.tmp 30)
 (.region false [
 ⟨some 31, .move (.tmp 7), none⟩,
 ⟨some 32, .move (.tmp 8), none⟩,
 ⟨some 33, .buildSlice 1 1 [.int .i64 0] [(0, (.tmp 32))], none⟩,
 ⟨some 34, .append 1 8 (.tmp 31) (.tmp 33), none⟩,
 ⟨some 7, .assign (.tmp 34), none⟩])
 .skip)))
 (.region false [
 ⟨some 13, .move (.tmp 8), none⟩,
 ⟨some 14, .bin 0 .add (.tmp 13) (.const (.int .i64 1)), none⟩,
 ⟨some 8, .assign (.tmp 14), none⟩]))))))
 (.seq
 (.region false [
 ⟨some 35, .move (.tmp 7), none⟩,
 ⟨some 6, .assign (.tmp 35), none⟩])
 .ret)))) }
/-- purlin/check.isSum$1 -/
def tf326 : TFn := { ntmps := 6, results := [.tmp 2], body :=
 (.seq
 (.region false [
 ⟨some 2, .assign (.const (.bool false)), none⟩])
 (.seq
 (.region false [
 ⟨some 3, .move (.tmp 0), none⟩,
 ⟨some 4, .call true (.const (.fn 301 [])) [(.tmp 3)] [], none⟩,
 ⟨some 5, .un .not (.tmp 4), none⟩,
 ⟨some 2, .assign (.tmp 5), none⟩])
 .ret)) }
/-- purlin/check.isFlat -/
def tf327 : TFn := { ntmps := 8, results := [.tmp 2], body :=
 (.seq
 (.region false [
 ⟨some 2, .assign (.const (.bool false)), none⟩])
 (.seq
 (.region false [
 ⟨some 3, .move (.tmp 0), none⟩,
 ⟨some 4, .idxAddr (.tmp 3) (.const (.int .i64 0)) 5, none⟩,
 ⟨some 5, .faddr (.tmp 4) 0, none⟩,
 ⟨some 6, .load false 1 (.tmp 5), none⟩,
 ⟨some 7, .bin 0 .neq (.tmp 6) (.const (.int .u8 3)), none⟩,
 ⟨some 2, .assign (.tmp 7), none⟩])
 .ret)) }
/-- purlin/check.isGuard$1 -/
def tf328 : TFn := { ntmps := 8, results := [.tmp 3], body :=
 (.seq
 (.region false [
 ⟨some 3, .assign (.const (.bool false)), none⟩])
 (.seq
 (.region false [
 ⟨some 4, .load false 1 (.tmp 1), none⟩,
 ⟨some 5, .move (.tmp 0), none⟩,
 ⟨some 6, .call true (.tmp 4) [(.tmp 5)] [], none⟩,
 ⟨some 7, .un .not (.tmp 6), none⟩,
 ⟨some 3, .assign (.tmp 7), none⟩])
 .ret)) }
/-- purlin/purlinref04.call -/
def tf329 : TFn := { ntmps := 29, results := [.tmp 2], body :=
 (.seq
 (.region false [
 ⟨some 2, .assign (.const (.bool false)), none⟩])
 (.seq
 (.region false [
 ⟨some 3, .move (.tmp 0), none⟩,
 ⟨some 4, .idxAddr (.tmp 3) (.const (.int .i64 0)) 5, none⟩,
 ⟨some 5, .faddr (.tmp 4) 0, none⟩,
 ⟨some 6, .load false 1 (.tmp 5), none⟩,
 ⟨some 7, .bin 0 .eql (.tmp 6) (.const (.int .u8 2)), none⟩,
 ⟨some 8, .move (.tmp 7), none⟩,
 ⟨some 9, .move (.tmp 0), (some (8, true))⟩,
 ⟨some 10, .idxAddr (.tmp 9) (.const (.int .i64 0)) 5, (some (8, true))⟩,
 ⟨some 11, .faddr (.tmp 10) 1, (some (8, true))⟩,
 ⟨some 12, .load false 1 (.tmp 11), (some (8, true))⟩,
 ⟨some 13, .bin 0 .neq (.tmp 12) (.const (.str ⟨#[116, 114, 117, 101]⟩)), (some (8, true))⟩,
 ⟨some 14, .pick (.tmp 8) (.tmp 13) (.const (.bool false)), none⟩,
 ⟨some 15, .move (.tmp 14), none⟩,
 ⟨some 16, .move (.tmp 0), (some (15, false))⟩,
 ⟨some 17, .idxAddr (.tmp 16) (.const (.int .i64 0)) 5, (some (15, false))⟩,
 ⟨some 18, .faddr (.tmp 17) 0, (some (15, false))⟩,
 ⟨some 19, .load false 1 (.tmp 18), (some (15, false))⟩,
 ⟨some 20, .bin 0 .eql (.tmp 19) (.const (.int .u8 3)), (some (15, false))⟩,
 ⟨some 21, .move (.tmp 20), (some (15, false))⟩,
 ⟨some 22, .move (.tmp 0), (some (21, true))⟩,
 ⟨some 23, .idxAddr (.tmp 22) (.const (.int .i64 0)) 5, (some (21, true))⟩,
 ⟨some 24, .faddr (.tmp 23) 1, (some (21, true))⟩,
 ⟨some 25, .load false 1 (.tmp 24), (some (21, true))⟩,
 ⟨some 26, .call true (.const (.fn 4 [])) [(.tmp 25)] [], (some (21, true))⟩,
 ⟨some 27, .pick (.tmp 21) (.tmp 26) (.const (.bool false)), (some (15, false))⟩,
 ⟨some 28, .pick (.tmp 15) (.const (.bool true)) (.tmp 27), none⟩,
 ⟨some 2, .assign (.tmp 28), none⟩])
 .ret)) }
/-- slices.Concat[[]purlin/api.Term,purlin/api.Term] -/
def tf330 : TFn := { ntmps := 36, results := [.tmp 2], body :=
 (.seq
 (.region false [
 ⟨some 2, .assign (.const (.sl true 0 1 [] [])), none⟩])
 (.seq
 (.region false [
 ⟨some 3, .assign (.const (.int .i64 0)), none⟩])
 (.seq
 (.seq
 (.region false [
 ⟨some 9, .move (.tmp 0), none⟩,
 ⟨some 10, .len false (.tmp 9), none⟩,
 ⟨some 11, .move (.const (.int .i64 0)), none⟩])
 (.block 0
 (.loop [0, 3, 9, 10, 11]
 (.seq
 (.region false [
 ⟨some 12, .bin 0 .lss (.tmp 11) (.tmp 10), none⟩])
 (.seq
 (.cond (.tmp 12)
 .skip
 (.exit 0))
 (.seq
 (.block 1
 (.seq
 (.region false [
 ⟨some 13, .idxAddr (.tmp 9) (.tmp 11) 1, none⟩,
 ⟨some 14, .load false 1 (.tmp 13), none⟩,
 ⟨some 5, .assign (.tmp 14), none⟩])
 (.seq
 (.region false [
 ⟨some 15, .move (.tmp 3), none⟩,
 ⟨some 16, .move (.tmp 5), none⟩,
 ⟨some 17, .len false (.tmp 16), none⟩,
 ⟨some 18, .bin 0 .add (.tmp 15) (.tmp 17), none⟩,
 ⟨some 3, .assign (.tmp 18), none⟩])
 (.seq
 (.region false [
 ⟨some 19, .move (.tmp 3), none⟩,
 ⟨some 20, .bin 0 .lss (.tmp 19) (.const (.int .i64 0)), none⟩])
 (.cond (.tmp 20)
 (.region false [
 ⟨some 21, .fail, none⟩,
 ⟨none, .fail, none⟩])
 .skip)))))
 (.region false [
 ⟨some 22, .bin 0 .add (.tmp 11) (.const (.int .i64 1)), none⟩,
 ⟨some 11, .move (.tmp 22), none⟩])))))))
 (.seq
 (.region false [
 ⟨some 23, .move (.tmp 3), none⟩,
 ⟨some 24, .call true (.const (.fn 574 [])) [(.const (.sl true 0 1 [] [])), (.tmp 23)] [], none⟩,
 ⟨some 6, .assign (.tmp 24), none⟩])
 (.seq
 (.seq
 (.region false [
 ⟨some 25, .move (.tmp 0), none⟩,
 ⟨some 26, .len false (.tmp 25), none⟩,
 ⟨some 27, .move (.const (.int .i64 0)), none⟩])
 (.block 2
 (.loop [6, 25, 26, 27]
 (.seq
 (.region false [
 ⟨some 28, .bin 0 .lss (.tmp 27) (.tmp 26), none⟩])
 (.seq
 (.cond (.tmp 28)
 .skip
 (.exit 2))
 (.seq
 (.block 3
 (.seq
 (.region false [
 ⟨some 29, .idxAddr (.tmp 25) (.tmp 27) 1, none⟩,
 ⟨some 30, .load false 1 (.tmp 29), none⟩,
 ⟨some 8, .assign (.tmp 30), none⟩])
 (.region false [
 ⟨some 31, .move (.tmp 6), none⟩,
 ⟨some 32, .move (.tmp 8), none⟩,
 ⟨some 33, .append 1 24 (.tmp 31) (.tmp 32), none⟩,
 ⟨some 6, .assign (.tmp 33), none⟩])))
 (.region false [
 ⟨some 34, .bin 0 .add (.tmp 27) (.const (.int .i64 1)), none⟩,
 ⟨some 27, .move (.tmp 34), none⟩])))))))
 (.seq
 (.region false [
 ⟨some 35, .move (.tmp 6), none⟩,
 ⟨some 2, .assign (.tmp 35), none⟩])
 .ret)))))) }
/-- purlin/check.guard$1$1 -/
def tf331 : TFn := { ntmps := 8, results := [.tmp 3], body :=
 (.seq
 (.region false [
 ⟨some 2, .box 2 (.tmp 0), none⟩,
 ⟨some 3, .assign (.const (.bool false)), none⟩])
 (.seq
 (.region false [
 ⟨some 4, .load false 1 (.tmp 1), none⟩,
 ⟨some 5, .load true 2 (.tmp 2), none⟩,
 ⟨some 6, .call true (.const (.fn 42 [])) [(.tmp 4), (.tmp 5)] [], none⟩,
 ⟨some 7, .un .not (.tmp 6), none⟩,
 ⟨some 3, .assign (.tmp 7), none⟩])
 .ret)) }
/-- purlin/purlinref04.called -/
def tf332 : TFn := { ntmps := 20, results := [.cell 2 true 2, .tmp 3], body :=
 (.seq
 (.region false [
 ⟨some 2, .box 2 (.const (.agg [.str ⟨#[]⟩, .int .i64 0])), none⟩,
 ⟨some 3, .assign (.const (.bool false)), none⟩])
 (.seq
 (.seq
 (.region false [
 ⟨some 4, .move (.tmp 0), none⟩,
 ⟨some 5, .call true (.const (.fn 18 [])) [(.tmp 4)] [], none⟩,
 ⟨some 6, .un .not (.tmp 5), none⟩])
 (.cond (.tmp 6)
 (.seq
 (.region false [
 ⟨some 7, .build [.str ⟨#[]⟩, .int .i64 0] [], none⟩,
 ⟨none, .store 2 (.tmp 2) (.tmp 7), none⟩,
 ⟨some 3, .assign (.const (.bool false)), none⟩])
 .ret)
 .skip))
 (.seq
 (.seq
 (.region false [
 ⟨some 8, .move (.tmp 0), none⟩,
 ⟨some 9, .call true (.const (.fn 256 [])) [(.tmp 8), (.const (.str ⟨#[64]⟩)), (.const (.int .i64 2))] [], none⟩])
 (.cond (.tmp 9)
 (.region false [
 ⟨some 10, .move (.tmp 0), none⟩,
 ⟨some 11, .call true (.const (.fn 29 [])) [(.tmp 10)] [], none⟩,
 ⟨some 12, .idxAddr (.tmp 11) (.const (.int .i64 0)) 1, none⟩,
 ⟨some 13, .load false 1 (.tmp 12), none⟩,
 ⟨some 0, .assign (.tmp 13), none⟩])
 .skip))
 (.seq
 (.seq
 (.region false [
 ⟨some 14, .move (.tmp 0), none⟩,
 ⟨some 15, .call true (.const (.fn 329 [])) [(.tmp 14)] [], none⟩,
 ⟨some 16, .un .not (.tmp 15), none⟩])
 (.cond (.tmp 16)
 (.seq
 (.region false [
 ⟨some 17, .build [.str ⟨#[]⟩, .int .i64 0] [], none⟩,
 ⟨none, .store 2 (.tmp 2) (.tmp 17), none⟩,
 ⟨some 3, .assign (.const (.bool false)), none⟩])
 .ret)
 .skip))
 (.seq
 (.region false [
 ⟨some 18, .move (.tmp 0), none⟩,
 ⟨some 19, .call true (.const (.fn 334 [])) [(.tmp 18)] [], none⟩,
 ⟨none, .store 2 (.tmp 2) (.tmp 19), none⟩,
 ⟨some 3, .assign (.const (.bool true)), none⟩])
 .ret))))) }
/-- purlin/purlinref04.with -/
def tf333 : TFn := { ntmps := 23, results := [.tmp 4], body :=
 (.seq
 (.region false [
 ⟨some 3, .box 2 (.tmp 1), none⟩,
 ⟨some 4, .assign (.const (.sl true 0 2 [] [])), none⟩])
 (.seq
 (.seq
 (.region false [
 ⟨some 5, .assign (.const (.int .i64 0)), none⟩])
 (.block 0
 (.loop [0, 3, 5]
 (.seq
 (.seq
 (.region false [
 ⟨some 6, .move (.tmp 5), none⟩,
 ⟨some 7, .move (.tmp 0), none⟩,
 ⟨some 8, .len false (.tmp 7), none⟩,
 ⟨some 9, .bin 0 .lss (.tmp 6) (.tmp 8), none⟩])
 (.cond (.tmp 9)
 .skip
 (.exit 0)))
 (.seq
 (.block 1
 (.seq
 (.region true [
 ⟨some 12, .move (.tmp 0), none⟩,
 ⟨some 13, .move (.tmp 5), none⟩,
 ⟨some 14, .idxAddr (.tmp 12) (.tmp 13) 2, none⟩,
 ⟨some 15, .load true 2 (.tmp 14), none⟩,
 ⟨some 16, .load true 2 (.tmp 3), none⟩,
 ⟨some 17, .eqAgg false 6101 (.tmp 15) (.tmp 16), none⟩])
 (.cond (.tmp 17)
 (.seq
 (.region false [
 ⟨some 18, .move (.tmp 0), none⟩,
 ⟨some 4, .assign (.tmp 18), none⟩])
 .ret)
 .skip)))
 (.region false [
 ⟨some 10, .move (.tmp 5), none⟩,
 ⟨some 11, .bin 0 .add (.tmp 10) (.const (.int .i64 1)), none⟩,
 ⟨some 5, .assign (.tmp 11), none⟩]))))))
 (.seq
 (.region false [
 ⟨some 19, .move (.tmp 0), none⟩,
 ⟨some 20, .load true 2 (.tmp 3), none⟩,
 ⟨some 21, .buildSlice 1 2 [.str ⟨#[]⟩, .int .i64 0] [(0, (.tmp 20))], none⟩,
 ⟨some 22, .append 2 24 (.tmp 19) (.tmp 21), none⟩,
 ⟨some 4, .assign (.tmp 22), none⟩])
 .ret))) }
/-- purlin/purlinref04.of -/
def tf334 : TFn := { ntmps := 22, results := [.cell 2 true 2], body :=
 (.seq
 (.region false [
 ⟨some 2, .box 2 (.const (.agg [.str ⟨#[]⟩, .int .i64 0])), none⟩])
 (.seq
 (.seq
 (.region false [
 ⟨some 3, .move (.tmp 0), none⟩,
 ⟨some 4, .idxAddr (.tmp 3) (.const (.int .i64 0)) 5, none⟩,
 ⟨some 5, .faddr (.tmp 4) 0, none⟩,
 ⟨some 6, .load false 1 (.tmp 5), none⟩,
 ⟨some 7, .bin 0 .eql (.tmp 6) (.const (.int .u8 3)), none⟩])
 (.cond (.tmp 7)
 (.seq
 (.region true [
 ⟨some 8, .move (.tmp 0), none⟩,
 ⟨some 9, .idxAddr (.tmp 8) (.const (.int .i64 0)) 5, none⟩,
 ⟨some 10, .faddr (.tmp 9) 1, none⟩,
 ⟨some 11, .load false 1 (.tmp 10), none⟩,
 ⟨some 12, .move (.tmp 0), none⟩,
 ⟨some 13, .idxAddr (.tmp 12) (.const (.int .i64 0)) 5, none⟩,
 ⟨some 14, .faddr (.tmp 13) 2, none⟩,
 ⟨some 15, .load false 1 (.tmp 14), none⟩,
 ⟨some 16, .build [.str ⟨#[]⟩, .int .i64 0] [(0, 1, (.tmp 11)), (1, 1, (.tmp 15))], none⟩,
 ⟨none, .store 2 (.tmp 2) (.tmp 16), none⟩])
 .ret)
 .skip))
 (.seq
 (.region false [
 ⟨some 17, .move (.tmp 0), none⟩,
 ⟨some 18, .idxAddr (.tmp 17) (.const (.int .i64 0)) 5, none⟩,
 ⟨some 19, .faddr (.tmp 18) 1, none⟩,
 ⟨some 20, .load false 1 (.tmp 19), none⟩,
 ⟨some 21, .build [.str ⟨#[]⟩, .int .i64 0] [(0, 1, (.tmp 20)), (1, 1, (.const (.int .i64 0)))], none⟩,
 ⟨none, .store 2 (.tmp 2) (.tmp 21), none⟩])
 .ret))) }
/-- purlin/purlinlaw04.CheckOrder -/
def tf571 : TFn := { ntmps := 89, results := [.tmp 4], body :=
 (.seq
 (.region false [
 ⟨some 4, .assign (.const (.bool false)), none⟩])
 (.seq
 (.seq
 (.region false [
 ⟨some 11, .call true (.const (.fn 275 [])) [] [], none⟩,
 ⟨some 12, .un .not (.tmp 11), none⟩,
 ⟨some 13, .move (.tmp 12), none⟩,
 ⟨some 14, .move (.tmp 0), (some (13, false))⟩,
 ⟨some 15, .len false (.tmp 14), (some (13, false))⟩,
 ⟨some 16, .bin 0 .eql (.tmp 15) (.const (.int .i64 0)), (some (13, false))⟩,
 ⟨some 17, .pick (.tmp 13) (.const (.bool true)) (.tmp 16), none⟩])
 (.cond (.tmp 17)
 (.seq
 (.region false [
 ⟨some 18, .call true (.const (.fn 275 [])) [] [], none⟩,
 ⟨some 4, .assign (.tmp 18), none⟩])
 .ret)
 .skip))
 (.seq
 (.region false [
 ⟨some 19, .move (.tmp 1), none⟩,
 ⟨some 20, .conv .u64 (.tmp 19), none⟩,
 ⟨some 21, .move (.tmp 0), none⟩,
 ⟨some 22, .len false (.tmp 21), none⟩,
 ⟨some 23, .conv .u64 (.tmp 22), none⟩,
 ⟨some 24, .bin 0 .rem (.tmp 20) (.tmp 23), none⟩,
 ⟨some 25, .conv .i64 (.tmp 24), none⟩,
 ⟨some 5, .assign (.tmp 25), none⟩])
 (.seq
 (.region false [
 ⟨some 6, .assign (.const (.sl true 0 4 [] [])), none⟩])
 (.seq
 (.region false [
 ⟨some 26, .move (.tmp 6), none⟩,
 ⟨some 27, .move (.tmp 0), none⟩,
 ⟨some 28, .move (.tmp 5), none⟩,
 ⟨some 29, .slice 4 (.tmp 27) (some (.tmp 28)) none, none⟩,
 ⟨some 30, .append 4 80 (.tmp 26) (.tmp 29), none⟩,
 ⟨some 6, .assign (.tmp 30), none⟩])
 (.seq
 (.region false [
 ⟨some 31, .move (.tmp 6), none⟩,
 ⟨some 32, .move (.tmp 0), none⟩,
 ⟨some 33, .move (.tmp 5), none⟩,
 ⟨some 34, .slice 4 (.tmp 32) none (some (.tmp 33)), none⟩,
 ⟨some 35, .append 4 80 (.tmp 31) (.tmp 34), none⟩,
 ⟨some 6, .assign (.tmp 35), none⟩])
 (.seq
 (.seq
 (.region false [
 ⟨some 36, .move (.tmp 6), none⟩,
 ⟨some 37, .call true (.const (.fn 276 [])) [(.tmp 36)] [], none⟩,
 ⟨some 38, .move (.tmp 0), none⟩,
 ⟨some 39, .call true (.const (.fn 276 [])) [(.tmp 38)] [], none⟩,
 ⟨some 40, .bin 0 .neq (.tmp 37) (.tmp 39), none⟩])
 (.cond (.tmp 40)
 (.seq
 (.region false [
 ⟨some 4, .assign (.const (.bool false)), none⟩])
 .ret)
 .skip))
 (.seq
 (.seq
 (.region false [
 ⟨some 41, .move (.tmp 0), none⟩,
 ⟨some 42, .call true (.const (.fn 276 [])) [(.tmp 41)] [], none⟩,
 ⟨some 43, .bin 0 .neq (.tmp 42) (.const (.int .i64 0)), none⟩])
 (.cond (.tmp 43)
 (.seq
 (.region false [
 ⟨some 4, .assign (.const (.bool true)), none⟩])
 .ret)
 .skip))
 (.seq
 (.region false [
 ⟨some 44, .move (.tmp 0), none⟩,
 ⟨some 45, .move (.tmp 5), none⟩,
 ⟨some 46, .call true (.const (.fn 279 [])) [(.tmp 44), (.tmp 45)] [], none⟩,
 ⟨some 7, .assign (.tmp 46), none⟩])
 (.seq
 (.seq
 (.region false [
 ⟨some 47, .move (.tmp 7), none⟩,
 ⟨some 48, .len false (.tmp 47), none⟩,
 ⟨some 49, .bin 0 .eql (.tmp 48) (.const (.int .i64 0)), none⟩])
 (.cond (.tmp 49)
 (.seq
 (.region false [
 ⟨some 4, .assign (.const (.bool true)), none⟩])
 .ret)
 .skip))
 (.seq
 (.region false [
 ⟨some 8, .assign (.const (.sl true 0 4 [] [])), none⟩])
 (.seq
 (.region false [
 ⟨some 9, .assign (.const (.bool false)), none⟩])
 (.seq
 (.seq
 (.region false [
 ⟨some 10, .assign (.const (.int .i64 0)), none⟩])
 (.block 0
 (.loop [0, 5, 7, 8, 9, 10]
 (.seq
 (.seq
 (.region false [
 ⟨some 50, .move (.tmp 10), none⟩,
 ⟨some 51, .move (.tmp 0), none⟩,
 ⟨some 52, .len false (.tmp 51), none⟩,
 ⟨some 53, .bin 0 .lss (.tmp 50) (.tmp 52), none⟩])
 (.cond (.tmp 53)
 .skip
 (.exit 0)))
 (.seq
 (.block 1
 (.seq
 (.seq
 (.region true [
 ⟨some 56, .move (.tmp 0), none⟩,
 ⟨some 57, .move (.tmp 10), none⟩,
 ⟨some 58, .idxAddr (.tmp 56) (.tmp 57) 4, none⟩,
 ⟨some 59, .faddr (.tmp 58) 0, none⟩,
 ⟨some 60, .load false 1 (.tmp 59), none⟩,
 ⟨some 61, .move (.tmp 7), none⟩,
 ⟨some 62, .idxAddr (.tmp 61) (.const (.int .i64 0)) 2, none⟩,
 ⟨some 63, .faddr (.tmp 62) 0, none⟩,
 ⟨some 64, .load false 1 (.tmp 63), none⟩,
 ⟨some 65, .move (.tmp 7), none⟩,
 ⟨some 66, .idxAddr (.tmp 65) (.const (.int .i64 0)) 2, none⟩,
 ⟨some 67, .faddr (.tmp 66) 1, none⟩,
 ⟨some 68, .load false 1 (.tmp 67), none⟩,
 ⟨some 69, .call true (.const (.fn 256 [])) [(.tmp 60), (.tmp 64), (.tmp 68)] [], none⟩])
 (.cond (.tmp 69)
 (.seq
 (.region false [
 ⟨some 70, .move (.tmp 9), none⟩,
 ⟨some 71, .move (.tmp 70), none⟩,
 ⟨some 72, .move (.tmp 10), (some (71, false))⟩,
 ⟨some 73, .move (.tmp 5), (some (71, false))⟩,
 ⟨some 74, .bin 0 .eql (.tmp 72) (.tmp 73), (some (71, false))⟩,
 ⟨some 75, .pick (.tmp 71) (.const (.bool true)) (.tmp 74), none⟩,
 ⟨some 9, .assign (.tmp 75), none⟩])
 (.exit 1))
 .skip))
 (.region false [
 ⟨some 76, .move (.tmp 8), none⟩,
 ⟨some 77, .move (.tmp 0), none⟩,
 ⟨some 78, .move (.tmp 10), none⟩,
 ⟨some 79, .idxAddr (.tmp 77) (.tmp 78) 4, none⟩,
 ⟨some 80, .load true 4 (.tmp 79), none⟩,
 ⟨some 81, .buildSlice 1 4 [.sl true 0 5 [] [], .sl true 0 1 [] [], .sl true 0 1 [] [], .int .i64 0] [(0, (.tmp 80))], none⟩,
 ⟨some 82, .append 4 80 (.tmp 76) (.tmp 81), none⟩,
 ⟨some 8, .assign (.tmp 82), none⟩])))
 (.region false [
 ⟨some 54, .move (.tmp 10), none⟩,
 ⟨some 55, .bin 0 .add (.tmp 54) (.const (.int .i64 1)), none⟩,
 ⟨some 10, .assign (.tmp 55), none⟩]))))))
 (.seq
 (.region false [
 ⟨some 83, .move (.tmp 9), none⟩,
 ⟨some 84, .move (.tmp 83), none⟩,
 ⟨some 85, .move (.tmp 8), (some (84, false))⟩,
 ⟨some 86, .call true (.const (.fn 276 [])) [(.tmp 85)] [], (some (84, false))⟩,
 ⟨some 87, .bin 0 .eql (.tmp 86) (.const (.int .i64 43)), (some (84, false))⟩,
 ⟨some 88, .pick (.tmp 84) (.const (.bool true)) (.tmp 87), none⟩,
 ⟨some 4, .assign (.tmp 88), none⟩])
 .ret)))))))))))))) }
/-- purlin/purlinlaw04.CheckCalls -/
def tf572 : TFn := { ntmps := 119, results := [.tmp 2], body :=
 (.seq
 (.region false [
 ⟨some 2, .assign (.const (.bool false)), none⟩])
 (.seq
 (.seq
 (.region false [
 ⟨some 11, .call true (.const (.fn 275 [])) [] [], none⟩,
 ⟨some 12, .un .not (.tmp 11), none⟩])
 (.cond (.tmp 12)
 (.seq
 (.region false [
 ⟨some 2, .assign (.const (.bool false)), none⟩])
 .ret)
 .skip))
 (.seq
 (.seq
 (.region false [
 ⟨some 13, .move (.tmp 0), none⟩,
 ⟨some 14, .call true (.const (.fn 276 [])) [(.tmp 13)] [], none⟩,
 ⟨some 15, .bin 0 .neq (.tmp 14) (.const (.int .i64 0)), none⟩])
 (.cond (.tmp 15)
 (.seq
 (.region false [
 ⟨some 16, .move (.tmp 0), none⟩,
 ⟨some 17, .call true (.const (.fn 277 [])) [(.tmp 16)] [], none⟩,
 ⟨some 18, .bin 0 .neq (.tmp 17) (.const (.int .i64 0)), none⟩,
 ⟨some 2, .assign (.tmp 18), none⟩])
 .ret)
 .skip))
 (.seq
 (.region false [
 ⟨some 19, .move (.tmp 0), none⟩,
 ⟨some 20, .buildSlice 1 1 [.sl true 0 4 [] []] [(0, (.tmp 19))], none⟩,
 ⟨some 21, .call true (.const (.fn 286 [])) [(.tmp 20)] [], none⟩,
 ⟨some 3, .assign (.tmp 21), none⟩])
 (.seq
 (.region false [
 ⟨some 4, .assign (.const (.int .i64 0)), none⟩])
 (.seq
 (.seq
 (.region false [
 ⟨some 5, .assign (.const (.int .i64 0)), none⟩])
 (.block 0
 (.loop [0, 3, 4, 5]
 (.seq
 (.seq
 (.region false [
 ⟨some 22, .move (.tmp 5), none⟩,
 ⟨some 23, .move (.tmp 3), none⟩,
 ⟨some 24, .len false (.tmp 23), none⟩,
 ⟨some 25, .bin 0 .lss (.tmp 22) (.tmp 24), none⟩])
 (.cond (.tmp 25)
 .skip
 (.exit 0)))
 (.seq
 (.block 1
 (.seq
 (.region true [
 ⟨some 28, .move (.tmp 0), none⟩,
 ⟨some 29, .move (.tmp 3), none⟩,
 ⟨some 30, .move (.tmp 5), none⟩,
 ⟨some 31, .idxAddr (.tmp 29) (.tmp 30) 2, none⟩,
 ⟨some 32, .faddr (.tmp 31) 0, none⟩,
 ⟨some 33, .load false 1 (.tmp 32), none⟩,
 ⟨some 34, .move (.tmp 3), none⟩,
 ⟨some 35, .move (.tmp 5), none⟩,
 ⟨some 36, .idxAddr (.tmp 34) (.tmp 35) 2, none⟩,
 ⟨some 37, .faddr (.tmp 36) 1, none⟩,
 ⟨some 38, .load false 1 (.tmp 37), none⟩,
 ⟨some 39, .call true (.const (.fn 287 [])) [(.tmp 28), (.tmp 33), (.tmp 38)] [], none⟩,
 ⟨some 6, .move (.tmp 39), none⟩])
 (.seq
 (.region false [
 ⟨some 40, .move (.tmp 4), none⟩,
 ⟨some 41, .move (.tmp 6), none⟩,
 ⟨some 42, .len false (.tmp 41), none⟩,
 ⟨some 43, .bin 0 .add (.tmp 40) (.tmp 42), none⟩,
 ⟨some 4, .assign (.tmp 43), none⟩])
 (.seq
 (.region false [
 ⟨some 7, .assign (.const (.int .i64 0)), none⟩])
 (.block 2
 (.loop [0, 3, 4, 5, 6, 7]
 (.seq
 (.seq
 (.region false [
 ⟨some 44, .move (.tmp 7), none⟩,
 ⟨some 45, .move (.tmp 6), none⟩,
 ⟨some 46, .len false (.tmp 45), none⟩,
 ⟨some 47, .bin 0 .lss (.tmp 44) (.tmp 46), none⟩])
 (.cond (.tmp 47)
 .skip
 (.exit 2)))
 (.seq
 (.block 3
 (.seq
 (.region true [
 ⟨some 50, .move (.tmp 6), none⟩,
 ⟨some 51, .move (.tmp 7), none⟩,
 ⟨some 52, .idxAddr (.tmp 50) (.tmp 51) 1, none⟩,
 ⟨some 53, .load false 1 (.tmp 52), none⟩,
 ⟨some 54, .bin 0 .lss (.tmp 53) (.const (.int .i64 0)), none⟩,
 ⟨some 55, .move (.tmp 54), none⟩,
 ⟨some 56, .move (.tmp 6), (some (55, false))⟩,
 ⟨some 57, .move (.tmp 7), (some (55, false))⟩,
 ⟨some 58, .idxAddr (.tmp 56) (.tmp 57) 1, (some (55, false))⟩,
 ⟨some 59, .load false 1 (.tmp 58), (some (55, false))⟩,
 ⟨some 60, .move (.tmp 0), (some (55, false))⟩,
 ⟨some 61, .len false (.tmp 60), (some (55, false))⟩,
 ⟨some 62, .bin 0 .geq (.tmp 59) (.tmp 61), (some (55, false))⟩,
 ⟨some 63, .pick (.tmp 55) (.const (.bool true)) (.tmp 62), none⟩,
 ⟨some 64, .move (.tmp 63), none⟩,
 ⟨some 65, .move (.tmp 0), (some (64, false))⟩,
 ⟨some 66, .move (.tmp 6), (some (64, false))⟩,
 ⟨some 67, .move (.tmp 7), (some (64, false))⟩,
 ⟨some 68, .idxAddr (.tmp 66) (.tmp 67) 1, (some (64, false))⟩,
 ⟨some 69, .load false 1 (.tmp 68), (some (64, false))⟩,
 ⟨some 70, .idxAddr (.tmp 65) (.tmp 69) 4, (some (64, false))⟩,
 ⟨some 71, .faddr (.tmp 70) 0, (some (64, false))⟩,
 ⟨some 72, .load false 1 (.tmp 71), (some (64, false))⟩,
 ⟨some 73, .move (.tmp 3), (some (64, false))⟩,
 ⟨some 74, .move (.tmp 5), (some (64, false))⟩,
 ⟨some 75, .idxAddr (.tmp 73) (.tmp 74) 2, (some (64, false))⟩,
 ⟨some 76, .faddr (.tmp 75) 0, (some (64, false))⟩,
 ⟨some 77, .load false 1 (.tmp 76), (some (64, false))⟩,
 ⟨some 78, .move (.tmp 3), (some (64, false))⟩,
 ⟨some 79, .move (.tmp 5), (some (64, false))⟩,
 ⟨some 80, .idxAddr (.tmp 78) (.tmp 79) 2, (some (64, false))⟩,
 ⟨some 81, .faddr (.tmp 80) 1, (some (64, false))⟩,
 ⟨some 82, .load false 1 (.tmp 81), (some (64, false))⟩,
 ⟨some 83, .call true (.const (.fn 256 [])) [(.tmp 72), (.tmp 77), (.tmp 82)] [], (some (64, false))⟩,
 ⟨some 84, .un .not (.tmp 83), (some (64, false))⟩,
 ⟨some 85, .pick (.tmp 64) (.const (.bool true)) (.tmp 84), none⟩])
 (.cond (.tmp 85)
 (.seq
 (.region false [
 ⟨some 2, .assign (.const (.bool false)), none⟩])
 .ret)
 .skip)))
 (.region false [
 ⟨some 48, .move (.tmp 7), none⟩,
 ⟨some 49, .bin 0 .add (.tmp 48) (.const (.int .i64 1)), none⟩,
 ⟨some 7, .assign (.tmp 49), none⟩])))))))))
 (.region false [
 ⟨some 26, .move (.tmp 5), none⟩,
 ⟨some 27, .bin 0 .add (.tmp 26) (.const (.int .i64 1)), none⟩,
 ⟨some 5, .assign (.tmp 27), none⟩]))))))
 (.seq
 (.seq
 (.region false [
 ⟨some 8, .assign (.const (.int .i64 0)), none⟩])
 (.block 4
 (.loop [0, 4, 8]
 (.seq
 (.seq
 (.region false [
 ⟨some 86, .move (.tmp 8), none⟩,
 ⟨some 87, .move (.tmp 0), none⟩,
 ⟨some 88, .len false (.tmp 87), none⟩,
 ⟨some 89, .bin 0 .lss (.tmp 86) (.tmp 88), none⟩])
 (.cond (.tmp 89)
 .skip
 (.exit 4)))
 (.seq
 (.block 5
 (.seq
 (.region false [
 ⟨some 92, .move (.tmp 0), none⟩,
 ⟨some 93, .move (.tmp 8), none⟩,
 ⟨some 94, .call true (.const (.fn 279 [])) [(.tmp 92), (.tmp 93)] [], none⟩,
 ⟨some 9, .assign (.tmp 94), none⟩])
 (.seq
 (.region false [
 ⟨some 10, .assign (.const (.int .i64 0)), none⟩])
 (.block 6
 (.loop [0, 4, 8, 9, 10]
 (.seq
 (.seq
 (.region false [
 ⟨some 95, .move (.tmp 10), none⟩,
 ⟨some 96, .move (.tmp 9), none⟩,
 ⟨some 97, .len false (.tmp 96), none⟩,
 ⟨some 98, .bin 0 .lss (.tmp 95) (.tmp 97), none⟩])
 (.cond (.tmp 98)
 .skip
 (.exit 6)))
 (.seq
 (.block 7
 (.seq
 (.region true [
 ⟨some 101, .move (.tmp 0), none⟩,
 ⟨some 102, .move (.tmp 9), none⟩,
 ⟨some 103, .move (.tmp 10), none⟩,
 ⟨some 104, .idxAddr (.tmp 102) (.tmp 103) 2, none⟩,
 ⟨some 105, .faddr (.tmp 104) 0, none⟩,
 ⟨some 106, .load false 1 (.tmp 105), none⟩,
 ⟨some 107, .move (.tmp 9), none⟩,
 ⟨some 108, .move (.tmp 10), none⟩,
 ⟨some 109, .idxAddr (.tmp 107) (.tmp 108) 2, none⟩,
 ⟨some 110, .faddr (.tmp 109) 1, none⟩,
 ⟨some 111, .load false 1 (.tmp 110), none⟩,
 ⟨some 112, .call true (.const (.fn 287 [])) [(.tmp 101), (.tmp 106), (.tmp 111)] [], none⟩,
 ⟨some 113, .len false (.tmp 112), none⟩,
 ⟨some 114, .bin 0 .eql (.tmp 113) (.const (.int .i64 0)), none⟩])
 (.cond (.tmp 114)
 (.seq
 (.region false [
 ⟨some 2, .assign (.const (.bool false)), none⟩])
 .ret)
 .skip)))
 (.region false [
 ⟨some 99, .move (.tmp 10), none⟩,
 ⟨some 100, .bin 0 .add (.tmp 99) (.const (.int .i64 1)), none⟩,
 ⟨some 10, .assign (.tmp 100), none⟩]))))))))
 (.region false [
 ⟨some 90, .move (.tmp 8), none⟩,
 ⟨some 91, .bin 0 .add (.tmp 90) (.const (.int .i64 1)), none⟩,
 ⟨some 8, .assign (.tmp 91), none⟩]))))))
 (.seq
 (.region false [
 ⟨some 115, .move (.tmp 4), none⟩,
 ⟨some 116, .move (.tmp 0), none⟩,
 ⟨some 117, .len false (.tmp 116), none⟩,
 ⟨some 118, .bin 0 .eql (.tmp 115) (.tmp 117), none⟩,
 ⟨some 2, .assign (.tmp 118), none⟩])
 .ret)))))))) }
/-- purlin/purlinlaw04.CheckReached -/
def tf573 : TFn := { ntmps := 77, results := [.tmp 6], body :=
 (.seq
 (.region false [
 ⟨some 6, .assign (.const (.bool false)), none⟩])
 (.seq
 (.seq
 (.region false [
 ⟨some 14, .call true (.const (.fn 275 [])) [] [], none⟩,
 ⟨some 15, .un .not (.tmp 14), none⟩])
 (.cond (.tmp 15)
 (.seq
 (.region false [
 ⟨some 6, .assign (.const (.bool false)), none⟩])
 .ret)
 .skip))
 (.seq
 (.region false [
 ⟨some 16, .move (.tmp 0), none⟩,
 ⟨some 17, .move (.tmp 1), none⟩,
 ⟨some 18, .call true (.const (.fn 288 [])) [(.tmp 16), (.tmp 17)] [], none⟩,
 ⟨some 7, .assign (.tmp 18), none⟩])
 (.seq
 (.region false [
 ⟨some 19, .move (.tmp 0), none⟩,
 ⟨some 20, .buildSlice 0 1 [.sl true 0 5 [] []] [], none⟩,
 ⟨some 21, .move (.tmp 1), none⟩,
 ⟨some 22, .append 1 24 (.tmp 20) (.tmp 21), none⟩,
 ⟨some 23, .move (.tmp 2), none⟩,
 ⟨some 24, .buildSlice 1 1 [.sl true 0 5 [] []] [(0, (.tmp 23))], none⟩,
 ⟨some 25, .append 1 24 (.tmp 22) (.tmp 24), none⟩,
 ⟨some 26, .call true (.const (.fn 288 [])) [(.tmp 19), (.tmp 25)] [], none⟩,
 ⟨some 8, .assign (.tmp 26), none⟩])
 (.seq
 (.seq
 (.region false [
 ⟨some 9, .assign (.const (.int .i64 0)), none⟩])
 (.block 0
 (.loop [0, 7, 8, 9]
 (.seq
 (.seq
 (.region false [
 ⟨some 27, .move (.tmp 9), none⟩,
 ⟨some 28, .move (.tmp 7), none⟩,
 ⟨some 29, .len false (.tmp 28), none⟩,
 ⟨some 30, .bin 0 .lss (.tmp 27) (.tmp 29), none⟩])
 (.cond (.tmp 30)
 .skip
 (.exit 0)))
 (.seq
 (.block 1
 (.seq
 (.seq
 (.region false [
 ⟨some 33, .move (.tmp 8), none⟩,
 ⟨some 34, .move (.tmp 7), none⟩,
 ⟨some 35, .move (.tmp 9), none⟩,
 ⟨some 36, .idxAddr (.tmp 34) (.tmp 35) 2, none⟩,
 ⟨some 37, .load true 2 (.tmp 36), none⟩,
 ⟨some 38, .call true (.const (.fn 289 [])) [(.tmp 33), (.tmp 37)] [], none⟩,
 ⟨some 39, .un .not (.tmp 38), none⟩])
 (.cond (.tmp 39)
 (.seq
 (.region false [
 ⟨some 6, .assign (.const (.bool false)), none⟩])
 .ret)
 .skip))
 (.seq
 (.region true [
 ⟨some 40, .move (.tmp 0), none⟩,
 ⟨some 41, .move (.tmp 7), none⟩,
 ⟨some 42, .move (.tmp 9), none⟩,
 ⟨some 43, .idxAddr (.tmp 41) (.tmp 42) 2, none⟩,
 ⟨some 44, .faddr (.tmp 43) 0, none⟩,
 ⟨some 45, .load false 1 (.tmp 44), none⟩,
 ⟨some 46, .move (.tmp 7), none⟩,
 ⟨some 47, .move (.tmp 9), none⟩,
 ⟨some 48, .idxAddr (.tmp 46) (.tmp 47) 2, none⟩,
 ⟨some 49, .faddr (.tmp 48) 1, none⟩,
 ⟨some 50, .load false 1 (.tmp 49), none⟩,
 ⟨some 51, .call true (.const (.fn 287 [])) [(.tmp 40), (.tmp 45), (.tmp 50)] [], none⟩,
 ⟨some 10, .move (.tmp 51), none⟩])
 (.seq
 (.region false [
 ⟨some 11, .assign (.const (.int .i64 0)), none⟩])
 (.block 2
 (.loop [0, 7, 8, 9, 10, 11]
 (.seq
 (.seq
 (.region false [
 ⟨some 52, .move (.tmp 11), none⟩,
 ⟨some 53, .move (.tmp 10), none⟩,
 ⟨some 54, .len false (.tmp 53), none⟩,
 ⟨some 55, .bin 0 .lss (.tmp 52) (.tmp 54), none⟩])
 (.cond (.tmp 55)
 .skip
 (.exit 2)))
 (.seq
 (.block 3
 (.seq
 (.region false [
 ⟨some 58, .move (.tmp 0), none⟩,
 ⟨some 59, .move (.tmp 10), none⟩,
 ⟨some 60, .move (.tmp 11), none⟩,
 ⟨some 61, .idxAddr (.tmp 59) (.tmp 60) 1, none⟩,
 ⟨some 62, .load false 1 (.tmp 61), none⟩,
 ⟨some 63, .call true (.const (.fn 279 [])) [(.tmp 58), (.tmp 62)] [], none⟩,
 ⟨some 12, .assign (.tmp 63), none⟩])
 (.seq
 (.region false [
 ⟨some 13, .assign (.const (.int .i64 0)), none⟩])
 (.block 4
 (.loop [0, 7, 8, 9, 10, 11, 12, 13]
 (.seq
 (.seq
 (.region false [
 ⟨some 64, .move (.tmp 13), none⟩,
 ⟨some 65, .move (.tmp 12), none⟩,
 ⟨some 66, .len false (.tmp 65), none⟩,
 ⟨some 67, .bin 0 .lss (.tmp 64) (.tmp 66), none⟩])
 (.cond (.tmp 67)
 .skip
 (.exit 4)))
 (.seq
 (.block 5
 (.seq
 (.region false [
 ⟨some 70, .move (.tmp 7), none⟩,
 ⟨some 71, .move (.tmp 12), none⟩,
 ⟨some 72, .move (.tmp 13), none⟩,
 ⟨some 73, .idxAddr (.tmp 71) (.tmp 72) 2, none⟩,
 ⟨some 74, .load true 2 (.tmp 73), none⟩,
 ⟨some 75, .call true (.const (.fn 289 [])) [(.tmp 70), (.tmp 74)] [], none⟩,
 ⟨some 76, .un .not (.tmp 75), none⟩])
 (.cond (.tmp 76)
 (.seq
 (.region false [
 ⟨some 6, .assign (.const (.bool false)), none⟩])
 .ret)
 .skip)))
 (.region false [
 ⟨some 68, .move (.tmp 13), none⟩,
 ⟨some 69, .bin 0 .add (.tmp 68) (.const (.int .i64 1)), none⟩,
 ⟨some 13, .assign (.tmp 69), none⟩]))))))))
 (.region false [
 ⟨some 56, .move (.tmp 11), none⟩,
 ⟨some 57, .bin 0 .add (.tmp 56) (.const (.int .i64 1)), none⟩,
 ⟨some 11, .assign (.tmp 57), none⟩])))))))))
 (.region false [
 ⟨some 31, .move (.tmp 9), none⟩,
 ⟨some 32, .bin 0 .add (.tmp 31) (.const (.int .i64 1)), none⟩,
 ⟨some 9, .assign (.tmp 32), none⟩]))))))
 (.seq
 (.region false [
 ⟨some 6, .assign (.const (.bool true)), none⟩])
 .ret)))))) }
/-- slices.Grow[[]purlin/api.Term,purlin/api.Term] -/
def tf574 : TFn := { ntmps := 27, results := [.tmp 4], body :=
 (.seq
 (.region false [
 ⟨some 4, .assign (.const (.sl true 0 1 [] [])), none⟩])
 (.seq
 (.seq
 (.region false [
 ⟨some 5, .move (.tmp 1), none⟩,
 ⟨some 6, .bin 0 .lss (.tmp 5) (.const (.int .i64 0)), none⟩])
 (.cond (.tmp 6)
 (.region false [
 ⟨some 7, .fail, none⟩,
 ⟨none, .fail, none⟩])
 .skip))
 (.seq
 (.seq
 (.region false [
 ⟨some 8, .move (.tmp 1), none⟩,
 ⟨some 9, .move (.tmp 0), none⟩,
 ⟨some 10, .fail, none⟩,
 ⟨some 11, .move (.tmp 0), none⟩,
 ⟨some 12, .len false (.tmp 11), none⟩,
 ⟨some 13, .bin 0 .sub (.tmp 10) (.tmp 12), none⟩,
 ⟨some 14, .bin 0 .sub (.tmp 8) (.tmp 13), none⟩,
 ⟨some 1, .assign (.tmp 14), none⟩])
 (.seq
 (.region false [
 ⟨some 15, .move (.tmp 1), none⟩,
 ⟨some 16, .bin 0 .gtr (.tmp 15) (.const (.int .i64 0)), none⟩])
 (.cond (.tmp 16)
 (.region false [
 ⟨some 17, .move (.tmp 0), none⟩,
 ⟨some 18, .move (.tmp 0), none⟩,
 ⟨some 19, .fail, none⟩,
 ⟨some 20, .slice 1 (.tmp 17) none (some (.tmp 19)), none⟩,
 ⟨some 21, .move (.tmp 1), none⟩,
 ⟨some 22, .append 1 24 (.tmp 20) (.tmp 21), none⟩,
 ⟨some 23, .move (.tmp 0), none⟩,
 ⟨some 24, .len false (.tmp 23), none⟩,
 ⟨some 25, .slice 1 (.tmp 22) none (some (.tmp 24)), none⟩,
 ⟨some 0, .assign (.tmp 25), none⟩])
 .skip)))
 (.seq
 (.region false [
 ⟨some 26, .move (.tmp 0), none⟩,
 ⟨some 4, .assign (.tmp 26), none⟩])
 .ret)))) }
def fnTable4 : List (Nat × TFn) := [(174, tf174), (207, tf207), (256, tf256), (273, tf273), (274, tf274), (275, tf275), (276, tf276), (277, tf277), (279, tf279), (282, tf282), (283, tf283), (284, tf284), (285, tf285), (286, tf286), (287, tf287), (288, tf288), (289, tf289), (290, tf290), (291, tf291), (292, tf292), (293, tf293), (294, tf294), (295, tf295), (296, tf296), (297, tf297), (298, tf298), (299, tf299), (300, tf300), (301, tf301), (302, tf302), (303, tf303), (304, tf304), (305, tf305), (306, tf306), (307, tf307), (308, tf308), (309, tf309), (310, tf310), (311, tf311), (312, tf312), (313, tf313), (314, tf314), (315, tf315), (316, tf316), (317, tf317), (318, tf318), (319, tf319), (320, tf320), (321, tf321), (322, tf322), (323, tf323), (324, tf324), (325, tf325), (326, tf326), (327, tf327), (328, tf328), (329, tf329), (330, tf330), (331, tf331), (332, tf332), (333, tf333), (334, tf334), (571, tf571), (572, tf572), (573, tf573), (574, tf574)]
end Tree
