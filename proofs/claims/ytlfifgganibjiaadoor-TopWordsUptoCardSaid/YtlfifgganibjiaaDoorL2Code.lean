/- Layer 2: the program's functions as E-code. -/
import Derived.Test.YtlfifgganibjiaaDoorTA
set_option autoImplicit false
namespace Tree
open Go
/-- purlin/lex.All -/
def tf335 : TFn := { ntmps := 22, results := [.cell 2 false 1, .cell 3 false 1, .cell 4 false 1], body :=
 (.seq
 (.region false [
 ⟨some 2, .new 1 (.const (.sl true 0 5 [] [])), none⟩,
 ⟨some 3, .new 1 (.const (.int .i64 0)), none⟩,
 ⟨some 4, .new 1 (.const (.int .i64 0)), none⟩])
 (.seq
 (.region false [
 ⟨some 5, .new 1 (.const (.sl true 0 5 [] [])), none⟩])
 (.seq
 (.seq
 (.region false [
 ⟨some 8, .move (.tmp 0), none⟩,
 ⟨some 9, .call true (.const (.fn 607 [])) [(.tmp 8)] [], none⟩])
 (.block 0
 (.range 2 (.tmp 9) [2, 3, 4, 5, 6, 7, 10, 11, 12, 13, 14, 15, 16, 17, 18, 19, 20])))
 (.seq
 (.region false [
 ⟨some 21, .load false 1 (.tmp 5), none⟩,
 ⟨none, .store 1 (.tmp 2) (.tmp 21), none⟩,
 ⟨none, .store 1 (.tmp 3) (.const (.int .i64 0)), none⟩,
 ⟨none, .store 1 (.tmp 4) (.const (.int .i64 0)), none⟩])
 .ret)))) }
/-- purlin/lex.Next -/
def tf339 : TFn := { ntmps := 114, results := [.cell 4 true 5, .tmp 5, .tmp 6], body :=
 (.seq
 (.region false [
 ⟨some 4, .box 5 (.const (.agg [.int .u8 0, .str ⟨#[]⟩, .int .i64 0, .int .i64 0, .int .i64 0])), none⟩,
 ⟨some 5, .assign (.const (.int .i64 0)), none⟩,
 ⟨some 6, .assign (.const (.int .i64 0)), none⟩])
 (.seq
 (.seq
 (.region false [
 ⟨some 15, .move (.tmp 1), none⟩,
 ⟨some 16, .bin 0 .lss (.tmp 15) (.const (.int .i64 0)), none⟩,
 ⟨some 17, .move (.tmp 16), none⟩,
 ⟨some 18, .move (.tmp 1), (some (17, false))⟩,
 ⟨some 19, .move (.tmp 0), (some (17, false))⟩,
 ⟨some 20, .len true (.tmp 19), (some (17, false))⟩,
 ⟨some 21, .bin 0 .gtr (.tmp 18) (.tmp 20), (some (17, false))⟩,
 ⟨some 22, .pick (.tmp 17) (.const (.bool true)) (.tmp 21), none⟩])
 (.cond (.tmp 22)
 (.seq
 (.region false [
 ⟨some 23, .build [.int .u8 0, .str ⟨#[]⟩, .int .i64 0, .int .i64 0, .int .i64 0] [], none⟩,
 ⟨none, .store 5 (.tmp 4) (.tmp 23), none⟩,
 ⟨some 5, .assign (.const (.int .i64 0)), none⟩,
 ⟨some 6, .assign (.const (.int .i64 2)), none⟩])
 .ret)
 .skip))
 (.seq
 (.region false [
 ⟨some 24, .move (.tmp 0), none⟩,
 ⟨some 25, .move (.tmp 1), none⟩,
 ⟨some 26, .call true (.const (.fn 347 [])) [(.tmp 24), (.tmp 25)] [], none⟩,
 ⟨some 1, .assign (.tmp 26), none⟩])
 (.seq
 (.seq
 (.region false [
 ⟨some 27, .move (.tmp 1), none⟩,
 ⟨some 28, .move (.tmp 0), none⟩,
 ⟨some 29, .len true (.tmp 28), none⟩,
 ⟨some 30, .bin 0 .eql (.tmp 27) (.tmp 29), none⟩])
 (.cond (.tmp 30)
 (.seq
 (.region false [
 ⟨some 31, .move (.tmp 1), none⟩,
 ⟨some 32, .build [.int .u8 0, .str ⟨#[]⟩, .int .i64 0, .int .i64 0, .int .i64 0] [(4, 1, (.tmp 31))], none⟩,
 ⟨some 33, .move (.tmp 1), none⟩,
 ⟨none, .store 5 (.tmp 4) (.tmp 32), none⟩,
 ⟨some 5, .assign (.tmp 33), none⟩,
 ⟨some 6, .assign (.const (.int .i64 0)), none⟩])
 .ret)
 .skip))
 (.seq
 (.region false [
 ⟨some 7, .assign (.const (.int .u8 1)), none⟩])
 (.seq
 (.seq
 (.region false [
 ⟨some 34, .move (.tmp 0), none⟩,
 ⟨some 35, .move (.tmp 1), none⟩,
 ⟨some 36, .idxStr (.tmp 34) (.tmp 35), none⟩,
 ⟨some 8, .assign (.tmp 36), none⟩])
 (.block 0
 (.seq
 (.block 4
 (.seq
 (.block 3
 (.seq
 (.block 2
 (.seq
 (.block 1
 (.seq
 (.seq
 (.seq
 (.region false [
 ⟨some 38, .move (.tmp 8), none⟩,
 ⟨some 39, .bin 0 .eql (.tmp 38) (.const (.int .u8 63)), none⟩,
 ⟨some 37, .assign (.tmp 39), none⟩])
 (.cond (.tmp 37)
 (.exit 1)
 .skip))
 (.seq
 (.seq
 (.region false [
 ⟨some 41, .move (.tmp 8), none⟩,
 ⟨some 42, .call true (.const (.fn 348 [])) [(.tmp 41)] [], none⟩,
 ⟨some 40, .assign (.tmp 42), none⟩])
 (.cond (.tmp 40)
 (.exit 2)
 .skip))
 (.seq
 (.seq
 (.region false [
 ⟨some 44, .move (.tmp 8), none⟩,
 ⟨some 45, .call true (.const (.fn 349 [])) [(.tmp 44)] [], none⟩,
 ⟨some 43, .assign (.tmp 45), none⟩])
 (.cond (.tmp 43)
 (.exit 3)
 .skip))
 (.seq
 (.region false [
 ⟨some 47, .move (.tmp 8), none⟩,
 ⟨some 48, .call true (.const (.fn 350 [])) [(.tmp 47)] [], none⟩,
 ⟨some 46, .assign (.tmp 48), none⟩])
 (.cond (.tmp 46)
 (.exit 4)
 .skip)))))
 (.exit 0)))
 (.seq
 (.seq
 (.region false [
 ⟨some 49, .move (.tmp 0), none⟩,
 ⟨some 50, .move (.tmp 1), none⟩,
 ⟨some 51, .call true (.const (.fn 351 [])) [(.tmp 49), (.tmp 50)] [], none⟩,
 ⟨some 52, .extract (.tmp 51) 0, none⟩,
 ⟨some 53, .extract (.tmp 51) 1, none⟩,
 ⟨some 54, .extract (.tmp 51) 2, none⟩,
 ⟨none, .store 5 (.tmp 4) (.tmp 52), none⟩,
 ⟨some 5, .assign (.tmp 53), none⟩,
 ⟨some 6, .assign (.tmp 54), none⟩])
 .ret)
 (.exit 0))))
 (.seq
 (.seq
 (.region false [
 ⟨some 55, .move (.tmp 0), none⟩,
 ⟨some 56, .move (.tmp 1), none⟩,
 ⟨some 57, .call true (.const (.fn 352 [])) [(.tmp 55), (.tmp 56), (.const (.fn 348 []))] [], none⟩,
 ⟨some 9, .assign (.tmp 57), none⟩])
 (.seq
 (.region false [
 ⟨some 59, .move (.tmp 0), none⟩,
 ⟨some 60, .move (.tmp 1), none⟩,
 ⟨some 61, .move (.tmp 9), none⟩,
 ⟨some 62, .sliceStr (.tmp 59) (some (.tmp 60)) (some (.tmp 61)), none⟩,
 ⟨some 63, .call true (.const (.fn 353 [])) [(.tmp 62)] [], none⟩,
 ⟨some 58, .move (.tmp 63), none⟩,
 ⟨some 64, .extract (.tmp 58) 0, none⟩,
 ⟨some 65, .extract (.tmp 58) 1, none⟩,
 ⟨some 10, .assign (.tmp 64), none⟩,
 ⟨some 11, .assign (.tmp 65), none⟩])
 (.seq
 (.seq
 (.region false [
 ⟨some 66, .move (.tmp 11), none⟩,
 ⟨some 67, .un .not (.tmp 66), none⟩])
 (.cond (.tmp 67)
 (.seq
 (.region false [
 ⟨some 68, .build [.int .u8 0, .str ⟨#[]⟩, .int .i64 0, .int .i64 0, .int .i64 0] [], none⟩,
 ⟨some 69, .move (.tmp 1), none⟩,
 ⟨none, .store 5 (.tmp 4) (.tmp 68), none⟩,
 ⟨some 5, .assign (.tmp 69), none⟩,
 ⟨some 6, .assign (.const (.int .i64 21)), none⟩])
 .ret)
 .skip))
 (.seq
 (.region false [
 ⟨some 70, .move (.tmp 0), none⟩,
 ⟨some 71, .move (.tmp 1), none⟩,
 ⟨some 72, .move (.tmp 9), none⟩,
 ⟨some 73, .sliceStr (.tmp 70) (some (.tmp 71)) (some (.tmp 72)), none⟩,
 ⟨some 74, .move (.tmp 10), none⟩,
 ⟨some 75, .move (.tmp 1), none⟩,
 ⟨some 76, .build [.int .u8 0, .str ⟨#[]⟩, .int .i64 0, .int .i64 0, .int .i64 0] [(0, 1, (.const (.int .u8 3))), (1, 1, (.tmp 73)), (2, 1, (.tmp 74)), (4, 1, (.tmp 75))], none⟩,
 ⟨some 77, .move (.tmp 9), none⟩,
 ⟨none, .store 5 (.tmp 4) (.tmp 76), none⟩,
 ⟨some 5, .assign (.tmp 77), none⟩,
 ⟨some 6, .assign (.const (.int .i64 0)), none⟩])
 .ret))))
 (.exit 0))))
 (.region false [
 ⟨some 7, .assign (.const (.int .u8 2)), none⟩])))
 (.seq
 (.seq
 (.region false [
 ⟨some 78, .move (.tmp 0), none⟩,
 ⟨some 79, .move (.tmp 1), none⟩,
 ⟨some 80, .call true (.const (.fn 352 [])) [(.tmp 78), (.tmp 79), (.const (.fn 354 []))] [], none⟩,
 ⟨some 12, .assign (.tmp 80), none⟩])
 (.seq
 (.seq
 (.region false [
 ⟨some 81, .move (.tmp 12), none⟩,
 ⟨some 82, .move (.tmp 1), none⟩,
 ⟨some 83, .bin 0 .sub (.tmp 81) (.tmp 82), none⟩,
 ⟨some 84, .bin 0 .gtr (.tmp 83) (.const (.int .i64 16)), none⟩])
 (.cond (.tmp 84)
 (.seq
 (.region false [
 ⟨some 85, .build [.int .u8 0, .str ⟨#[]⟩, .int .i64 0, .int .i64 0, .int .i64 0] [], none⟩,
 ⟨some 86, .move (.tmp 1), none⟩,
 ⟨none, .store 5 (.tmp 4) (.tmp 85), none⟩,
 ⟨some 5, .assign (.tmp 86), none⟩,
 ⟨some 6, .assign (.const (.int .i64 5)), none⟩])
 .ret)
 .skip))
 (.seq
 (.region false [
 ⟨some 87, .move (.tmp 7), none⟩,
 ⟨some 88, .move (.tmp 0), none⟩,
 ⟨some 89, .move (.tmp 1), none⟩,
 ⟨some 90, .move (.tmp 12), none⟩,
 ⟨some 91, .sliceStr (.tmp 88) (some (.tmp 89)) (some (.tmp 90)), none⟩,
 ⟨some 92, .move (.tmp 1), none⟩,
 ⟨some 93, .build [.int .u8 0, .str ⟨#[]⟩, .int .i64 0, .int .i64 0, .int .i64 0] [(0, 1, (.tmp 87)), (1, 1, (.tmp 91)), (4, 1, (.tmp 92))], none⟩,
 ⟨some 94, .move (.tmp 12), none⟩,
 ⟨none, .store 5 (.tmp 4) (.tmp 93), none⟩,
 ⟨some 5, .assign (.tmp 94), none⟩,
 ⟨some 6, .assign (.const (.int .i64 0)), none⟩])
 .ret)))
 (.exit 0)))))
 (.seq
 (.seq
 (.region false [
 ⟨some 95, .build [.str ⟨#[]⟩, .str ⟨#[]⟩, .str ⟨#[]⟩, .str ⟨#[]⟩, .str ⟨#[]⟩, .str ⟨#[]⟩, .str ⟨#[]⟩, .str ⟨#[]⟩, .str ⟨#[]⟩, .str ⟨#[]⟩, .str ⟨#[]⟩, .str ⟨#[]⟩, .str ⟨#[]⟩, .str ⟨#[]⟩, .str ⟨#[]⟩, .str ⟨#[]⟩, .str ⟨#[]⟩, .str ⟨#[]⟩] [(0, 1, (.const (.str ⟨#[61, 58, 61]⟩))), (1, 1, (.const (.str ⟨#[61, 92, 61]⟩))), (2, 1, (.const (.str ⟨#[58, 45]⟩))), (3, 1, (.const (.str ⟨#[58, 61]⟩))), (4, 1, (.const (.str ⟨#[61, 60]⟩))), (5, 1, (.const (.str ⟨#[62, 61]⟩))), (6, 1, (.const (.str ⟨#[40]⟩))), (7, 1, (.const (.str ⟨#[41]⟩))), (8, 1, (.const (.str ⟨#[44]⟩))), (9, 1, (.const (.str ⟨#[46]⟩))), (10, 1, (.const (.str ⟨#[124]⟩))), (11, 1, (.const (.str ⟨#[64]⟩))), (12, 1, (.const (.str ⟨#[61]⟩))), (13, 1, (.const (.str ⟨#[43]⟩))), (14, 1, (.const (.str ⟨#[45]⟩))), (15, 1, (.const (.str ⟨#[42]⟩))), (16, 1, (.const (.str ⟨#[60]⟩))), (17, 1, (.const (.str ⟨#[62]⟩)))], none⟩,
 ⟨some 96, .move (.const (.int .i64 0)), none⟩])
 (.block 5
 (.loop [0, 1, 4, 95, 96]
 (.seq
 (.region false [
 ⟨some 97, .bin 0 .lss (.tmp 96) (.const (.int .i64 18)), none⟩])
 (.seq
 (.cond (.tmp 97)
 .skip
 (.exit 5))
 (.seq
 (.block 6
 (.seq
 (.region false [
 ⟨some 98, .idxAgg false 18 1 (.tmp 95) (.tmp 96), none⟩,
 ⟨some 14, .assign (.tmp 98), none⟩])
 (.seq
 (.region false [
 ⟨some 99, .move (.tmp 0), none⟩,
 ⟨some 100, .move (.tmp 1), none⟩,
 ⟨some 101, .sliceStr (.tmp 99) (some (.tmp 100)) none, none⟩,
 ⟨some 102, .move (.tmp 14), none⟩,
 ⟨some 103, .call true (.const (.fn 608 [])) [(.tmp 101), (.tmp 102)] [], none⟩])
 (.cond (.tmp 103)
 (.seq
 (.region false [
 ⟨some 104, .move (.tmp 14), none⟩,
 ⟨some 105, .move (.tmp 1), none⟩,
 ⟨some 106, .build [.int .u8 0, .str ⟨#[]⟩, .int .i64 0, .int .i64 0, .int .i64 0] [(0, 1, (.const (.int .u8 5))), (1, 1, (.tmp 104)), (4, 1, (.tmp 105))], none⟩,
 ⟨some 107, .move (.tmp 1), none⟩,
 ⟨some 108, .move (.tmp 14), none⟩,
 ⟨some 109, .len true (.tmp 108), none⟩,
 ⟨some 110, .bin 0 .add (.tmp 107) (.tmp 109), none⟩,
 ⟨none, .store 5 (.tmp 4) (.tmp 106), none⟩,
 ⟨some 5, .assign (.tmp 110), none⟩,
 ⟨some 6, .assign (.const (.int .i64 0)), none⟩])
 .ret)
 .skip))))
 (.region false [
 ⟨some 111, .bin 0 .add (.tmp 96) (.const (.int .i64 1)), none⟩,
 ⟨some 96, .move (.tmp 111), none⟩])))))))
 (.seq
 (.region false [
 ⟨some 112, .build [.int .u8 0, .str ⟨#[]⟩, .int .i64 0, .int .i64 0, .int .i64 0] [], none⟩,
 ⟨some 113, .move (.tmp 1), none⟩,
 ⟨none, .store 5 (.tmp 4) (.tmp 112), none⟩,
 ⟨some 5, .assign (.tmp 113), none⟩,
 ⟨some 6, .assign (.const (.int .i64 20)), none⟩])
 .ret)))))))) }
/-- purlin/lex.walk -/
def tf607 : TFn := { ntmps := 4, results := [.tmp 2], body :=
 (.seq
 (.region false [
 ⟨some 1, .box 1 (.tmp 0), none⟩,
 ⟨some 2, .assign (.const .nilfn), none⟩])
 (.seq
 (.region false [
 ⟨some 3, .makeFunc 366 [(.tmp 1)], none⟩,
 ⟨some 2, .assign (.tmp 3), none⟩])
 .ret)) }
/-- purlin/lex.skip -/
def tf347 : TFn := { ntmps := 26, results := [.tmp 4], body :=
 (.seq
 (.region false [
 ⟨some 4, .assign (.const (.int .i64 0)), none⟩])
 (.seq
 (.block 0
 (.loop [0, 1]
 (.seq
 (.seq
 (.region false [
 ⟨some 5, .move (.tmp 1), none⟩,
 ⟨some 6, .move (.tmp 0), none⟩,
 ⟨some 7, .len true (.tmp 6), none⟩,
 ⟨some 8, .bin 0 .lss (.tmp 5) (.tmp 7), none⟩])
 (.cond (.tmp 8)
 .skip
 (.exit 0)))
 (.block 1
 (.seq
 (.region false [
 ⟨some 9, .move (.tmp 0), none⟩,
 ⟨some 10, .move (.tmp 1), none⟩,
 ⟨some 11, .idxStr (.tmp 9) (.tmp 10), none⟩])
 (.block 2
 (.seq
 (.seq
 (.region false [
 ⟨some 14, .bin 0 .eql (.tmp 11) (.const (.int .u8 32)), none⟩,
 ⟨some 13, .assign (.tmp 14), none⟩])
 (.cond (.tmp 13)
 .skip
 (.seq
 (.region false [
 ⟨some 15, .bin 0 .eql (.tmp 11) (.const (.int .u8 9)), none⟩,
 ⟨some 13, .assign (.tmp 15), none⟩])
 (.cond (.tmp 13)
 .skip
 (.seq
 (.region false [
 ⟨some 16, .bin 0 .eql (.tmp 11) (.const (.int .u8 10)), none⟩,
 ⟨some 13, .assign (.tmp 16), none⟩])
 (.cond (.tmp 13)
 .skip
 (.region false [
 ⟨some 17, .bin 0 .eql (.tmp 11) (.const (.int .u8 13)), none⟩,
 ⟨some 13, .assign (.tmp 17), none⟩])))))))
 (.cond (.tmp 13)
 (.region false [
 ⟨some 18, .move (.tmp 1), none⟩,
 ⟨some 19, .bin 0 .add (.tmp 18) (.const (.int .i64 1)), none⟩,
 ⟨some 1, .assign (.tmp 19), none⟩])
 (.seq
 (.region false [
 ⟨some 21, .bin 0 .eql (.tmp 11) (.const (.int .u8 37)), none⟩,
 ⟨some 20, .assign (.tmp 21), none⟩])
 (.cond (.tmp 20)
 (.region false [
 ⟨some 22, .move (.tmp 0), none⟩,
 ⟨some 23, .move (.tmp 1), none⟩,
 ⟨some 24, .call true (.const (.fn 352 [])) [(.tmp 22), (.tmp 23), (.const (.fn 367 []))] [], none⟩,
 ⟨some 1, .assign (.tmp 24), none⟩])
 (.seq
 (.region false [
 ⟨some 12, .move (.tmp 1), none⟩,
 ⟨some 4, .assign (.tmp 12), none⟩])
 .ret)))))))))))
 (.seq
 (.region false [
 ⟨some 25, .move (.tmp 1), none⟩,
 ⟨some 4, .assign (.tmp 25), none⟩])
 .ret))) }
/-- purlin/lex.global -/
def tf351 : TFn := { ntmps := 80, results := [.cell 4 true 5, .tmp 5, .tmp 6], body :=
 (.seq
 (.region false [
 ⟨some 4, .box 5 (.const (.agg [.int .u8 0, .str ⟨#[]⟩, .int .i64 0, .int .i64 0, .int .i64 0])), none⟩,
 ⟨some 5, .assign (.const (.int .i64 0)), none⟩,
 ⟨some 6, .assign (.const (.int .i64 0)), none⟩])
 (.seq
 (.region false [
 ⟨some 13, .move (.tmp 0), none⟩,
 ⟨some 14, .move (.tmp 1), none⟩,
 ⟨some 15, .bin 0 .add (.tmp 14) (.const (.int .i64 1)), none⟩,
 ⟨some 16, .call true (.const (.fn 352 [])) [(.tmp 13), (.tmp 15), (.const (.fn 348 []))] [], none⟩,
 ⟨some 7, .assign (.tmp 16), none⟩])
 (.seq
 (.seq
 (.region false [
 ⟨some 17, .move (.tmp 7), none⟩,
 ⟨some 18, .move (.tmp 1), none⟩,
 ⟨some 19, .bin 0 .add (.tmp 18) (.const (.int .i64 1)), none⟩,
 ⟨some 20, .bin 0 .eql (.tmp 17) (.tmp 19), none⟩,
 ⟨some 21, .move (.tmp 20), none⟩,
 ⟨some 22, .move (.tmp 7), (some (21, false))⟩,
 ⟨some 23, .move (.tmp 0), (some (21, false))⟩,
 ⟨some 24, .len true (.tmp 23), (some (21, false))⟩,
 ⟨some 25, .bin 0 .eql (.tmp 22) (.tmp 24), (some (21, false))⟩,
 ⟨some 26, .pick (.tmp 21) (.const (.bool true)) (.tmp 25), none⟩,
 ⟨some 27, .move (.tmp 26), none⟩,
 ⟨some 28, .move (.tmp 0), (some (27, false))⟩,
 ⟨some 29, .move (.tmp 7), (some (27, false))⟩,
 ⟨some 30, .idxStr (.tmp 28) (.tmp 29), (some (27, false))⟩,
 ⟨some 31, .bin 0 .neq (.tmp 30) (.const (.int .u8 95)), (some (27, false))⟩,
 ⟨some 32, .pick (.tmp 27) (.const (.bool true)) (.tmp 31), none⟩])
 (.cond (.tmp 32)
 (.seq
 (.region false [
 ⟨some 33, .build [.int .u8 0, .str ⟨#[]⟩, .int .i64 0, .int .i64 0, .int .i64 0] [], none⟩,
 ⟨some 34, .move (.tmp 1), none⟩,
 ⟨none, .store 5 (.tmp 4) (.tmp 33), none⟩,
 ⟨some 5, .assign (.tmp 34), none⟩,
 ⟨some 6, .assign (.const (.int .i64 20)), none⟩])
 .ret)
 .skip))
 (.seq
 (.region false [
 ⟨some 35, .move (.tmp 0), none⟩,
 ⟨some 36, .move (.tmp 7), none⟩,
 ⟨some 37, .bin 0 .add (.tmp 36) (.const (.int .i64 1)), none⟩,
 ⟨some 38, .call true (.const (.fn 352 [])) [(.tmp 35), (.tmp 37), (.const (.fn 348 []))] [], none⟩,
 ⟨some 8, .assign (.tmp 38), none⟩])
 (.seq
 (.seq
 (.region false [
 ⟨some 39, .move (.tmp 8), none⟩,
 ⟨some 40, .move (.tmp 7), none⟩,
 ⟨some 41, .bin 0 .add (.tmp 40) (.const (.int .i64 1)), none⟩,
 ⟨some 42, .bin 0 .eql (.tmp 39) (.tmp 41), none⟩])
 (.cond (.tmp 42)
 (.seq
 (.region false [
 ⟨some 43, .build [.int .u8 0, .str ⟨#[]⟩, .int .i64 0, .int .i64 0, .int .i64 0] [], none⟩,
 ⟨some 44, .move (.tmp 1), none⟩,
 ⟨none, .store 5 (.tmp 4) (.tmp 43), none⟩,
 ⟨some 5, .assign (.tmp 44), none⟩,
 ⟨some 6, .assign (.const (.int .i64 20)), none⟩])
 .ret)
 .skip))
 (.seq
 (.region false [
 ⟨some 46, .move (.tmp 0), none⟩,
 ⟨some 47, .move (.tmp 1), none⟩,
 ⟨some 48, .bin 0 .add (.tmp 47) (.const (.int .i64 1)), none⟩,
 ⟨some 49, .move (.tmp 7), none⟩,
 ⟨some 50, .sliceStr (.tmp 46) (some (.tmp 48)) (some (.tmp 49)), none⟩,
 ⟨some 51, .call true (.const (.fn 353 [])) [(.tmp 50)] [], none⟩,
 ⟨some 45, .move (.tmp 51), none⟩,
 ⟨some 52, .extract (.tmp 45) 0, none⟩,
 ⟨some 53, .extract (.tmp 45) 1, none⟩,
 ⟨some 9, .assign (.tmp 52), none⟩,
 ⟨some 10, .assign (.tmp 53), none⟩])
 (.seq
 (.region false [
 ⟨some 55, .move (.tmp 0), none⟩,
 ⟨some 56, .move (.tmp 7), none⟩,
 ⟨some 57, .bin 0 .add (.tmp 56) (.const (.int .i64 1)), none⟩,
 ⟨some 58, .move (.tmp 8), none⟩,
 ⟨some 59, .sliceStr (.tmp 55) (some (.tmp 57)) (some (.tmp 58)), none⟩,
 ⟨some 60, .call true (.const (.fn 353 [])) [(.tmp 59)] [], none⟩,
 ⟨some 54, .move (.tmp 60), none⟩,
 ⟨some 61, .extract (.tmp 54) 0, none⟩,
 ⟨some 62, .extract (.tmp 54) 1, none⟩,
 ⟨some 11, .assign (.tmp 61), none⟩,
 ⟨some 12, .assign (.tmp 62), none⟩])
 (.seq
 (.seq
 (.region false [
 ⟨some 63, .move (.tmp 10), none⟩,
 ⟨some 64, .un .not (.tmp 63), none⟩,
 ⟨some 65, .move (.tmp 64), none⟩,
 ⟨some 66, .move (.tmp 12), (some (65, false))⟩,
 ⟨some 67, .un .not (.tmp 66), (some (65, false))⟩,
 ⟨some 68, .pick (.tmp 65) (.const (.bool true)) (.tmp 67), none⟩])
 (.cond (.tmp 68)
 (.seq
 (.region false [
 ⟨some 69, .build [.int .u8 0, .str ⟨#[]⟩, .int .i64 0, .int .i64 0, .int .i64 0] [], none⟩,
 ⟨some 70, .move (.tmp 1), none⟩,
 ⟨none, .store 5 (.tmp 4) (.tmp 69), none⟩,
 ⟨some 5, .assign (.tmp 70), none⟩,
 ⟨some 6, .assign (.const (.int .i64 21)), none⟩])
 .ret)
 .skip))
 (.seq
 (.region false [
 ⟨some 71, .move (.tmp 0), none⟩,
 ⟨some 72, .move (.tmp 1), none⟩,
 ⟨some 73, .move (.tmp 8), none⟩,
 ⟨some 74, .sliceStr (.tmp 71) (some (.tmp 72)) (some (.tmp 73)), none⟩,
 ⟨some 75, .move (.tmp 11), none⟩,
 ⟨some 76, .move (.tmp 9), none⟩,
 ⟨some 77, .move (.tmp 1), none⟩,
 ⟨some 78, .build [.int .u8 0, .str ⟨#[]⟩, .int .i64 0, .int .i64 0, .int .i64 0] [(0, 1, (.const (.int .u8 4))), (1, 1, (.tmp 74)), (2, 1, (.tmp 75)), (3, 1, (.tmp 76)), (4, 1, (.tmp 77))], none⟩,
 ⟨some 79, .move (.tmp 8), none⟩,
 ⟨none, .store 5 (.tmp 4) (.tmp 78), none⟩,
 ⟨some 5, .assign (.tmp 79), none⟩,
 ⟨some 6, .assign (.const (.int .i64 0)), none⟩])
 .ret))))))))) }
/-- purlin/lex.isDigit -/
def tf348 : TFn := { ntmps := 9, results := [.tmp 2], body :=
 (.seq
 (.region false [
 ⟨some 2, .assign (.const (.bool false)), none⟩])
 (.seq
 (.region false [
 ⟨some 3, .move (.tmp 0), none⟩,
 ⟨some 4, .bin 0 .geq (.tmp 3) (.const (.int .u8 48)), none⟩,
 ⟨some 5, .move (.tmp 4), none⟩,
 ⟨some 6, .move (.tmp 0), (some (5, true))⟩,
 ⟨some 7, .bin 0 .leq (.tmp 6) (.const (.int .u8 57)), (some (5, true))⟩,
 ⟨some 8, .pick (.tmp 5) (.tmp 7) (.const (.bool false)), none⟩,
 ⟨some 2, .assign (.tmp 8), none⟩])
 .ret)) }
/-- purlin/lex.span -/
def tf352 : TFn := { ntmps := 21, results := [.tmp 6], body :=
 (.seq
 (.region false [
 ⟨some 6, .assign (.const (.int .i64 0)), none⟩])
 (.seq
 (.block 0
 (.loop [0, 1, 2]
 (.seq
 (.seq
 (.region false [
 ⟨some 7, .move (.tmp 1), none⟩,
 ⟨some 8, .move (.tmp 0), none⟩,
 ⟨some 9, .len true (.tmp 8), none⟩,
 ⟨some 10, .bin 0 .lss (.tmp 7) (.tmp 9), none⟩,
 ⟨some 11, .move (.tmp 10), none⟩,
 ⟨some 12, .move (.tmp 2), (some (11, true))⟩,
 ⟨some 13, .move (.tmp 0), (some (11, true))⟩,
 ⟨some 14, .move (.tmp 1), (some (11, true))⟩,
 ⟨some 15, .idxStr (.tmp 13) (.tmp 14), (some (11, true))⟩,
 ⟨some 16, .call true (.tmp 12) [(.tmp 15)] [], (some (11, true))⟩,
 ⟨some 17, .pick (.tmp 11) (.tmp 16) (.const (.bool false)), none⟩])
 (.cond (.tmp 17)
 .skip
 (.exit 0)))
 (.block 1
 (.region false [
 ⟨some 18, .move (.tmp 1), none⟩,
 ⟨some 19, .bin 0 .add (.tmp 18) (.const (.int .i64 1)), none⟩,
 ⟨some 1, .assign (.tmp 19), none⟩])))))
 (.seq
 (.region false [
 ⟨some 20, .move (.tmp 1), none⟩,
 ⟨some 6, .assign (.tmp 20), none⟩])
 .ret))) }
/-- purlin/lex.isCapital -/
def tf349 : TFn := { ntmps := 13, results := [.tmp 2], body :=
 (.seq
 (.region false [
 ⟨some 2, .assign (.const (.bool false)), none⟩])
 (.seq
 (.region false [
 ⟨some 3, .move (.tmp 0), none⟩,
 ⟨some 4, .bin 0 .geq (.tmp 3) (.const (.int .u8 65)), none⟩,
 ⟨some 5, .move (.tmp 4), none⟩,
 ⟨some 6, .move (.tmp 0), (some (5, true))⟩,
 ⟨some 7, .bin 0 .leq (.tmp 6) (.const (.int .u8 90)), (some (5, true))⟩,
 ⟨some 8, .pick (.tmp 5) (.tmp 7) (.const (.bool false)), none⟩,
 ⟨some 9, .move (.tmp 8), none⟩,
 ⟨some 10, .move (.tmp 0), (some (9, false))⟩,
 ⟨some 11, .bin 0 .eql (.tmp 10) (.const (.int .u8 95)), (some (9, false))⟩,
 ⟨some 12, .pick (.tmp 9) (.const (.bool true)) (.tmp 11), none⟩,
 ⟨some 2, .assign (.tmp 12), none⟩])
 .ret)) }
/-- purlin/lex.isSmall -/
def tf350 : TFn := { ntmps := 9, results := [.tmp 2], body :=
 (.seq
 (.region false [
 ⟨some 2, .assign (.const (.bool false)), none⟩])
 (.seq
 (.region false [
 ⟨some 3, .move (.tmp 0), none⟩,
 ⟨some 4, .bin 0 .geq (.tmp 3) (.const (.int .u8 97)), none⟩,
 ⟨some 5, .move (.tmp 4), none⟩,
 ⟨some 6, .move (.tmp 0), (some (5, true))⟩,
 ⟨some 7, .bin 0 .leq (.tmp 6) (.const (.int .u8 122)), (some (5, true))⟩,
 ⟨some 8, .pick (.tmp 5) (.tmp 7) (.const (.bool false)), none⟩,
 ⟨some 2, .assign (.tmp 8), none⟩])
 .ret)) }
/-- purlin/lex.Next$1 -/
def tf354 : TFn := { ntmps := 13, results := [.tmp 2], body :=
 (.seq
 (.region false [
 ⟨some 2, .assign (.const (.bool false)), none⟩])
 (.seq
 (.region false [
 ⟨some 3, .move (.tmp 0), none⟩,
 ⟨some 4, .call true (.const (.fn 350 [])) [(.tmp 3)] [], none⟩,
 ⟨some 5, .move (.tmp 4), none⟩,
 ⟨some 6, .move (.tmp 0), (some (5, false))⟩,
 ⟨some 7, .call true (.const (.fn 349 [])) [(.tmp 6)] [], (some (5, false))⟩,
 ⟨some 8, .pick (.tmp 5) (.const (.bool true)) (.tmp 7), none⟩,
 ⟨some 9, .move (.tmp 8), none⟩,
 ⟨some 10, .move (.tmp 0), (some (9, false))⟩,
 ⟨some 11, .call true (.const (.fn 348 [])) [(.tmp 10)] [], (some (9, false))⟩,
 ⟨some 12, .pick (.tmp 9) (.const (.bool true)) (.tmp 11), none⟩,
 ⟨some 2, .assign (.tmp 12), none⟩])
 .ret)) }
/-- strings.HasPrefix -/
def tf608 : TFn := { ntmps := 8, results := [.tmp 4], body :=
 (.seq
 (.region false [
 ⟨some 4, .assign (.const (.bool false)), none⟩])
 (.seq
 (.region false [
 ⟨some 5, .move (.tmp 0), none⟩,
 ⟨some 6, .move (.tmp 1), none⟩,
 ⟨some 7, .call true (.const (.fn 369 [])) [(.tmp 5), (.tmp 6)] [], none⟩,
 ⟨some 4, .assign (.tmp 7), none⟩])
 .ret)) }
/-- purlin/lex.walk$1 -/
def tf366 : TFn := { ntmps := 33, results := [], body :=
 (.seq
 (.region false [
 ⟨some 3, .assign (.const (.int .i64 0)), none⟩])
 (.block 0
 (.loop [0, 1, 3]
 (.block 1
 (.seq
 (.region false [
 ⟨some 8, .load false 1 (.tmp 1), none⟩,
 ⟨some 9, .move (.tmp 3), none⟩,
 ⟨some 10, .call true (.const (.fn 339 [])) [(.tmp 8), (.tmp 9)] [], none⟩,
 ⟨some 7, .move (.tmp 10), none⟩,
 ⟨some 11, .extract (.tmp 7) 0, none⟩,
 ⟨some 12, .extract (.tmp 7) 1, none⟩,
 ⟨some 13, .extract (.tmp 7) 2, none⟩,
 ⟨some 4, .box 5 (.const (.agg [.int .u8 0, .str ⟨#[]⟩, .int .i64 0, .int .i64 0, .int .i64 0])), none⟩,
 ⟨none, .store 5 (.tmp 4) (.tmp 11), none⟩,
 ⟨some 5, .assign (.tmp 12), none⟩,
 ⟨some 6, .assign (.tmp 13), none⟩])
 (.seq
 (.seq
 (.region false [
 ⟨some 14, .move (.tmp 6), none⟩,
 ⟨some 15, .bin 0 .neq (.tmp 14) (.const (.int .i64 0)), none⟩])
 (.cond (.tmp 15)
 (.region false [
 ⟨some 16, .move (.tmp 5), none⟩,
 ⟨some 17, .faddr (.tmp 4) 4, none⟩,
 ⟨none, .store 1 (.tmp 17) (.tmp 16), none⟩])
 .skip))
 (.seq
 (.seq
 (.region false [
 ⟨some 18, .move (.tmp 0), none⟩,
 ⟨some 19, .load true 5 (.tmp 4), none⟩,
 ⟨some 20, .move (.tmp 6), none⟩,
 ⟨some 21, .call false (.tmp 18) [(.tmp 19), (.tmp 20)] [], none⟩,
 ⟨some 22, .un .not (.tmp 21), none⟩,
 ⟨some 23, .move (.tmp 22), none⟩,
 ⟨some 24, .move (.tmp 6), (some (23, false))⟩,
 ⟨some 25, .bin 0 .neq (.tmp 24) (.const (.int .i64 0)), (some (23, false))⟩,
 ⟨some 26, .pick (.tmp 23) (.const (.bool true)) (.tmp 25), none⟩,
 ⟨some 27, .move (.tmp 26), none⟩,
 ⟨some 28, .faddr (.tmp 4) 0, (some (27, false))⟩,
 ⟨some 29, .load false 1 (.tmp 28), (some (27, false))⟩,
 ⟨some 30, .bin 0 .eql (.tmp 29) (.const (.int .u8 0)), (some (27, false))⟩,
 ⟨some 31, .pick (.tmp 27) (.const (.bool true)) (.tmp 30), none⟩])
 (.cond (.tmp 31)
 .ret
 .skip))
 (.region false [
 ⟨some 32, .move (.tmp 5), none⟩,
 ⟨some 3, .assign (.tmp 32), none⟩])))))))) }
/-- purlin/lex.skip$1 -/
def tf367 : TFn := { ntmps := 5, results := [.tmp 2], body :=
 (.seq
 (.region false [
 ⟨some 2, .assign (.const (.bool false)), none⟩])
 (.seq
 (.region false [
 ⟨some 3, .move (.tmp 0), none⟩,
 ⟨some 4, .bin 0 .neq (.tmp 3) (.const (.int .u8 10)), none⟩,
 ⟨some 2, .assign (.tmp 4), none⟩])
 .ret)) }
/-- internal/stringslite.HasPrefix -/
def tf369 : TFn := { ntmps := 18, results := [.tmp 4], body :=
 (.seq
 (.region false [
 ⟨some 4, .assign (.const (.bool false)), none⟩])
 (.seq
 (.region false [
 ⟨some 5, .move (.tmp 0), none⟩,
 ⟨some 6, .len true (.tmp 5), none⟩,
 ⟨some 7, .move (.tmp 1), none⟩,
 ⟨some 8, .len true (.tmp 7), none⟩,
 ⟨some 9, .bin 0 .geq (.tmp 6) (.tmp 8), none⟩,
 ⟨some 10, .move (.tmp 9), none⟩,
 ⟨some 11, .move (.tmp 0), (some (10, true))⟩,
 ⟨some 12, .move (.tmp 1), (some (10, true))⟩,
 ⟨some 13, .len true (.tmp 12), (some (10, true))⟩,
 ⟨some 14, .sliceStr (.tmp 11) none (some (.tmp 13)), (some (10, true))⟩,
 ⟨some 15, .move (.tmp 1), (some (10, true))⟩,
 ⟨some 16, .bin 0 .eql (.tmp 14) (.tmp 15), (some (10, true))⟩,
 ⟨some 17, .pick (.tmp 10) (.tmp 16) (.const (.bool false)), none⟩,
 ⟨some 4, .assign (.tmp 17), none⟩])
 .ret)) }
def lp2 : List Nat × TCode × TCode := ([10, 11],
 (.seq
 (.region false [
 ⟨some 6, .box 5 (.const (.agg [.int .u8 0, .str ⟨#[]⟩, .int .i64 0, .int .i64 0, .int .i64 0])), none⟩,
 ⟨none, .store 5 (.tmp 6) (.tmp 10), none⟩])
 (.region false [
 ⟨some 7, .assign (.tmp 11), none⟩])),
 (.block 1
 (.seq
 (.seq
 (.region false [
 ⟨some 12, .move (.tmp 7), none⟩,
 ⟨some 13, .bin 0 .neq (.tmp 12) (.const (.int .i64 0)), none⟩])
 (.cond (.tmp 13)
 (.seq
 (.region true [
 ⟨some 14, .move (.tmp 7), none⟩,
 ⟨some 15, .faddr (.tmp 6) 4, none⟩,
 ⟨some 16, .loadR (some 6) false 1 (.tmp 15), none⟩,
 ⟨none, .storeR none 1 (.tmp 2) (.const (.sl true 0 5 [] [])), none⟩,
 ⟨none, .storeR none 1 (.tmp 3) (.tmp 14), none⟩,
 ⟨none, .store 1 (.tmp 4) (.tmp 16), none⟩])
 .ret)
 .skip))
 (.region false [
 ⟨some 17, .load false 1 (.tmp 5), none⟩,
 ⟨some 18, .load true 5 (.tmp 6), none⟩,
 ⟨some 19, .buildSlice 1 5 [.int .u8 0, .str ⟨#[]⟩, .int .i64 0, .int .i64 0, .int .i64 0] [(0, (.tmp 18))], none⟩,
 ⟨some 20, .append 5 48 (.tmp 17) (.tmp 19), none⟩,
 ⟨none, .store 1 (.tmp 5) (.tmp 20), none⟩]))))
def fnTable2 : List (Nat × TFn) := [(335, tf335), (339, tf339), (607, tf607), (347, tf347), (351, tf351), (348, tf348), (352, tf352), (349, tf349), (350, tf350), (354, tf354), (608, tf608), (366, tf366), (367, tf367), (369, tf369)]
def lpTable2 : List (Nat × List Nat × TCode × TCode) := [(2, lp2)]
end Tree
