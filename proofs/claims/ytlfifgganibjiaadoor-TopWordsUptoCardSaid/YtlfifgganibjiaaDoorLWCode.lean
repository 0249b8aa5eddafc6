/- The law TopWords: its code. -/
import Derived.Test.YtlfifgganibjiaaDoorTA
set_option autoImplicit false
namespace Tree
open Go
/-- purlin/purlintop.TopWords -/
def tf626 : TFn := { ntmps := 59, results := [.tmp 2], body :=
    (.seq
      (.region false [
        ⟨some 2, .assign (.const (.bool false)), none⟩])
      (.seq
        (.seq
          (.region false [
            ⟨some 8, .call true (.const (.fn 1 [])) [(.const (.str ⟨#[97]⟩))] [], none⟩,
            ⟨some 9, .un .not (.tmp 8), none⟩])
          (.cond (.tmp 9)
            (.seq
              (.region false [
                ⟨some 2, .assign (.const (.bool false)), none⟩])
              .ret)
            .skip))
        (.seq
          (.region false [
            ⟨some 11, .move (.tmp 0), none⟩,
            ⟨some 12, .call true (.const (.fn 335 [])) [(.tmp 11)] [], none⟩,
            ⟨some 10, .move (.tmp 12), none⟩,
            ⟨some 13, .extract (.tmp 10) 0, none⟩,
            ⟨some 14, .extract (.tmp 10) 1, none⟩,
            ⟨some 15, .extract (.tmp 10) 2, none⟩,
            ⟨some 3, .assign (.tmp 13), none⟩,
            ⟨some 4, .assign (.tmp 14), none⟩,
            ⟨some 5, .assign (.tmp 15), none⟩])
          (.seq
            (.region false [
              ⟨some 16, .move (.tmp 4), none⟩,
              ⟨some 17, .bin 0 .eql (.tmp 16) (.const (.int .i64 0)), none⟩,
              ⟨some 18, .move (.tmp 17), none⟩,
              ⟨some 19, .move (.tmp 3), (some (18, true))⟩,
              ⟨some 20, .len false (.tmp 19), (some (18, true))⟩,
              ⟨some 21, .bin 0 .eql (.tmp 20) (.const (.int .i64 2)), (some (18, true))⟩,
              ⟨some 22, .pick (.tmp 18) (.tmp 21) (.const (.bool false)), none⟩,
              ⟨some 23, .move (.tmp 22), none⟩,
              ⟨some 24, .move (.tmp 3), (some (23, true))⟩,
              ⟨some 25, .idxAddr (.tmp 24) (.const (.int .i64 0)) 5, (some (23, true))⟩,
              ⟨some 26, .faddr (.tmp 25) 0, (some (23, true))⟩,
              ⟨some 27, .load false 1 (.tmp 26), (some (23, true))⟩,
              ⟨some 28, .bin 0 .eql (.tmp 27) (.const (.int .u8 1)), (some (23, true))⟩,
              ⟨some 29, .pick (.tmp 23) (.tmp 28) (.const (.bool false)), none⟩,
              ⟨some 30, .move (.tmp 29), none⟩,
              ⟨some 31, .move (.tmp 3), (some (30, true))⟩,
              ⟨some 32, .idxAddr (.tmp 31) (.const (.int .i64 0)) 5, (some (30, true))⟩,
              ⟨some 33, .faddr (.tmp 32) 1, (some (30, true))⟩,
              ⟨some 34, .load false 1 (.tmp 33), (some (30, true))⟩,
              ⟨some 35, .move (.tmp 0), (some (30, true))⟩,
              ⟨some 36, .bin 0 .eql (.tmp 34) (.tmp 35), (some (30, true))⟩,
              ⟨some 37, .pick (.tmp 30) (.tmp 36) (.const (.bool false)), none⟩,
              ⟨some 6, .assign (.tmp 37), none⟩])
            (.seq
              (.region false [
                ⟨some 38, .move (.tmp 0), none⟩,
                ⟨some 39, .call true (.const (.fn 12 [])) [(.tmp 38)] [], none⟩,
                ⟨some 7, .assign (.tmp 39), none⟩])
              (.seq
                (.region false [
                  ⟨some 40, .move (.tmp 6), none⟩,
                  ⟨some 41, .move (.tmp 0), none⟩,
                  ⟨some 42, .call true (.const (.fn 1 [])) [(.tmp 41)] [], none⟩,
                  ⟨some 43, .bin 1 .eql (.tmp 40) (.tmp 42), none⟩,
                  ⟨some 44, .move (.tmp 43), none⟩,
                  ⟨some 45, .move (.tmp 7), (some (44, true))⟩,
                  ⟨some 46, .len false (.tmp 45), (some (44, true))⟩,
                  ⟨some 47, .bin 0 .eql (.tmp 46) (.const (.int .i64 1)), (some (44, true))⟩,
                  ⟨some 48, .move (.tmp 6), (some (44, true))⟩,
                  ⟨some 49, .bin 1 .eql (.tmp 47) (.tmp 48), (some (44, true))⟩,
                  ⟨some 50, .pick (.tmp 44) (.tmp 49) (.const (.bool false)), none⟩,
                  ⟨some 51, .move (.tmp 50), none⟩,
                  ⟨some 52, .move (.tmp 6), (some (51, true))⟩,
                  ⟨some 53, .un .not (.tmp 52), (some (51, true))⟩,
                  ⟨some 54, .move (.tmp 53), (some (51, true))⟩,
                  ⟨some 55, .move (.tmp 7), (some (54, false))⟩,
                  ⟨some 56, .call true (.const (.fn 30 [])) [(.tmp 55)] [], (some (54, false))⟩,
                  ⟨some 57, .pick (.tmp 54) (.const (.bool true)) (.tmp 56), (some (51, true))⟩,
                  ⟨some 58, .pick (.tmp 51) (.tmp 57) (.const (.bool false)), none⟩,
                  ⟨some 2, .assign (.tmp 58), none⟩])
                .ret)))))) }
def nuTableW : List (Nat × Nat) := [(3, 626), (4, 1), (5, 335), (6, 12), (7, 30), (8, 607), (9, 37), (10, 31), (11, 43), (12, 46), (13, 32), (14, 366), (15, 339), (16, 47), (17, 56), (18, 48), (19, 57), (20, 49), (21, 50), (22, 248), (23, 51), (24, 52), (25, 347), (26, 351), (27, 348), (28, 352), (29, 353), (30, 349), (31, 350), (32, 354), (33, 608), (34, 58), (35, 367), (37, 369)]
end Tree
