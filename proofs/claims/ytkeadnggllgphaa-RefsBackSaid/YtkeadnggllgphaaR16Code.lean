/- Layer 16: the program's functions as E-code. -/
import Derived.Test.YtkeadnggllgphaaTA
set_option autoImplicit false
set_option maxRecDepth 100000
namespace Tree.R16
open Go Tree
/-- purlin/purlinlaw16.RefsBack -/
def tf665 : TFn := { ntmps := 133, results := [.tmp 4], body :=
    (.seq
      (.region false [
        ⟨some 2, .box 2 (.tmp 0), none⟩,
        ⟨some 3, .box 3 (.tmp 1), none⟩,
        ⟨some 4, .assign (.const (.bool false)), none⟩])
      (.seq
        (.seq
          (.region false [
            ⟨some 13, .call true (.const (.fn 395 [])) [] [], none⟩,
            ⟨some 14, .un .not (.tmp 13), none⟩])
          (.cond (.tmp 14)
            (.seq
              (.region false [
                ⟨some 4, .assign (.const (.bool false)), none⟩])
              .ret)
            .skip))
        (.seq
          (.region false [
            ⟨some 16, .call false (.const (.fn 399 [])) [(.const (.int .i64 0)), (.const (.int .i64 4))] [], none⟩,
            ⟨some 15, .move (.tmp 16), none⟩,
            ⟨some 17, .extract (.tmp 15) 0, none⟩,
            ⟨some 18, .extract (.tmp 15) 1, none⟩,
            ⟨some 5, .assign (.tmp 17), none⟩,
            ⟨some 6, .assign (.tmp 18), none⟩])
          (.seq
            (.seq
              (.region false [
                ⟨some 19, .move (.tmp 6), none⟩,
                ⟨some 20, .bin 0 .neq (.tmp 19) (.const (.int .i64 0)), none⟩])
              (.cond (.tmp 20)
                (.seq
                  (.region false [
                    ⟨some 4, .assign (.const (.bool false)), none⟩])
                  .ret)
                .skip))
            (.seq
              (.region false [
                ⟨some 21, .faddr (.tmp 2) 0, none⟩,
                ⟨none, .store 1 (.tmp 21) (.const (.int .i64 0)), none⟩])
              (.seq
                (.seq
                  (.region false [
                    ⟨some 7, .assign (.const (.int .i64 1)), none⟩])
                  (.block 0
                    (.loop [2, 3, 5, 7]
                      (.seq
                        (.seq
                          (.region false [
                            ⟨some 22, .move (.tmp 7), none⟩,
                            ⟨some 23, .bin 0 .leq (.tmp 22) (.const (.int .i64 3)), none⟩])
                          (.cond (.tmp 23)
                            .skip
                            (.exit 0)))
                        (.seq
                          (.block 1
                            (.seq
                              (.region false [
                                ⟨some 8, .assign (.const (.int .i64 0)), none⟩])
                              (.block 2
                                (.loop [2, 3, 5, 7, 8]
                                  (.seq
                                    (.seq
                                      (.region false [
                                        ⟨some 26, .move (.tmp 8), none⟩,
                                        ⟨some 27, .move (.tmp 7), none⟩,
                                        ⟨some 28, .bin 0 .sub (.tmp 27) (.const (.int .i64 1)), none⟩,
                                        ⟨some 29, .idxArr (.tmp 3) (.tmp 28) 3 1, none⟩,
                                        ⟨some 30, .load false 1 (.tmp 29), none⟩,
                                        ⟨some 31, .conv .i64 (.tmp 30), none⟩,
                                        ⟨some 32, .bin 0 .rem (.tmp 31) (.const (.int .i64 20)), none⟩,
                                        ⟨some 33, .bin 0 .lss (.tmp 26) (.tmp 32), none⟩])
                                      (.cond (.tmp 33)
                                        .skip
                                        (.exit 2)))
                                    (.seq
                                      (.block 3
                                        (.seq
                                          (.region false [
                                            ⟨some 36, .move (.tmp 5), none⟩,
                                            ⟨some 37, .move (.tmp 7), none⟩,
                                            ⟨some 38, .load true 2 (.tmp 2), none⟩,
                                            ⟨some 39, .buildSlice 1 2 [.int .i64 0, .int .i64 0] [(0, (.tmp 38))], none⟩,
                                            ⟨some 40, .call false (.const (.fn 404 [])) [(.tmp 36), (.tmp 37), (.tmp 39)] [], none⟩,
                                            ⟨some 41, .bin 0 .neq (.tmp 40) (.const (.int .i64 0)), none⟩])
                                          (.cond (.tmp 41)
                                            (.seq
                                              (.region false [
                                                ⟨some 4, .assign (.const (.bool false)), none⟩])
                                              .ret)
                                            .skip)))
                                      (.region false [
                                        ⟨some 34, .move (.tmp 8), none⟩,
                                        ⟨some 35, .bin 0 .add (.tmp 34) (.const (.int .i64 1)), none⟩,
                                        ⟨some 8, .assign (.tmp 35), none⟩])))))))
                          (.region false [
                            ⟨some 24, .move (.tmp 7), none⟩,
                            ⟨some 25, .bin 0 .add (.tmp 24) (.const (.int .i64 1)), none⟩,
                            ⟨some 7, .assign (.tmp 25), none⟩]))))))
                (.seq
                  (.seq
                    (.region false [
                      ⟨some 9, .assign (.const (.int .i64 1)), none⟩])
                    (.block 4
                      (.loop [2, 3, 5, 9]
                        (.seq
                          (.seq
                            (.region false [
                              ⟨some 42, .move (.tmp 9), none⟩,
                              ⟨some 43, .bin 0 .leq (.tmp 42) (.const (.int .i64 3)), none⟩])
                            (.cond (.tmp 43)
                              .skip
                              (.exit 4)))
                          (.seq
                            (.block 5
                              (.seq
                                (.region false [
                                  ⟨some 46, .move (.tmp 9), none⟩,
                                  ⟨some 47, .bin 0 .sub (.tmp 46) (.const (.int .i64 1)), none⟩,
                                  ⟨some 48, .idxArr (.tmp 3) (.tmp 47) 3 1, none⟩,
                                  ⟨some 49, .load false 1 (.tmp 48), none⟩,
                                  ⟨some 50, .conv .i64 (.tmp 49), none⟩,
                                  ⟨some 51, .bin 0 .rem (.tmp 50) (.const (.int .i64 20)), none⟩,
                                  ⟨some 10, .assign (.tmp 51), none⟩])
                                (.seq
                                  (.region false [
                                    ⟨some 52, .move (.tmp 10), none⟩,
                                    ⟨some 53, .bin 0 .gtr (.tmp 52) (.const (.int .i64 0)), none⟩,
                                    ⟨some 54, .move (.tmp 53), none⟩,
                                    ⟨some 55, .move (.tmp 5), (some (54, true))⟩,
                                    ⟨some 56, .load true 2 (.tmp 2), (some (54, true))⟩,
                                    ⟨some 57, .call true (.const (.fn 401 [])) [(.tmp 55), (.tmp 56)] [], (some (54, true))⟩,
                                    ⟨some 58, .un .not (.tmp 57), (some (54, true))⟩,
                                    ⟨some 59, .move (.tmp 58), (some (54, true))⟩,
                                    ⟨some 60, .move (.tmp 5), (some (59, false))⟩,
                                    ⟨some 61, .load true 2 (.tmp 2), (some (59, false))⟩,
                                    ⟨some 62, .move (.tmp 9), (some (59, false))⟩,
                                    ⟨some 63, .move (.tmp 10), (some (59, false))⟩,
                                    ⟨some 64, .call false (.const (.fn 405 [])) [(.tmp 60), (.tmp 61), (.tmp 62), (.tmp 63)] [], (some (59, false))⟩,
                                    ⟨some 65, .bin 0 .neq (.tmp 64) (.const (.int .i64 0)), (some (59, false))⟩,
                                    ⟨some 66, .pick (.tmp 59) (.const (.bool true)) (.tmp 65), (some (54, true))⟩,
                                    ⟨some 67, .pick (.tmp 54) (.tmp 66) (.const (.bool false)), none⟩])
                                  (.cond (.tmp 67)
                                    (.seq
                                      (.region false [
                                        ⟨some 4, .assign (.const (.bool false)), none⟩])
                                      .ret)
                                    .skip))))
                            (.region false [
                              ⟨some 44, .move (.tmp 9), none⟩,
                              ⟨some 45, .bin 0 .add (.tmp 44) (.const (.int .i64 1)), none⟩,
                              ⟨some 9, .assign (.tmp 45), none⟩]))))))
                  (.seq
                    (.region false [
                      ⟨some 68, .faddr (.tmp 2) 1, none⟩,
                      ⟨some 69, .load false 1 (.tmp 68), none⟩,
                      ⟨some 70, .build [.int .i64 0, .int .i64 0] [(0, 1, (.const (.int .i64 2))), (1, 1, (.tmp 69))], none⟩,
                      ⟨some 11, .box 2 (.const (.agg [.int .i64 0, .int .i64 0])), none⟩,
                      ⟨none, .store 2 (.tmp 11) (.tmp 70), none⟩])
                    (.seq
                      (.seq
                        (.region false [
                          ⟨some 12, .assign (.const (.int .i64 0)), none⟩])
                        (.block 6
                          (.loop [2, 3, 5, 11, 12]
                            (.seq
                              (.seq
                                (.region false [
                                  ⟨some 71, .move (.tmp 12), none⟩,
                                  ⟨some 72, .idxArr (.tmp 3) (.const (.int .i64 0)) 3 1, none⟩,
                                  ⟨some 73, .load false 1 (.tmp 72), none⟩,
                                  ⟨some 74, .conv .i64 (.tmp 73), none⟩,
                                  ⟨some 75, .bin 0 .rem (.tmp 74) (.const (.int .i64 20)), none⟩,
                                  ⟨some 76, .bin 0 .lss (.tmp 71) (.tmp 75), none⟩])
                                (.cond (.tmp 76)
                                  .skip
                                  (.exit 6)))
                              (.seq
                                (.block 7
                                  (.seq
                                    (.region false [
                                      ⟨some 79, .move (.tmp 5), none⟩,
                                      ⟨some 80, .load true 2 (.tmp 11), none⟩,
                                      ⟨some 81, .load true 2 (.tmp 2), none⟩,
                                      ⟨some 82, .buildSlice 2 2 [.int .i64 0, .int .i64 0] [(0, (.tmp 80)), (1, (.tmp 81))], none⟩,
                                      ⟨some 83, .call false (.const (.fn 406 [])) [(.tmp 79), (.tmp 82)] [], none⟩,
                                      ⟨some 84, .bin 0 .neq (.tmp 83) (.const (.int .i64 0)), none⟩])
                                    (.cond (.tmp 84)
                                      (.seq
                                        (.region false [
                                          ⟨some 4, .assign (.const (.bool false)), none⟩])
                                        .ret)
                                      .skip)))
                                (.region false [
                                  ⟨some 77, .move (.tmp 12), none⟩,
                                  ⟨some 78, .bin 0 .add (.tmp 77) (.const (.int .i64 1)), none⟩,
                                  ⟨some 12, .assign (.tmp 78), none⟩]))))))
                      (.seq
                        (.region true [
                          ⟨some 85, .move (.tmp 5), none⟩,
                          ⟨some 86, .load true 2 (.tmp 2), none⟩,
                          ⟨some 87, .call true (.const (.fn 401 [])) [(.tmp 85), (.tmp 86)] [], none⟩,
                          ⟨some 88, .un .not (.tmp 87), none⟩,
                          ⟨some 89, .move (.tmp 88), none⟩,
                          ⟨some 90, .move (.tmp 5), (some (89, true))⟩,
                          ⟨some 91, .call true (.const (.fn 397 [])) [(.tmp 90)] [], (some (89, true))⟩,
                          ⟨some 92, .len false (.tmp 91), (some (89, true))⟩,
                          ⟨some 93, .bin 0 .eql (.tmp 92) (.const (.int .i64 0)), (some (89, true))⟩,
                          ⟨some 94, .pick (.tmp 89) (.tmp 93) (.const (.bool false)), none⟩,
                          ⟨some 95, .move (.tmp 94), none⟩,
                          ⟨some 96, .move (.tmp 5), (some (95, true))⟩,
                          ⟨some 97, .load true 2 (.tmp 11), (some (95, true))⟩,
                          ⟨some 98, .call true (.const (.fn 407 [])) [(.tmp 96), (.tmp 97)] [], (some (95, true))⟩,
                          ⟨some 99, .idxArr (.tmp 3) (.const (.int .i64 0)) 3 1, (some (95, true))⟩,
                          ⟨some 100, .load false 1 (.tmp 99), (some (95, true))⟩,
                          ⟨some 101, .conv .i64 (.tmp 100), (some (95, true))⟩,
                          ⟨some 102, .bin 0 .rem (.tmp 101) (.const (.int .i64 20)), (some (95, true))⟩,
                          ⟨some 103, .bin 0 .eql (.tmp 98) (.tmp 102), (some (95, true))⟩,
                          ⟨some 104, .pick (.tmp 95) (.tmp 103) (.const (.bool false)), none⟩,
                          ⟨some 105, .move (.tmp 104), none⟩,
                          ⟨some 106, .move (.tmp 5), (some (105, true))⟩,
                          ⟨some 107, .load true 2 (.tmp 2), (some (105, true))⟩,
                          ⟨some 108, .call true (.const (.fn 407 [])) [(.tmp 106), (.tmp 107)] [], (some (105, true))⟩,
                          ⟨some 109, .bin 0 .eql (.tmp 108) (.const (.int .i64 0)), (some (105, true))⟩,
                          ⟨some 110, .pick (.tmp 105) (.tmp 109) (.const (.bool false)), none⟩,
                          ⟨some 111, .move (.tmp 110), none⟩,
                          ⟨some 112, .move (.tmp 5), (some (111, true))⟩,
                          ⟨some 113, .load true 2 (.tmp 11), (some (111, true))⟩,
                          ⟨some 114, .call false (.const (.fn 408 [])) [(.tmp 112), (.tmp 113)] [], (some (111, true))⟩,
                          ⟨some 115, .idxArr (.tmp 3) (.const (.int .i64 0)) 3 1, (some (111, true))⟩,
                          ⟨some 116, .loadB false 1 (.tmp 115), (some (111, true))⟩,
                          ⟨some 117, .conv .i64 (.tmp 116), (some (111, true))⟩,
                          ⟨some 118, .bin 0 .rem (.tmp 117) (.const (.int .i64 20)), (some (111, true))⟩,
                          ⟨some 119, .bin 0 .eql (.tmp 114) (.tmp 118), (some (111, true))⟩,
                          ⟨some 120, .pick (.tmp 111) (.tmp 119) (.const (.bool false)), none⟩,
                          ⟨some 121, .move (.tmp 120), none⟩,
                          ⟨some 122, .move (.tmp 5), (some (121, true))⟩,
                          ⟨some 123, .load true 2 (.tmp 11), (some (121, true))⟩,
                          ⟨some 124, .call false (.const (.fn 408 [])) [(.tmp 122), (.tmp 123)] [], (some (121, true))⟩,
                          ⟨some 125, .bin 0 .eql (.tmp 124) (.const (.int .i64 0)), (some (121, true))⟩,
                          ⟨some 126, .pick (.tmp 121) (.tmp 125) (.const (.bool false)), none⟩,
                          ⟨some 127, .move (.tmp 126), none⟩,
                          ⟨some 128, .move (.tmp 5), (some (127, true))⟩,
                          ⟨some 129, .call true (.const (.fn 409 [])) [(.tmp 128)] [], (some (127, true))⟩,
                          ⟨some 130, .len false (.tmp 129), (some (127, true))⟩,
                          ⟨some 131, .bin 0 .eql (.tmp 130) (.const (.int .i64 0)), (some (127, true))⟩,
                          ⟨some 132, .pick (.tmp 127) (.tmp 131) (.const (.bool false)), none⟩,
                          ⟨some 4, .assign (.tmp 132), none⟩])
                        .ret)))))))))) }
/-- purlin/purlinlaw16.live -/
def tf395 : TFn := { ntmps := 69, results := [.tmp 0], body :=
    (.seq
      (.region false [
        ⟨some 0, .assign (.const (.bool false)), none⟩])
      (.seq
        (.region false [
          ⟨some 10, .call false (.const (.fn 399 [])) [(.const (.int .i64 0)), (.const (.int .i64 3))] [], none⟩,
          ⟨some 9, .move (.tmp 10), none⟩,
          ⟨some 11, .extract (.tmp 9) 0, none⟩,
          ⟨some 12, .extract (.tmp 9) 1, none⟩,
          ⟨some 1, .assign (.tmp 11), none⟩,
          ⟨some 2, .assign (.tmp 12), none⟩])
        (.seq
          (.seq
            (.region false [
              ⟨some 13, .move (.tmp 2), none⟩,
              ⟨some 14, .bin 0 .neq (.tmp 13) (.const (.int .i64 0)), none⟩,
              ⟨some 15, .move (.tmp 14), none⟩,
              ⟨some 16, .move (.tmp 1), (some (15, false))⟩,
              ⟨some 17, .bin 2 .eql (.tmp 16) (.const .nilptr), (some (15, false))⟩,
              ⟨some 18, .pick (.tmp 15) (.const (.bool true)) (.tmp 17), none⟩])
            (.cond (.tmp 18)
              (.seq
                (.region false [
                  ⟨some 0, .assign (.const (.bool false)), none⟩])
                .ret)
              .skip))
          (.seq
            (.region false [
              ⟨some 19, .build [.int .i64 0, .int .i64 0] [(1, 1, (.const (.int .i64 1)))], none⟩,
              ⟨some 3, .box 2 (.const (.agg [.int .i64 0, .int .i64 0])), none⟩,
              ⟨none, .store 2 (.tmp 3) (.tmp 19), none⟩])
            (.seq
              (.region false [
                ⟨some 20, .move (.tmp 1), none⟩,
                ⟨some 21, .load true 2 (.tmp 3), none⟩,
                ⟨some 22, .call false (.const (.fn 405 [])) [(.tmp 20), (.tmp 21), (.const (.int .i64 2)), (.const (.int .i64 1))] [], none⟩,
                ⟨some 4, .assign (.tmp 22), none⟩])
              (.seq
                (.region false [
                  ⟨some 23, .move (.tmp 1), none⟩,
                  ⟨some 24, .load true 2 (.tmp 3), none⟩,
                  ⟨some 25, .call true (.const (.fn 401 [])) [(.tmp 23), (.tmp 24)] [], none⟩,
                  ⟨some 5, .assign (.tmp 25), none⟩])
                (.seq
                  (.region false [
                    ⟨some 26, .move (.tmp 1), none⟩,
                    ⟨some 27, .load true 2 (.tmp 3), none⟩,
                    ⟨some 28, .call false (.const (.fn 411 [])) [(.tmp 26), (.tmp 27), (.const (.int .i64 2))] [], none⟩,
                    ⟨some 6, .assign (.tmp 28), none⟩])
                  (.seq
                    (.region false [
                      ⟨some 29, .move (.tmp 1), none⟩,
                      ⟨some 30, .load true 2 (.tmp 3), none⟩,
                      ⟨some 31, .load true 2 (.tmp 3), none⟩,
                      ⟨some 32, .buildSlice 2 2 [.int .i64 0, .int .i64 0] [(0, (.tmp 30)), (1, (.tmp 31))], none⟩,
                      ⟨some 33, .call false (.const (.fn 404 [])) [(.tmp 29), (.const (.int .i64 1)), (.tmp 32)] [], none⟩,
                      ⟨some 7, .assign (.tmp 33), none⟩])
                    (.seq
                      (.region false [
                        ⟨some 34, .move (.tmp 1), none⟩,
                        ⟨some 35, .call true (.const (.fn 397 [])) [(.tmp 34)] [], none⟩,
                        ⟨some 8, .assign (.tmp 35), none⟩])
                      (.seq
                        (.region true [
                          ⟨some 36, .move (.tmp 4), none⟩,
                          ⟨some 37, .bin 0 .eql (.tmp 36) (.const (.int .i64 0)), none⟩,
                          ⟨some 38, .move (.tmp 37), none⟩,
                          ⟨some 39, .move (.tmp 5), (some (38, true))⟩,
                          ⟨some 40, .pick (.tmp 38) (.tmp 39) (.const (.bool false)), none⟩,
                          ⟨some 41, .move (.tmp 40), none⟩,
                          ⟨some 42, .move (.tmp 6), (some (41, true))⟩,
                          ⟨some 43, .bin 0 .eql (.tmp 42) (.const (.int .i64 0)), (some (41, true))⟩,
                          ⟨some 44, .pick (.tmp 41) (.tmp 43) (.const (.bool false)), none⟩,
                          ⟨some 45, .move (.tmp 44), none⟩,
                          ⟨some 46, .move (.tmp 7), (some (45, true))⟩,
                          ⟨some 47, .bin 0 .eql (.tmp 46) (.const (.int .i64 0)), (some (45, true))⟩,
                          ⟨some 48, .pick (.tmp 45) (.tmp 47) (.const (.bool false)), none⟩,
                          ⟨some 49, .move (.tmp 48), none⟩,
                          ⟨some 50, .move (.tmp 8), (some (49, true))⟩,
                          ⟨some 51, .len false (.tmp 50), (some (49, true))⟩,
                          ⟨some 52, .bin 0 .eql (.tmp 51) (.const (.int .i64 1)), (some (49, true))⟩,
                          ⟨some 53, .pick (.tmp 49) (.tmp 52) (.const (.bool false)), none⟩,
                          ⟨some 54, .move (.tmp 53), none⟩,
                          ⟨some 55, .move (.tmp 8), (some (54, true))⟩,
                          ⟨some 56, .idxAddr (.tmp 55) (.const (.int .i64 0)) 4, (some (54, true))⟩,
                          ⟨some 57, .load true 4 (.tmp 56), (some (54, true))⟩,
                          ⟨some 58, .load true 2 (.tmp 3), (some (54, true))⟩,
                          ⟨some 59, .build [.int .i64 0, .int .i64 0, .int .i64 0, .int .i64 0] [(0, 2, (.tmp 58)), (2, 1, (.const (.int .i64 1))), (3, 1, (.const (.int .i64 2)))], (some (54, true))⟩,
                          ⟨some 60, .eqAgg false 85103 (.tmp 57) (.tmp 59), (some (54, true))⟩,
                          ⟨some 61, .pick (.tmp 54) (.tmp 60) (.const (.bool false)), none⟩,
                          ⟨some 62, .move (.tmp 61), none⟩,
                          ⟨some 63, .move (.tmp 1), (some (62, true))⟩,
                          ⟨some 64, .load true 2 (.tmp 3), (some (62, true))⟩,
                          ⟨some 65, .buildSlice 1 2 [.int .i64 0, .int .i64 0] [(0, (.tmp 64))], (some (62, true))⟩,
                          ⟨some 66, .call false (.const (.fn 404 [])) [(.tmp 63), (.const (.int .i64 0)), (.tmp 65)] [], (some (62, true))⟩,
                          ⟨some 67, .bin 0 .eql (.tmp 66) (.const (.int .i64 2)), (some (62, true))⟩,
                          ⟨some 68, .pick (.tmp 62) (.tmp 67) (.const (.bool false)), none⟩,
                          ⟨some 0, .assign (.tmp 68), none⟩])
                        .ret)))))))))) }
/-- (*purlin/refs.Table).Exports -/
def tf397 : TFn := { ntmps := 10, results := [.tmp 2], body :=
    (.seq
      (.region false [
        ⟨some 2, .assign (.const (.sl true 0 4 [] [])), none⟩])
      (.seq
        (.seq
          (.region false [
            ⟨some 3, .move (.tmp 0), none⟩,
            ⟨some 4, .bin 2 .eql (.tmp 3) (.const .nilptr), none⟩])
          (.cond (.tmp 4)
            (.seq
              (.region false [
                ⟨some 2, .assign (.const (.sl true 0 4 [] [])), none⟩])
              .ret)
            .skip))
        (.seq
          (.region false [
            ⟨some 5, .move (.tmp 0), none⟩,
            ⟨some 6, .nilCheck (.tmp 5), none⟩,
            ⟨some 7, .faddr (.tmp 6) 2, none⟩,
            ⟨some 8, .load false 1 (.tmp 7), none⟩,
            ⟨some 9, .call true (.const (.fn 418 [])) [(.tmp 8)] [], none⟩,
            ⟨some 2, .assign (.tmp 9), none⟩])
          .ret))) }
/-- purlin/refs.New -/
def tf399 : TFn := { ntmps := 27, results := [.tmp 4, .tmp 5], body :=
    (.seq
      (.region false [
        ⟨some 4, .assign (.const .nilptr), none⟩,
        ⟨some 5, .assign (.const (.int .i64 0)), none⟩])
      (.seq
        (.region false [
          ⟨some 7, .move (.tmp 0), none⟩,
          ⟨some 8, .move (.tmp 1), none⟩,
          ⟨some 9, .build [.int .i64 0, .int .i64 0] [(0, 1, (.tmp 7)), (1, 1, (.tmp 8))], none⟩,
          ⟨some 6, .box 2 (.const (.agg [.int .i64 0, .int .i64 0])), none⟩,
          ⟨none, .store 2 (.tmp 6) (.tmp 9), none⟩])
        (.seq
          (.seq
            (.region false [
              ⟨some 10, .move (.tmp 1), none⟩,
              ⟨some 11, .bin 0 .lss (.tmp 10) (.const (.int .i64 1)), none⟩,
              ⟨some 12, .move (.tmp 11), none⟩,
              ⟨some 13, .move (.tmp 1), (some (12, false))⟩,
              ⟨some 14, .bin 0 .gtr (.tmp 13) (.const (.int .i64 4)), (some (12, false))⟩,
              ⟨some 15, .pick (.tmp 12) (.const (.bool true)) (.tmp 14), none⟩,
              ⟨some 16, .move (.tmp 15), none⟩,
              ⟨some 17, .load true 2 (.tmp 6), (some (16, false))⟩,
              ⟨some 18, .move (.tmp 0), (some (16, false))⟩,
              ⟨some 19, .call true (.const (.fn 419 [])) [(.tmp 17), (.tmp 18)] [], (some (16, false))⟩,
              ⟨some 20, .un .not (.tmp 19), (some (16, false))⟩,
              ⟨some 21, .pick (.tmp 16) (.const (.bool true)) (.tmp 20), none⟩])
            (.cond (.tmp 21)
              (.seq
                (.region false [
                  ⟨some 4, .assign (.const .nilptr), none⟩,
                  ⟨some 5, .assign (.const (.int .i64 2)), none⟩])
                .ret)
              .skip))
          (.seq
            (.region false [
              ⟨some 22, .load true 2 (.tmp 6), none⟩,
              ⟨some 23, .mkmap, none⟩,
              ⟨some 24, .mkmap, none⟩,
              ⟨some 25, .build [.int .i64 0, .int .i64 0, .nilmap, .nilmap] [(0, 2, (.tmp 22)), (2, 1, (.tmp 23)), (3, 1, (.tmp 24))], none⟩,
              ⟨some 26, .new 4 (.tmp 25), none⟩,
              ⟨some 4, .assign (.tmp 26), none⟩,
              ⟨some 5, .assign (.const (.int .i64 0)), none⟩])
            .ret)))) }
/-- (*purlin/refs.Table).Sent -/
def tf404 : TFn := { ntmps := 39, results := [.tmp 6], body :=
    (.seq
      (.region false [
        ⟨some 3, .box 1 (.tmp 0), none⟩,
        ⟨some 6, .assign (.const (.int .i64 0)), none⟩])
      (.seq
        (.block 0
          (.seq
            (.region false [
              ⟨some 10, .load false 1 (.tmp 3), none⟩,
              ⟨some 11, .bin 2 .eql (.tmp 10) (.const .nilptr), none⟩,
              ⟨some 9, .assign (.tmp 11), none⟩])
            (.cond (.tmp 9)
              (.seq
                (.region false [
                  ⟨some 6, .assign (.const (.int .i64 1)), none⟩])
                .ret)
              (.seq
                (.region false [
                  ⟨some 13, .load false 1 (.tmp 3), none⟩,
                  ⟨some 14, .nilCheck (.tmp 13), none⟩,
                  ⟨some 15, .faddr (.tmp 14) 0, none⟩,
                  ⟨some 16, .load true 2 (.tmp 15), none⟩,
                  ⟨some 17, .move (.tmp 1), none⟩,
                  ⟨some 18, .call true (.const (.fn 421 [])) [(.tmp 16), (.tmp 17)] [], none⟩,
                  ⟨some 19, .un .not (.tmp 18), none⟩,
                  ⟨some 12, .assign (.tmp 19), none⟩])
                (.cond (.tmp 12)
                  (.seq
                    (.region false [
                      ⟨some 6, .assign (.const (.int .i64 2)), none⟩])
                    .ret)
                  (.seq
                    (.region false [
                      ⟨some 21, .move (.tmp 2), none⟩,
                      ⟨some 22, .makeFunc 422 [(.tmp 3)], none⟩,
                      ⟨some 23, .call true (.const (.fn 174 [])) [(.tmp 21), (.tmp 22)] [], none⟩,
                      ⟨some 20, .assign (.tmp 23), none⟩])
                    (.cond (.tmp 20)
                      (.seq
                        (.region false [
                          ⟨some 6, .assign (.const (.int .i64 4)), none⟩])
                        .ret)
                      .skip)))))))
        (.seq
          (.seq
            (.region false [
              ⟨some 24, .move (.tmp 2), none⟩,
              ⟨some 25, .len false (.tmp 24), none⟩,
              ⟨some 26, .move (.const (.int .i64 0)), none⟩])
            (.block 1
              (.loop [1, 3, 24, 25, 26]
                (.seq
                  (.region false [
                    ⟨some 27, .bin 0 .lss (.tmp 26) (.tmp 25), none⟩])
                  (.seq
                    (.cond (.tmp 27)
                      .skip
                      (.exit 1))
                    (.seq
                      (.block 2
                        (.seq
                          (.region false [
                            ⟨some 28, .idxAddr (.tmp 24) (.tmp 26) 2, none⟩,
                            ⟨some 29, .load true 2 (.tmp 28), none⟩,
                            ⟨some 8, .box 2 (.const (.agg [.int .i64 0, .int .i64 0])), none⟩,
                            ⟨none, .store 2 (.tmp 8) (.tmp 29), none⟩])
                          (.region true [
                            ⟨some 30, .load false 1 (.tmp 3), none⟩,
                            ⟨some 31, .nilCheck (.tmp 30), none⟩,
                            ⟨some 32, .faddr (.tmp 31) 2, none⟩,
                            ⟨some 33, .load false 1 (.tmp 32), none⟩,
                            ⟨some 34, .load true 2 (.tmp 8), none⟩,
                            ⟨some 35, .move (.tmp 1), none⟩,
                            ⟨some 36, .build [.int .i64 0, .int .i64 0, .int .i64 0] [(0, 2, (.tmp 34)), (2, 1, (.tmp 35))], none⟩,
                            ⟨some 37, .call false (.const (.fn 423 [])) [(.tmp 33), (.tmp 36), (.const (.int .i64 1))] [], none⟩])))
                      (.region false [
                        ⟨some 38, .bin 0 .add (.tmp 26) (.const (.int .i64 1)), none⟩,
                        ⟨some 26, .move (.tmp 38), none⟩])))))))
          (.seq
            (.region false [
              ⟨some 6, .assign (.const (.int .i64 0)), none⟩])
            .ret)))) }
/-- (*purlin/refs.Table).Released -/
def tf405 : TFn := { ntmps := 47, results := [.tmp 8], body :=
    (.seq
      (.region false [
        ⟨some 5, .box 2 (.tmp 1), none⟩,
        ⟨some 8, .assign (.const (.int .i64 0)), none⟩])
      (.seq
        (.block 0
          (.seq
            (.region false [
              ⟨some 10, .move (.tmp 0), none⟩,
              ⟨some 11, .bin 2 .eql (.tmp 10) (.const .nilptr), none⟩,
              ⟨some 9, .assign (.tmp 11), none⟩])
            (.cond (.tmp 9)
              (.seq
                (.region false [
                  ⟨some 8, .assign (.const (.int .i64 1)), none⟩])
                .ret)
              (.seq
                (.region false [
                  ⟨some 13, .move (.tmp 0), none⟩,
                  ⟨some 14, .nilCheck (.tmp 13), none⟩,
                  ⟨some 15, .faddr (.tmp 14) 0, none⟩,
                  ⟨some 16, .load true 2 (.tmp 15), none⟩,
                  ⟨some 17, .move (.tmp 2), none⟩,
                  ⟨some 18, .call true (.const (.fn 421 [])) [(.tmp 16), (.tmp 17)] [], none⟩,
                  ⟨some 19, .un .not (.tmp 18), none⟩,
                  ⟨some 20, .move (.tmp 19), none⟩,
                  ⟨some 21, .move (.tmp 3), (some (20, false))⟩,
                  ⟨some 22, .bin 0 .lss (.tmp 21) (.const (.int .i64 1)), (some (20, false))⟩,
                  ⟨some 23, .pick (.tmp 20) (.const (.bool true)) (.tmp 22), none⟩,
                  ⟨some 24, .move (.tmp 23), none⟩,
                  ⟨some 25, .move (.tmp 3), (some (24, false))⟩,
                  ⟨some 26, .bin 0 .gtr (.tmp 25) (.const (.int .i64 2147483647)), (some (24, false))⟩,
                  ⟨some 27, .pick (.tmp 24) (.const (.bool true)) (.tmp 26), none⟩,
                  ⟨some 12, .assign (.tmp 27), none⟩])
                (.cond (.tmp 12)
                  (.seq
                    (.region false [
                      ⟨some 8, .assign (.const (.int .i64 2)), none⟩])
                    .ret)
                  (.seq
                    (.region true [
                      ⟨some 29, .faddr (.tmp 5) 0, none⟩,
                      ⟨some 30, .load false 1 (.tmp 29), none⟩,
                      ⟨some 31, .move (.tmp 0), none⟩,
                      ⟨some 32, .nilCheck (.tmp 31), none⟩,
                      ⟨some 33, .faddr (.tmp 32) 0, none⟩,
                      ⟨some 34, .faddr (.tmp 33) 0, none⟩,
                      ⟨some 35, .load false 1 (.tmp 34), none⟩,
                      ⟨some 36, .bin 0 .neq (.tmp 30) (.tmp 35), none⟩,
                      ⟨some 28, .assign (.tmp 36), none⟩])
                    (.cond (.tmp 28)
                      (.seq
                        (.region false [
                          ⟨some 8, .assign (.const (.int .i64 4)), none⟩])
                        .ret)
                      .skip)))))))
        (.seq
          (.region true [
            ⟨some 37, .move (.tmp 0), none⟩,
            ⟨some 38, .nilCheck (.tmp 37), none⟩,
            ⟨some 39, .faddr (.tmp 38) 2, none⟩,
            ⟨some 40, .load false 1 (.tmp 39), none⟩,
            ⟨some 41, .load true 2 (.tmp 5), none⟩,
            ⟨some 42, .move (.tmp 2), none⟩,
            ⟨some 43, .build [.int .i64 0, .int .i64 0, .int .i64 0] [(0, 2, (.tmp 41)), (2, 1, (.tmp 42))], none⟩,
            ⟨some 44, .move (.tmp 3), none⟩,
            ⟨some 45, .un .neg (.tmp 44), none⟩,
            ⟨some 46, .call false (.const (.fn 423 [])) [(.tmp 40), (.tmp 43), (.tmp 45)] [], none⟩])
          (.seq
            (.region false [
              ⟨some 8, .assign (.const (.int .i64 0)), none⟩])
            .ret)))) }
/-- (*purlin/refs.Table).Got -/
def tf406 : TFn := { ntmps := 38, results := [.tmp 4], body :=
    (.seq
      (.region false [
        ⟨some 2, .box 1 (.tmp 0), none⟩,
        ⟨some 4, .assign (.const (.int .i64 0)), none⟩])
      (.seq
        (.block 0
          (.seq
            (.region false [
              ⟨some 8, .load false 1 (.tmp 2), none⟩,
              ⟨some 9, .bin 2 .eql (.tmp 8) (.const .nilptr), none⟩,
              ⟨some 7, .assign (.tmp 9), none⟩])
            (.cond (.tmp 7)
              (.seq
                (.region false [
                  ⟨some 4, .assign (.const (.int .i64 1)), none⟩])
                .ret)
              (.seq
                (.region false [
                  ⟨some 11, .move (.tmp 1), none⟩,
                  ⟨some 12, .makeFunc 424 [(.tmp 2)], none⟩,
                  ⟨some 13, .call true (.const (.fn 174 [])) [(.tmp 11), (.tmp 12)] [], none⟩,
                  ⟨some 10, .assign (.tmp 13), none⟩])
                (.cond (.tmp 10)
                  (.seq
                    (.region false [
                      ⟨some 4, .assign (.const (.int .i64 4)), none⟩])
                    .ret)
                  .skip)))))
        (.seq
          (.seq
            (.region false [
              ⟨some 14, .move (.tmp 1), none⟩,
              ⟨some 15, .len false (.tmp 14), none⟩,
              ⟨some 16, .move (.const (.int .i64 0)), none⟩])
            (.block 1
              (.loop [2, 14, 15, 16]
                (.seq
                  (.region false [
                    ⟨some 17, .bin 0 .lss (.tmp 16) (.tmp 15), none⟩])
                  (.seq
                    (.cond (.tmp 17)
                      .skip
                      (.exit 1))
                    (.seq
                      (.block 2
                        (.seq
                          (.region false [
                            ⟨some 18, .idxAddr (.tmp 14) (.tmp 16) 2, none⟩,
                            ⟨some 19, .load true 2 (.tmp 18), none⟩,
                            ⟨some 6, .box 2 (.const (.agg [.int .i64 0, .int .i64 0])), none⟩,
                            ⟨none, .store 2 (.tmp 6) (.tmp 19), none⟩])
                          (.seq
                            (.region true [
                              ⟨some 20, .faddr (.tmp 6) 0, none⟩,
                              ⟨some 21, .load false 1 (.tmp 20), none⟩,
                              ⟨some 22, .load false 1 (.tmp 2), none⟩,
                              ⟨some 23, .nilCheck (.tmp 22), none⟩,
                              ⟨some 24, .faddr (.tmp 23) 0, none⟩,
                              ⟨some 25, .faddr (.tmp 24) 0, none⟩,
                              ⟨some 26, .load false 1 (.tmp 25), none⟩,
                              ⟨some 27, .bin 0 .neq (.tmp 21) (.tmp 26), none⟩])
                            (.cond (.tmp 27)
                              (.region true [
                                ⟨some 28, .load false 1 (.tmp 2), none⟩,
                                ⟨some 29, .nilCheck (.tmp 28), none⟩,
                                ⟨some 30, .faddr (.tmp 29) 3, none⟩,
                                ⟨some 31, .load false 1 (.tmp 30), none⟩,
                                ⟨some 32, .load true 2 (.tmp 6), none⟩,
                                ⟨some 33, .faddr (.tmp 6) 0, none⟩,
                                ⟨some 34, .load false 1 (.tmp 33), none⟩,
                                ⟨some 35, .build [.int .i64 0, .int .i64 0, .int .i64 0] [(0, 2, (.tmp 32)), (2, 1, (.tmp 34))], none⟩,
                                ⟨some 36, .call false (.const (.fn 423 [])) [(.tmp 31), (.tmp 35), (.const (.int .i64 1))] [], none⟩])
                              .skip))))
                      (.region false [
                        ⟨some 37, .bin 0 .add (.tmp 16) (.const (.int .i64 1)), none⟩,
                        ⟨some 16, .move (.tmp 37), none⟩])))))))
          (.seq
            (.region false [
              ⟨some 4, .assign (.const (.int .i64 0)), none⟩])
            .ret)))) }
/-- (*purlin/refs.Table).Held -/
def tf407 : TFn := { ntmps := 16, results := [.tmp 4], body :=
    (.seq
      (.region false [
        ⟨some 3, .box 2 (.tmp 1), none⟩,
        ⟨some 4, .assign (.const (.int .i64 0)), none⟩])
      (.seq
        (.seq
          (.region false [
            ⟨some 5, .move (.tmp 0), none⟩,
            ⟨some 6, .bin 2 .eql (.tmp 5) (.const .nilptr), none⟩])
          (.cond (.tmp 6)
            (.seq
              (.region false [
                ⟨some 4, .assign (.const (.int .i64 0)), none⟩])
              .ret)
            .skip))
        (.seq
          (.region true [
            ⟨some 7, .move (.tmp 0), none⟩,
            ⟨some 8, .nilCheck (.tmp 7), none⟩,
            ⟨some 9, .faddr (.tmp 8) 3, none⟩,
            ⟨some 10, .load false 1 (.tmp 9), none⟩,
            ⟨some 11, .load true 2 (.tmp 3), none⟩,
            ⟨some 12, .faddr (.tmp 3) 0, none⟩,
            ⟨some 13, .load false 1 (.tmp 12), none⟩,
            ⟨some 14, .build [.int .i64 0, .int .i64 0, .int .i64 0] [(0, 2, (.tmp 11)), (2, 1, (.tmp 13))], none⟩,
            ⟨some 15, .lookup 21104 (.int .i64 0) false (.tmp 10) (.tmp 14), none⟩,
            ⟨some 4, .assign (.tmp 15), none⟩])
          .ret))) }
/-- (*purlin/refs.Table).Free -/
def tf408 : TFn := { ntmps := 20, results := [.tmp 4], body :=
    (.seq
      (.region false [
        ⟨some 3, .box 2 (.tmp 1), none⟩,
        ⟨some 4, .assign (.const (.int .i64 0)), none⟩])
      (.seq
        (.region false [
          ⟨some 6, .move (.tmp 0), none⟩,
          ⟨some 7, .load true 2 (.tmp 3), none⟩,
          ⟨some 8, .call true (.const (.fn 407 [])) [(.tmp 6), (.tmp 7)] [], none⟩,
          ⟨some 5, .assign (.tmp 8), none⟩])
        (.seq
          (.seq
            (.region false [
              ⟨some 9, .move (.tmp 5), none⟩,
              ⟨some 10, .bin 0 .gtr (.tmp 9) (.const (.int .i64 0)), none⟩])
            (.cond (.tmp 10)
              (.region true [
                ⟨some 11, .move (.tmp 0), none⟩,
                ⟨some 12, .nilCheck (.tmp 11), none⟩,
                ⟨some 13, .faddr (.tmp 12) 3, none⟩,
                ⟨some 14, .load false 1 (.tmp 13), none⟩,
                ⟨some 15, .load true 2 (.tmp 3), none⟩,
                ⟨some 16, .faddr (.tmp 3) 0, none⟩,
                ⟨some 17, .load false 1 (.tmp 16), none⟩,
                ⟨some 18, .build [.int .i64 0, .int .i64 0, .int .i64 0] [(0, 2, (.tmp 15)), (2, 1, (.tmp 17))], none⟩,
                ⟨none, .mapDel 21104 (.tmp 14) (.tmp 18), none⟩])
              .skip))
          (.seq
            (.region false [
              ⟨some 19, .move (.tmp 5), none⟩,
              ⟨some 4, .assign (.tmp 19), none⟩])
            .ret)))) }
/-- (*purlin/refs.Table).Imports -/
def tf409 : TFn := { ntmps := 10, results := [.tmp 2], body :=
    (.seq
      (.region false [
        ⟨some 2, .assign (.const (.sl true 0 4 [] [])), none⟩])
      (.seq
        (.seq
          (.region false [
            ⟨some 3, .move (.tmp 0), none⟩,
            ⟨some 4, .bin 2 .eql (.tmp 3) (.const .nilptr), none⟩])
          (.cond (.tmp 4)
            (.seq
              (.region false [
                ⟨some 2, .assign (.const (.sl true 0 4 [] [])), none⟩])
              .ret)
            .skip))
        (.seq
          (.region false [
            ⟨some 5, .move (.tmp 0), none⟩,
            ⟨some 6, .nilCheck (.tmp 5), none⟩,
            ⟨some 7, .faddr (.tmp 6) 3, none⟩,
            ⟨some 8, .load false 1 (.tmp 7), none⟩,
            ⟨some 9, .call true (.const (.fn 418 [])) [(.tmp 8)] [], none⟩,
            ⟨some 2, .assign (.tmp 9), none⟩])
          .ret))) }
/-- (*purlin/refs.Table).Added -/
def tf411 : TFn := { ntmps := 43, results := [.tmp 6], body :=
    (.seq
      (.region false [
        ⟨some 4, .box 2 (.tmp 1), none⟩,
        ⟨some 6, .assign (.const (.int .i64 0)), none⟩])
      (.seq
        (.block 0
          (.seq
            (.region false [
              ⟨some 8, .move (.tmp 0), none⟩,
              ⟨some 9, .bin 2 .eql (.tmp 8) (.const .nilptr), none⟩,
              ⟨some 7, .assign (.tmp 9), none⟩])
            (.cond (.tmp 7)
              (.seq
                (.region false [
                  ⟨some 6, .assign (.const (.int .i64 1)), none⟩])
                .ret)
              (.seq
                (.region false [
                  ⟨some 11, .move (.tmp 0), none⟩,
                  ⟨some 12, .nilCheck (.tmp 11), none⟩,
                  ⟨some 13, .faddr (.tmp 12) 0, none⟩,
                  ⟨some 14, .load true 2 (.tmp 13), none⟩,
                  ⟨some 15, .move (.tmp 2), none⟩,
                  ⟨some 16, .call true (.const (.fn 419 [])) [(.tmp 14), (.tmp 15)] [], none⟩,
                  ⟨some 17, .un .not (.tmp 16), none⟩,
                  ⟨some 10, .assign (.tmp 17), none⟩])
                (.cond (.tmp 10)
                  (.seq
                    (.region false [
                      ⟨some 6, .assign (.const (.int .i64 2)), none⟩])
                    .ret)
                  (.seq
                    (.region true [
                      ⟨some 19, .faddr (.tmp 4) 0, none⟩,
                      ⟨some 20, .load false 1 (.tmp 19), none⟩,
                      ⟨some 21, .move (.tmp 0), none⟩,
                      ⟨some 22, .nilCheck (.tmp 21), none⟩,
                      ⟨some 23, .faddr (.tmp 22) 0, none⟩,
                      ⟨some 24, .faddr (.tmp 23) 0, none⟩,
                      ⟨some 25, .load false 1 (.tmp 24), none⟩,
                      ⟨some 26, .bin 0 .neq (.tmp 20) (.tmp 25), none⟩,
                      ⟨some 18, .assign (.tmp 26), none⟩])
                    (.cond (.tmp 18)
                      (.seq
                        (.region false [
                          ⟨some 6, .assign (.const (.int .i64 4)), none⟩])
                        .ret)
                      (.seq
                        (.region false [
                          ⟨some 28, .move (.tmp 2), none⟩,
                          ⟨some 29, .move (.tmp 0), none⟩,
                          ⟨some 30, .nilCheck (.tmp 29), none⟩,
                          ⟨some 31, .faddr (.tmp 30) 0, none⟩,
                          ⟨some 32, .faddr (.tmp 31) 0, none⟩,
                          ⟨some 33, .load false 1 (.tmp 32), none⟩,
                          ⟨some 34, .bin 0 .neq (.tmp 28) (.tmp 33), none⟩,
                          ⟨some 27, .assign (.tmp 34), none⟩])
                        (.cond (.tmp 27)
                          (.region true [
                            ⟨some 35, .move (.tmp 0), none⟩,
                            ⟨some 36, .nilCheck (.tmp 35), none⟩,
                            ⟨some 37, .faddr (.tmp 36) 2, none⟩,
                            ⟨some 38, .load false 1 (.tmp 37), none⟩,
                            ⟨some 39, .load true 2 (.tmp 4), none⟩,
                            ⟨some 40, .move (.tmp 2), none⟩,
                            ⟨some 41, .build [.int .i64 0, .int .i64 0, .int .i64 0] [(0, 2, (.tmp 39)), (2, 1, (.tmp 40))], none⟩,
                            ⟨some 42, .call false (.const (.fn 423 [])) [(.tmp 38), (.tmp 41), (.const (.int .i64 1))] [], none⟩])
                          .skip)))))))))
        (.seq
          (.region false [
            ⟨some 6, .assign (.const (.int .i64 0)), none⟩])
          .ret))) }
/-- (purlin/refs.ring).is -/
def tf419 : TFn := { ntmps := 13, results := [.tmp 4], body :=
    (.seq
      (.region false [
        ⟨some 2, .box 2 (.tmp 0), none⟩,
        ⟨some 4, .assign (.const (.bool false)), none⟩])
      (.seq
        (.region false [
          ⟨some 5, .move (.tmp 1), none⟩,
          ⟨some 6, .bin 0 .geq (.tmp 5) (.const (.int .i64 0)), none⟩,
          ⟨some 7, .move (.tmp 6), none⟩,
          ⟨some 8, .move (.tmp 1), (some (7, true))⟩,
          ⟨some 9, .faddr (.tmp 2) 1, (some (7, true))⟩,
          ⟨some 10, .load false 1 (.tmp 9), (some (7, true))⟩,
          ⟨some 11, .bin 0 .lss (.tmp 8) (.tmp 10), (some (7, true))⟩,
          ⟨some 12, .pick (.tmp 7) (.tmp 11) (.const (.bool false)), none⟩,
          ⟨some 4, .assign (.tmp 12), none⟩])
        .ret)) }
/-- (purlin/refs.ring).isOther -/
def tf421 : TFn := { ntmps := 14, results := [.tmp 4], body :=
    (.seq
      (.region false [
        ⟨some 2, .box 2 (.tmp 0), none⟩,
        ⟨some 4, .assign (.const (.bool false)), none⟩])
      (.seq
        (.region false [
          ⟨some 5, .load true 2 (.tmp 2), none⟩,
          ⟨some 6, .move (.tmp 1), none⟩,
          ⟨some 7, .call true (.const (.fn 419 [])) [(.tmp 5), (.tmp 6)] [], none⟩,
          ⟨some 8, .move (.tmp 7), none⟩,
          ⟨some 9, .move (.tmp 1), (some (8, true))⟩,
          ⟨some 10, .faddr (.tmp 2) 0, (some (8, true))⟩,
          ⟨some 11, .load false 1 (.tmp 10), (some (8, true))⟩,
          ⟨some 12, .bin 0 .neq (.tmp 9) (.tmp 11), (some (8, true))⟩,
          ⟨some 13, .pick (.tmp 8) (.tmp 12) (.const (.bool false)), none⟩,
          ⟨some 4, .assign (.tmp 13), none⟩])
        .ret)) }
/-- slices.ContainsFunc[[]purlin/api.Name,purlin/api.Name] -/
def tf174 : TFn := { ntmps := 9, results := [.tmp 4], body :=
    (.seq
      (.region false [
        ⟨some 4, .assign (.const (.bool false)), none⟩])
      (.seq
        (.region false [
          ⟨some 5, .move (.tmp 0), none⟩,
          ⟨some 6, .move (.tmp 1), none⟩,
          ⟨some 7, .call true (.const (.fn 207 [])) [(.tmp 5), (.tmp 6)] [], none⟩,
          ⟨some 8, .bin 0 .geq (.tmp 7) (.const (.int .i64 0)), none⟩,
          ⟨some 4, .assign (.tmp 8), none⟩])
        .ret)) }
/-- (*purlin/refs.Table).Sent$1 -/
def tf422 : TFn := { ntmps := 12, results := [.tmp 3], body :=
    (.seq
      (.region false [
        ⟨some 2, .box 2 (.tmp 0), none⟩,
        ⟨some 3, .assign (.const (.bool false)), none⟩])
      (.seq
        (.region true [
          ⟨some 4, .faddr (.tmp 2) 0, none⟩,
          ⟨some 5, .load false 1 (.tmp 4), none⟩,
          ⟨some 6, .load false 1 (.tmp 1), none⟩,
          ⟨some 7, .nilCheck (.tmp 6), none⟩,
          ⟨some 8, .faddr (.tmp 7) 0, none⟩,
          ⟨some 9, .faddr (.tmp 8) 0, none⟩,
          ⟨some 10, .load false 1 (.tmp 9), none⟩,
          ⟨some 11, .bin 0 .neq (.tmp 5) (.tmp 10), none⟩,
          ⟨some 3, .assign (.tmp 11), none⟩])
        .ret)) }
/-- (purlin/refs.counts).add -/
def tf423 : TFn := { ntmps := 19, results := [], body :=
    (.seq
      (.region false [
        ⟨some 4, .box 3 (.tmp 1), none⟩])
      (.seq
        (.region true [
          ⟨some 6, .move (.tmp 0), none⟩,
          ⟨some 7, .load true 3 (.tmp 4), none⟩,
          ⟨some 8, .lookup 21104 (.int .i64 0) false (.tmp 6) (.tmp 7), none⟩,
          ⟨some 9, .move (.tmp 2), none⟩,
          ⟨some 10, .bin 0 .add (.tmp 8) (.tmp 9), none⟩,
          ⟨some 11, .mapEnt 21104 (.int .i64 0) (.tmp 6) (.tmp 7), none⟩,
          ⟨some 12, .extract (.tmp 11) 1, none⟩,
          ⟨none, .entPut (.tmp 6) (.tmp 12) (.tmp 10), none⟩])
        (.seq
          (.region false [
            ⟨some 13, .move (.tmp 0), none⟩,
            ⟨some 14, .load true 3 (.tmp 4), none⟩,
            ⟨some 15, .lookup 21104 (.int .i64 0) false (.tmp 13) (.tmp 14), none⟩,
            ⟨some 16, .bin 0 .eql (.tmp 15) (.const (.int .i64 0)), none⟩])
          (.cond (.tmp 16)
            (.region false [
              ⟨some 17, .move (.tmp 0), none⟩,
              ⟨some 18, .load true 3 (.tmp 4), none⟩,
              ⟨none, .mapDel 21104 (.tmp 17) (.tmp 18), none⟩])
            .skip)))) }
/-- (*purlin/refs.Table).Got$1 -/
def tf424 : TFn := { ntmps := 12, results := [.tmp 3], body :=
    (.seq
      (.region false [
        ⟨some 2, .box 2 (.tmp 0), none⟩,
        ⟨some 3, .assign (.const (.bool false)), none⟩])
      (.seq
        (.region true [
          ⟨some 4, .load false 1 (.tmp 1), none⟩,
          ⟨some 5, .nilCheck (.tmp 4), none⟩,
          ⟨some 6, .faddr (.tmp 5) 0, none⟩,
          ⟨some 7, .load true 2 (.tmp 6), none⟩,
          ⟨some 8, .faddr (.tmp 2) 0, none⟩,
          ⟨some 9, .load false 1 (.tmp 8), none⟩,
          ⟨some 10, .call true (.const (.fn 419 [])) [(.tmp 7), (.tmp 9)] [], none⟩,
          ⟨some 11, .un .not (.tmp 10), none⟩,
          ⟨some 3, .assign (.tmp 11), none⟩])
        .ret)) }
/-- slices.IndexFunc[[]purlin/api.Name,purlin/api.Name] -/
def tf207 : TFn := { ntmps := 19, results := [.tmp 4], body :=
    (.seq
      (.region false [
        ⟨some 4, .assign (.const (.int .i64 0)), none⟩])
      (.seq
        (.seq
          (.region false [
            ⟨some 6, .move (.tmp 0), none⟩,
            ⟨some 7, .len false (.tmp 6), none⟩,
            ⟨some 8, .move (.const (.int .i64 0)), none⟩])
          (.block 0
            (.loop [0, 1, 7, 8]
              (.seq
                (.region false [
                  ⟨some 9, .bin 0 .lss (.tmp 8) (.tmp 7), none⟩])
                (.seq
                  (.cond (.tmp 9)
                    .skip
                    (.exit 0))
                  (.seq
                    (.block 1
                      (.seq
                        (.region false [
                          ⟨some 10, .move (.tmp 8), none⟩,
                          ⟨some 5, .assign (.tmp 10), none⟩])
                        (.seq
                          (.region false [
                            ⟨some 11, .move (.tmp 1), none⟩,
                            ⟨some 12, .move (.tmp 0), none⟩,
                            ⟨some 13, .move (.tmp 5), none⟩,
                            ⟨some 14, .idxAddr (.tmp 12) (.tmp 13) 2, none⟩,
                            ⟨some 15, .load true 2 (.tmp 14), none⟩,
                            ⟨some 16, .call true (.tmp 11) [(.tmp 15)] [], none⟩])
                          (.cond (.tmp 16)
                            (.seq
                              (.region false [
                                ⟨some 17, .move (.tmp 5), none⟩,
                                ⟨some 4, .assign (.tmp 17), none⟩])
                              .ret)
                            .skip))))
                    (.region false [
                      ⟨some 18, .bin 0 .add (.tmp 8) (.const (.int .i64 1)), none⟩,
                      ⟨some 8, .move (.tmp 18), none⟩])))))))
        (.seq
          (.region false [
            ⟨some 4, .assign (.const (.int .i64 (-1))), none⟩])
          .ret))) }
def fnTable16 : List (Nat × TFn) := [(665, tf665), (395, tf395), (397, tf397), (399, tf399), (404, tf404), (405, tf405), (406, tf406), (407, tf407), (408, tf408), (409, tf409), (411, tf411), (419, tf419), (421, tf421), (174, tf174), (422, tf422), (423, tf423), (424, tf424), (207, tf207)]
def nuTable16 : List (Nat × Nat) := [(3, 663), (4, 664), (5, 665), (6, 666), (7, 667), (8, 668), (9, 395), (10, 398), (11, 396), (12, 397), (13, 399), (14, 400), (15, 401), (16, 402), (17, 403), (18, 404), (19, 405), (20, 406), (21, 407), (22, 408), (23, 409), (24, 410), (25, 411), (26, 412), (27, 413), (28, 414), (29, 415), (30, 416), (31, 417), (32, 418), (33, 419), (34, 420), (35, 421), (36, 174), (37, 422), (38, 423), (39, 424), (40, 425), (41, 426), (42, 189), (43, 427), (44, 428), (45, 429), (46, 430), (47, 431), (48, 195), (49, 432), (50, 433), (51, 434), (52, 436), (53, 435), (54, 437), (55, 438), (56, 439), (60, 207), (61, 440), (62, 441), (64, 442), (65, 443), (66, 162), (67, 444), (70, 5)]
end Tree.R16
