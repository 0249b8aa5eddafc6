/- The whole: TopSums, as E-code; what it calls stands in the layers' tables. -/
import Derived.Test.YtphdgjglofapbaaDoorTE
set_option autoImplicit false
namespace Tree
open Go
/-- purlin/purlintop.which -/
def tf592 : TFn := { ntmps := 14, results := [.tmp 4], body :=
    (.seq
      (.region false [
        ⟨some 4, .assign (.const (.int .i64 0)), none⟩])
      (.seq
        (.region false [
          ⟨some 5, .move (.tmp 0), none⟩,
          ⟨some 6, .move (.tmp 1), none⟩,
          ⟨some 7, .bin 0 .rem (.tmp 5) (.tmp 6), none⟩,
          ⟨some 0, .assign (.tmp 7), none⟩])
        (.seq
          (.seq
            (.region false [
              ⟨some 8, .move (.tmp 0), none⟩,
              ⟨some 9, .bin 0 .lss (.tmp 8) (.const (.int .i64 0)), none⟩])
            (.cond (.tmp 9)
              (.region false [
                ⟨some 10, .move (.tmp 0), none⟩,
                ⟨some 11, .move (.tmp 1), none⟩,
                ⟨some 12, .bin 0 .add (.tmp 10) (.tmp 11), none⟩,
                ⟨some 0, .assign (.tmp 12), none⟩])
              .skip))
          (.seq
            (.region false [
              ⟨some 13, .move (.tmp 0), none⟩,
              ⟨some 4, .assign (.tmp 13), none⟩])
            .ret)))) }
/-- purlin/purlintop.TopSums -/
def tf593 : TFn := { ntmps := 143, results := [.tmp 6], body :=
    (.seq
      (.region false [
        ⟨some 5, .box 3 (.tmp 2), none⟩,
        ⟨some 6, .assign (.const (.bool false)), none⟩])
      (.seq
        (.region false [
          ⟨some 26, .call false (.const (.fn 234 [])) [] [], none⟩,
          ⟨some 7, .assign (.tmp 26), none⟩])
        (.seq
          (.region false [
            ⟨some 8, .assign (.const (.sl true 0 1 [] [])), none⟩])
          (.seq
            (.seq
              (.region false [
                ⟨some 9, .assign (.const (.int .i64 0)), none⟩])
              (.block 0
                (.loop [0, 1, 5, 7, 8, 9]
                  (.seq
                    (.seq
                      (.region false [
                        ⟨some 27, .move (.tmp 9), none⟩,
                        ⟨some 28, .move (.tmp 1), none⟩,
                        ⟨some 29, .len false (.tmp 28), none⟩,
                        ⟨some 30, .bin 0 .lss (.tmp 27) (.tmp 29), none⟩,
                        ⟨some 31, .move (.tmp 30), none⟩,
                        ⟨some 32, .move (.tmp 9), (some (31, true))⟩,
                        ⟨some 33, .bin 0 .lss (.tmp 32) (.const (.int .i64 8)), (some (31, true))⟩,
                        ⟨some 34, .pick (.tmp 31) (.tmp 33) (.const (.bool false)), none⟩])
                      (.cond (.tmp 34)
                        .skip
                        (.exit 0)))
                    (.seq
                      (.block 1
                        (.seq
                          (.region false [
                            ⟨some 37, .move (.tmp 1), none⟩,
                            ⟨some 38, .move (.tmp 9), none⟩,
                            ⟨some 39, .idxAddr (.tmp 37) (.tmp 38) 1, none⟩,
                            ⟨some 40, .load false 1 (.tmp 39), none⟩,
                            ⟨some 41, .call true (.const (.fn 592 [])) [(.tmp 40), (.const (.int .i64 1000))] [], none⟩,
                            ⟨some 42, .bin 0 .sub (.tmp 41) (.const (.int .i64 500)), none⟩,
                            ⟨some 10, .assign (.tmp 42), none⟩])
                          (.seq
                            (.seq
                              (.region false [
                                ⟨some 43, .move (.tmp 7), none⟩,
                                ⟨some 44, .move (.tmp 9), none⟩,
                                ⟨some 45, .build [.int .i64 0, .int .i64 0] [(1, 1, (.tmp 44))], none⟩,
                                ⟨some 46, .move (.tmp 10), none⟩,
                                ⟨some 47, .call true (.const (.fn 9 [])) [(.tmp 46)] [], none⟩,
                                ⟨some 48, .call false (.const (.fn 236 [])) [(.tmp 43), (.tmp 45), (.tmp 47)] [], none⟩,
                                ⟨some 49, .bin 0 .neq (.tmp 48) (.const (.int .i64 0)), none⟩])
                              (.cond (.tmp 49)
                                (.seq
                                  (.region false [
                                    ⟨some 6, .assign (.const (.bool false)), none⟩])
                                  .ret)
                                .skip))
                            (.region false [
                              ⟨some 50, .move (.tmp 8), none⟩,
                              ⟨some 51, .move (.tmp 10), none⟩,
                              ⟨some 52, .call true (.const (.fn 9 [])) [(.tmp 51)] [], none⟩,
                              ⟨some 53, .buildSlice 1 1 [.sl true 0 5 [] []] [(0, (.tmp 52))], none⟩,
                              ⟨some 54, .append 1 24 (.tmp 50) (.tmp 53), none⟩,
                              ⟨some 8, .assign (.tmp 54), none⟩]))))
                      (.region false [
                        ⟨some 35, .move (.tmp 9), none⟩,
                        ⟨some 36, .bin 0 .add (.tmp 35) (.const (.int .i64 1)), none⟩,
                        ⟨some 9, .assign (.tmp 36), none⟩]))))))
            (.seq
              (.region false [
                ⟨some 11, .assign (.const (.sl true 0 1 [] [])), none⟩])
              (.seq
                (.seq
                  (.region false [
                    ⟨some 12, .assign (.const (.int .i64 0)), none⟩])
                  (.block 2
                    (.loop [0, 5, 7, 8, 11, 12]
                      (.seq
                        (.seq
                          (.region false [
                            ⟨some 55, .move (.tmp 12), none⟩,
                            ⟨some 56, .move (.tmp 8), none⟩,
                            ⟨some 57, .len false (.tmp 56), none⟩,
                            ⟨some 58, .bin 0 .lss (.tmp 55) (.tmp 57), none⟩])
                          (.cond (.tmp 58)
                            .skip
                            (.exit 2)))
                        (.seq
                          (.block 3
                            (.region false [
                              ⟨some 61, .move (.tmp 11), none⟩,
                              ⟨some 62, .move (.tmp 12), none⟩,
                              ⟨some 63, .build [.int .i64 0, .int .i64 0] [(1, 1, (.tmp 62))], none⟩,
                              ⟨some 64, .call true (.const (.fn 14 [])) [(.tmp 63)] [], none⟩,
                              ⟨some 65, .buildSlice 1 1 [.sl true 0 5 [] []] [(0, (.tmp 64))], none⟩,
                              ⟨some 66, .append 1 24 (.tmp 61) (.tmp 65), none⟩,
                              ⟨some 11, .assign (.tmp 66), none⟩]))
                          (.region false [
                            ⟨some 59, .move (.tmp 12), none⟩,
                            ⟨some 60, .bin 0 .add (.tmp 59) (.const (.int .i64 1)), none⟩,
                            ⟨some 12, .assign (.tmp 60), none⟩]))))))
                (.seq
                  (.region false [
                    ⟨some 68, .move (.tmp 0), none⟩,
                    ⟨some 69, .move (.tmp 11), none⟩,
                    ⟨some 70, .call true (.const (.fn 20 [])) [(.tmp 68), (.tmp 69)] [], none⟩,
                    ⟨some 67, .move (.tmp 70), none⟩,
                    ⟨some 71, .extract (.tmp 67) 0, none⟩,
                    ⟨some 72, .extract (.tmp 67) 1, none⟩,
                    ⟨some 13, .assign (.tmp 71), none⟩,
                    ⟨some 14, .assign (.tmp 72), none⟩])
                  (.seq
                    (.region false [
                      ⟨some 74, .move (.tmp 0), none⟩,
                      ⟨some 75, .move (.tmp 8), none⟩,
                      ⟨some 76, .call true (.const (.fn 20 [])) [(.tmp 74), (.tmp 75)] [], none⟩,
                      ⟨some 73, .move (.tmp 76), none⟩,
                      ⟨some 77, .extract (.tmp 73) 0, none⟩,
                      ⟨some 78, .extract (.tmp 73) 1, none⟩,
                      ⟨some 15, .assign (.tmp 77), none⟩,
                      ⟨some 16, .assign (.tmp 78), none⟩])
                    (.seq
                      (.seq
                        (.region false [
                          ⟨some 79, .move (.tmp 14), none⟩,
                          ⟨some 80, .bin 0 .neq (.tmp 79) (.const (.int .i64 0)), none⟩,
                          ⟨some 81, .move (.tmp 80), none⟩,
                          ⟨some 82, .move (.tmp 16), (some (81, false))⟩,
                          ⟨some 83, .bin 0 .neq (.tmp 82) (.const (.int .i64 0)), (some (81, false))⟩,
                          ⟨some 84, .pick (.tmp 81) (.const (.bool true)) (.tmp 83), none⟩])
                        (.cond (.tmp 84)
                          (.seq
                            (.region false [
                              ⟨some 85, .move (.tmp 14), none⟩,
                              ⟨some 86, .move (.tmp 16), none⟩,
                              ⟨some 87, .bin 0 .eql (.tmp 85) (.tmp 86), none⟩,
                              ⟨some 6, .assign (.tmp 87), none⟩])
                            .ret)
                          .skip))
                      (.seq
                        (.region false [
                          ⟨some 89, .move (.tmp 7), none⟩,
                          ⟨some 90, .move (.tmp 13), none⟩,
                          ⟨some 91, .call true (.const (.fn 217 [])) [(.tmp 89), (.tmp 90)] [], none⟩,
                          ⟨some 88, .move (.tmp 91), none⟩,
                          ⟨some 92, .extract (.tmp 88) 0, none⟩,
                          ⟨some 93, .extract (.tmp 88) 1, none⟩,
                          ⟨some 94, .extract (.tmp 88) 2, none⟩,
                          ⟨some 17, .assign (.tmp 92), none⟩,
                          ⟨some 18, .assign (.tmp 93), none⟩,
                          ⟨some 19, .assign (.tmp 94), none⟩])
                        (.seq
                          (.region false [
                            ⟨some 96, .move (.tmp 7), none⟩,
                            ⟨some 97, .move (.tmp 15), none⟩,
                            ⟨some 98, .call true (.const (.fn 217 [])) [(.tmp 96), (.tmp 97)] [], none⟩,
                            ⟨some 95, .move (.tmp 98), none⟩,
                            ⟨some 99, .extract (.tmp 95) 0, none⟩,
                            ⟨some 100, .extract (.tmp 95) 1, none⟩,
                            ⟨some 101, .extract (.tmp 95) 2, none⟩,
                            ⟨some 20, .assign (.tmp 99), none⟩,
                            ⟨some 21, .assign (.tmp 100), none⟩,
                            ⟨some 22, .assign (.tmp 101), none⟩])
                          (.seq
                            (.seq
                              (.region false [
                                ⟨some 102, .move (.tmp 17), none⟩,
                                ⟨some 103, .move (.tmp 20), none⟩,
                                ⟨some 104, .bin 0 .neq (.tmp 102) (.tmp 103), none⟩,
                                ⟨some 105, .move (.tmp 104), none⟩,
                                ⟨some 106, .move (.tmp 18), (some (105, false))⟩,
                                ⟨some 107, .move (.tmp 21), (some (105, false))⟩,
                                ⟨some 108, .bin 0 .neq (.tmp 106) (.tmp 107), (some (105, false))⟩,
                                ⟨some 109, .pick (.tmp 105) (.const (.bool true)) (.tmp 108), none⟩,
                                ⟨some 110, .move (.tmp 109), none⟩,
                                ⟨some 111, .move (.tmp 18), (some (110, false))⟩,
                                ⟨some 112, .bin 0 .lss (.tmp 111) (.const (.int .u8 1)), (some (110, false))⟩,
                                ⟨some 113, .pick (.tmp 110) (.const (.bool true)) (.tmp 112), none⟩,
                                ⟨some 114, .move (.tmp 113), none⟩,
                                ⟨some 115, .move (.tmp 18), (some (114, false))⟩,
                                ⟨some 116, .bin 0 .gtr (.tmp 115) (.const (.int .u8 3)), (some (114, false))⟩,
                                ⟨some 117, .pick (.tmp 114) (.const (.bool true)) (.tmp 116), none⟩])
                              (.cond (.tmp 117)
                                (.seq
                                  (.region false [
                                    ⟨some 6, .assign (.const (.bool false)), none⟩])
                                  .ret)
                                .skip))
                            (.seq
                              (.region false [
                                ⟨some 118, .move (.tmp 7), none⟩,
                                ⟨some 119, .faddr (.tmp 5) 0, none⟩,
                                ⟨some 120, .load true 2 (.tmp 119), none⟩,
                                ⟨some 121, .faddr (.tmp 5) 2, none⟩,
                                ⟨some 122, .load false 1 (.tmp 121), none⟩,
                                ⟨some 123, .call false (.const (.fn 236 [])) [(.tmp 118), (.tmp 120), (.tmp 122)] [], none⟩])
                              (.seq
                                (.region false [
                                  ⟨some 125, .move (.tmp 7), none⟩,
                                  ⟨some 126, .move (.tmp 13), none⟩,
                                  ⟨some 127, .call true (.const (.fn 217 [])) [(.tmp 125), (.tmp 126)] [], none⟩,
                                  ⟨some 124, .move (.tmp 127), none⟩,
                                  ⟨some 128, .extract (.tmp 124) 0, none⟩,
                                  ⟨some 129, .extract (.tmp 124) 1, none⟩,
                                  ⟨some 130, .extract (.tmp 124) 2, none⟩,
                                  ⟨some 23, .assign (.tmp 128), none⟩,
                                  ⟨some 24, .assign (.tmp 129), none⟩,
                                  ⟨some 25, .assign (.tmp 130), none⟩])
                                (.seq
                                  (.region false [
                                    ⟨some 131, .move (.tmp 18), none⟩,
                                    ⟨some 132, .bin 0 .eql (.tmp 131) (.const (.int .u8 3)), none⟩,
                                    ⟨some 133, .move (.tmp 132), none⟩,
                                    ⟨some 134, .move (.tmp 24), (some (133, false))⟩,
                                    ⟨some 135, .move (.tmp 18), (some (133, false))⟩,
                                    ⟨some 136, .bin 0 .eql (.tmp 134) (.tmp 135), (some (133, false))⟩,
                                    ⟨some 137, .move (.tmp 136), (some (133, false))⟩,
                                    ⟨some 138, .move (.tmp 23), (some (137, true))⟩,
                                    ⟨some 139, .move (.tmp 17), (some (137, true))⟩,
                                    ⟨some 140, .bin 0 .eql (.tmp 138) (.tmp 139), (some (137, true))⟩,
                                    ⟨some 141, .pick (.tmp 137) (.tmp 140) (.const (.bool false)), (some (133, false))⟩,
                                    ⟨some 142, .pick (.tmp 133) (.const (.bool true)) (.tmp 141), none⟩,
                                    ⟨some 6, .assign (.tmp 142), none⟩])
                                  .ret))))))))))))))) }
def fnTableT : List (Nat × TFn) := [(592, tf592), (593, tf593)]
def nuTableT : List (Nat × Nat) := [(3, 593), (6, 234), (7, 592), (8, 236), (9, 9), (10, 14), (11, 20), (12, 217), (15, 250), (27, 25), (28, 0), (29, 39), (30, 37), (31, 41), (32, 30), (33, 33), (34, 22), (35, 238), (36, 239), (38, 32), (41, 267), (62, 43), (63, 44), (64, 31), (65, 46), (66, 53), (67, 42), (68, 261), (69, 17), (70, 254), (71, 222), (75, 48), (76, 57), (77, 49), (78, 1), (79, 50), (80, 248), (81, 51), (82, 52), (84, 271), (99, 56), (100, 47), (101, 55), (102, 241), (103, 242), (104, 245), (105, 243), (106, 244), (108, 58), (109, 253), (113, 263), (114, 264), (115, 265)]
end Tree
