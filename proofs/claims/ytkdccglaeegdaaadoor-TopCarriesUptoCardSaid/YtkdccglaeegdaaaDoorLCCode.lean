/- The law TopCarries: its functions beside those of layer 11. -/
import Derived.Test.YtkdccglaeegdaaaDoorL11Code
set_option autoImplicit false
set_option maxRecDepth 100000
namespace Tree
/-- purlin/purlintop.TopCarries -/
def tf662 : TFn := { ntmps := 182, results := [.tmp 4], body :=
    (.seq
      (.region false [
        ⟨some 4, .assign (.const (.bool false)), none⟩])
      (.seq
        (.region false [
          ⟨some 20, .call false (.const (.fn 649 [])) [(.const (.int .i64 2))] [], none⟩,
          ⟨some 19, .move (.tmp 20), none⟩,
          ⟨some 21, .extract (.tmp 19) 0, none⟩,
          ⟨some 22, .extract (.tmp 19) 1, none⟩,
          ⟨some 5, .assign (.tmp 21), none⟩,
          ⟨some 6, .assign (.tmp 22), none⟩])
        (.seq
          (.seq
            (.region false [
              ⟨some 23, .move (.tmp 6), none⟩,
              ⟨some 24, .bin 0 .neq (.tmp 23) (.const (.int .i64 0)), none⟩,
              ⟨some 25, .move (.tmp 24), none⟩,
              ⟨some 26, .build [.int .u8 0, .int .i64 0, .int .i64 0, .int .i64 0, .int .i64 0, .sl true 0 5 [] [], .int .i64 0, .int .i64 0, .int .i64 0, .sl true 0 1 [] []] [(0, 1, (.const (.int .u8 4)))], (some (25, false))⟩,
              ⟨some 27, .call true (.const (.fn 490 [])) [(.tmp 26)] [], (some (25, false))⟩,
              ⟨some 28, .un .not (.tmp 27), (some (25, false))⟩,
              ⟨some 29, .pick (.tmp 25) (.const (.bool true)) (.tmp 28), none⟩])
            (.cond (.tmp 29)
              (.seq
                (.region false [
                  ⟨some 4, .assign (.const (.bool false)), none⟩])
                .ret)
              .skip))
          (.seq
            (.region false [
              ⟨some 7, .assign (.const (.sl true 0 1 [] [])), none⟩])
            (.seq
              (.seq
                (.region false [
                  ⟨some 8, .assign (.const (.int .i64 0)), none⟩])
                (.block 0
                  (.loop [0, 1, 5, 7, 8]
                    (.seq
                      (.seq
                        (.region false [
                          ⟨some 30, .move (.tmp 8), none⟩,
                          ⟨some 31, .move (.tmp 0), none⟩,
                          ⟨some 32, .len false (.tmp 31), none⟩,
                          ⟨some 33, .bin 0 .lss (.tmp 30) (.tmp 32), none⟩,
                          ⟨some 34, .move (.tmp 33), none⟩,
                          ⟨some 35, .move (.tmp 8), (some (34, true))⟩,
                          ⟨some 36, .bin 0 .lss (.tmp 35) (.const (.int .i64 50)), (some (34, true))⟩,
                          ⟨some 37, .pick (.tmp 34) (.tmp 36) (.const (.bool false)), none⟩])
                        (.cond (.tmp 37)
                          .skip
                          (.exit 0)))
                      (.seq
                        (.block 1
                          (.seq
                            (.region false [
                              ⟨some 41, .move (.tmp 0), none⟩,
                              ⟨some 42, .move (.tmp 8), none⟩,
                              ⟨some 43, .idxAddr (.tmp 41) (.tmp 42) 10, none⟩,
                              ⟨some 44, .load true 10 (.tmp 43), none⟩,
                              ⟨some 45, .call true (.const (.fn 483 [])) [(.tmp 44)] [], none⟩,
                              ⟨some 40, .move (.tmp 45), none⟩,
                              ⟨some 46, .extract (.tmp 40) 0, none⟩,
                              ⟨some 47, .extract (.tmp 40) 1, none⟩,
                              ⟨some 9, .assign (.tmp 46), none⟩,
                              ⟨some 10, .assign (.tmp 47), none⟩])
                            (.seq
                              (.seq
                                (.region false [
                                  ⟨some 48, .move (.tmp 10), none⟩,
                                  ⟨some 49, .bin 0 .neq (.tmp 48) (.const (.int .i64 0)), none⟩])
                                (.cond (.tmp 49)
                                  (.seq
                                    (.seq
                                      (.region false [
                                        ⟨some 50, .move (.tmp 0), none⟩,
                                        ⟨some 51, .move (.tmp 8), none⟩,
                                        ⟨some 52, .idxAddr (.tmp 50) (.tmp 51) 10, none⟩,
                                        ⟨some 53, .load true 10 (.tmp 52), none⟩,
                                        ⟨some 54, .call true (.const (.fn 490 [])) [(.tmp 53)] [], none⟩,
                                        ⟨some 55, .move (.tmp 54), none⟩,
                                        ⟨some 56, .move (.tmp 10), (some (55, true))⟩,
                                        ⟨some 57, .bin 0 .neq (.tmp 56) (.const (.int .i64 5)), (some (55, true))⟩,
                                        ⟨some 58, .pick (.tmp 55) (.tmp 57) (.const (.bool false)), none⟩])
                                      (.cond (.tmp 58)
                                        (.seq
                                          (.region false [
                                            ⟨some 4, .assign (.const (.bool false)), none⟩])
                                          .ret)
                                        .skip))
                                    (.exit 1))
                                  .skip))
                              (.seq
                                (.seq
                                  (.region false [
                                    ⟨some 59, .move (.tmp 5), none⟩,
                                    ⟨some 60, .move (.tmp 7), none⟩,
                                    ⟨some 61, .len false (.tmp 60), none⟩,
                                    ⟨some 62, .move (.tmp 9), none⟩,
                                    ⟨some 63, .build [.int .i64 0, .int .i64 0, .bool false, .int .i64 0, .sl true 0 1 [] []] [(1, 1, (.const (.int .i64 1))), (3, 1, (.tmp 61)), (4, 1, (.tmp 62))], none⟩,
                                    ⟨some 64, .buildSlice 1 5 [.int .i64 0, .int .i64 0, .bool false, .int .i64 0, .sl true 0 1 [] []] [(0, (.tmp 63))], none⟩,
                                    ⟨some 65, .call false (.const (.fn 650 [])) [(.tmp 59), (.tmp 64)] [], none⟩,
                                    ⟨some 66, .bin 0 .neq (.tmp 65) (.const (.int .i64 0)), none⟩])
                                  (.cond (.tmp 66)
                                    (.seq
                                      (.region false [
                                        ⟨some 4, .assign (.const (.bool false)), none⟩])
                                      .ret)
                                    .skip))
                                (.region false [
                                  ⟨some 67, .move (.tmp 7), none⟩,
                                  ⟨some 68, .move (.tmp 9), none⟩,
                                  ⟨some 69, .buildSlice 1 1 [.sl true 0 1 [] []] [(0, (.tmp 68))], none⟩,
                                  ⟨some 70, .append 1 24 (.tmp 67) (.tmp 69), none⟩,
                                  ⟨some 7, .assign (.tmp 70), none⟩])))))
                        (.region false [
                          ⟨some 38, .move (.tmp 8), none⟩,
                          ⟨some 39, .bin 0 .add (.tmp 38) (.const (.int .i64 1)), none⟩,
                          ⟨some 8, .assign (.tmp 39), none⟩]))))))
              (.seq
                (.seq
                  (.region false [
                    ⟨some 71, .move (.tmp 5), none⟩,
                    ⟨some 72, .call true (.const (.fn 651 [])) [(.tmp 71)] [], none⟩,
                    ⟨some 73, .move (.tmp 7), none⟩,
                    ⟨some 74, .len false (.tmp 73), none⟩,
                    ⟨some 75, .bin 0 .neq (.tmp 72) (.tmp 74), none⟩])
                  (.cond (.tmp 75)
                    (.seq
                      (.region false [
                        ⟨some 4, .assign (.const (.bool false)), none⟩])
                      .ret)
                    .skip))
                (.seq
                  (.seq
                    (.region false [
                      ⟨some 11, .assign (.const (.int .i64 0)), none⟩])
                    (.block 2
                      (.loop [1, 5, 7, 11]
                        (.seq
                          (.seq
                            (.region false [
                              ⟨some 76, .move (.tmp 11), none⟩,
                              ⟨some 77, .move (.tmp 1), none⟩,
                              ⟨some 78, .len false (.tmp 77), none⟩,
                              ⟨some 79, .bin 0 .lss (.tmp 76) (.tmp 78), none⟩,
                              ⟨some 80, .move (.tmp 79), none⟩,
                              ⟨some 81, .move (.tmp 5), (some (80, true))⟩,
                              ⟨some 82, .call true (.const (.fn 651 [])) [(.tmp 81)] [], (some (80, true))⟩,
                              ⟨some 83, .bin 0 .gtr (.tmp 82) (.const (.int .i64 0)), (some (80, true))⟩,
                              ⟨some 84, .pick (.tmp 80) (.tmp 83) (.const (.bool false)), none⟩])
                            (.cond (.tmp 84)
                              .skip
                              (.exit 2)))
                          (.seq
                            (.block 3
                              (.seq
                                (.region true [
                                  ⟨some 87, .move (.tmp 1), none⟩,
                                  ⟨some 88, .move (.tmp 11), none⟩,
                                  ⟨some 89, .idxAddr (.tmp 87) (.tmp 88) 1, none⟩,
                                  ⟨some 90, .load false 1 (.tmp 89), none⟩,
                                  ⟨some 91, .move (.tmp 5), none⟩,
                                  ⟨some 92, .call true (.const (.fn 651 [])) [(.tmp 91)] [], none⟩,
                                  ⟨some 93, .call true (.const (.fn 592 [])) [(.tmp 90), (.tmp 92)] [], none⟩,
                                  ⟨some 12, .assign (.tmp 93), none⟩])
                                (.seq
                                  (.seq
                                    (.region false [
                                      ⟨some 94, .move (.tmp 11), none⟩,
                                      ⟨some 95, .bin 0 .rem (.tmp 94) (.const (.int .i64 3)), none⟩])
                                    (.block 4
                                      (.seq
                                        (.region false [
                                          ⟨some 97, .bin 0 .eql (.tmp 95) (.const (.int .i64 0)), none⟩,
                                          ⟨some 96, .assign (.tmp 97), none⟩])
                                        (.cond (.tmp 96)
                                          (.region false [
                                            ⟨some 98, .move (.tmp 5), none⟩,
                                            ⟨some 99, .move (.tmp 12), none⟩,
                                            ⟨some 100, .call false (.const (.fn 652 [])) [(.tmp 98), (.tmp 99)] [], none⟩])
                                          (.seq
                                            (.region false [
                                              ⟨some 102, .bin 0 .eql (.tmp 95) (.const (.int .i64 1)), none⟩,
                                              ⟨some 101, .assign (.tmp 102), none⟩])
                                            (.cond (.tmp 101)
                                              (.region false [
                                                ⟨some 103, .move (.tmp 5), none⟩,
                                                ⟨some 104, .move (.tmp 12), none⟩,
                                                ⟨some 105, .call false (.const (.fn 653 [])) [(.tmp 103), (.tmp 104)] [], none⟩])
                                              .skip))))))
                                  (.seq
                                    (.seq
                                      (.region false [
                                        ⟨some 106, .move (.tmp 5), none⟩,
                                        ⟨some 107, .call true (.const (.fn 651 [])) [(.tmp 106)] [], none⟩,
                                        ⟨some 108, .bin 0 .eql (.tmp 107) (.const (.int .i64 0)), none⟩])
                                      (.cond (.tmp 108)
                                        (.exit 2)
                                        .skip))
                                    (.seq
                                      (.region true [
                                        ⟨some 110, .move (.tmp 5), none⟩,
                                        ⟨some 111, .move (.tmp 1), none⟩,
                                        ⟨some 112, .move (.tmp 11), none⟩,
                                        ⟨some 113, .idxAddr (.tmp 111) (.tmp 112) 1, none⟩,
                                        ⟨some 114, .loadR none false 1 (.tmp 113), none⟩,
                                        ⟨some 115, .move (.tmp 5), none⟩,
                                        ⟨some 116, .call true (.const (.fn 651 [])) [(.tmp 115)] [], none⟩,
                                        ⟨some 117, .call true (.const (.fn 592 [])) [(.tmp 114), (.tmp 116)] [], none⟩,
                                        ⟨some 118, .call false (.const (.fn 654 [])) [(.tmp 110), (.tmp 117)] [], none⟩,
                                        ⟨some 109, .move (.tmp 118), none⟩,
                                        ⟨some 119, .extract (.tmp 109) 0, none⟩,
                                        ⟨some 120, .extract (.tmp 109) 1, none⟩,
                                        ⟨some 13, .box 5 (.const (.agg [.int .i64 0, .int .i64 0, .bool false, .int .i64 0, .sl true 0 1 [] []])), none⟩,
                                        ⟨none, .store 5 (.tmp 13) (.tmp 119), none⟩,
                                        ⟨some 14, .assign (.tmp 120), none⟩])
                                      (.seq
                                        (.seq
                                          (.region true [
                                            ⟨some 121, .move (.tmp 14), none⟩,
                                            ⟨some 122, .bin 0 .neq (.tmp 121) (.const (.int .i64 0)), none⟩,
                                            ⟨some 123, .move (.tmp 122), none⟩,
                                            ⟨some 124, .faddr (.tmp 13) 3, (some (123, false))⟩,
                                            ⟨some 125, .load false 1 (.tmp 124), (some (123, false))⟩,
                                            ⟨some 126, .bin 0 .lss (.tmp 125) (.const (.int .i64 0)), (some (123, false))⟩,
                                            ⟨some 127, .pick (.tmp 123) (.const (.bool true)) (.tmp 126), none⟩,
                                            ⟨some 128, .move (.tmp 127), none⟩,
                                            ⟨some 129, .faddr (.tmp 13) 3, (some (128, false))⟩,
                                            ⟨some 130, .load false 1 (.tmp 129), (some (128, false))⟩,
                                            ⟨some 131, .move (.tmp 7), (some (128, false))⟩,
                                            ⟨some 132, .len false (.tmp 131), (some (128, false))⟩,
                                            ⟨some 133, .bin 0 .geq (.tmp 130) (.tmp 132), (some (128, false))⟩,
                                            ⟨some 134, .pick (.tmp 128) (.const (.bool true)) (.tmp 133), none⟩,
                                            ⟨some 135, .move (.tmp 134), none⟩,
                                            ⟨some 136, .faddr (.tmp 13) 4, (some (135, false))⟩,
                                            ⟨some 137, .load false 1 (.tmp 136), (some (135, false))⟩,
                                            ⟨some 138, .strOf (.tmp 137), (some (135, false))⟩,
                                            ⟨some 139, .move (.tmp 7), (some (135, false))⟩,
                                            ⟨some 140, .faddr (.tmp 13) 3, (some (135, false))⟩,
                                            ⟨some 141, .load false 1 (.tmp 140), (some (135, false))⟩,
                                            ⟨some 142, .idxAddr (.tmp 139) (.tmp 141) 1, (some (135, false))⟩,
                                            ⟨some 143, .load false 1 (.tmp 142), (some (135, false))⟩,
                                            ⟨some 144, .strOf (.tmp 143), (some (135, false))⟩,
                                            ⟨some 145, .bin 0 .neq (.tmp 138) (.tmp 144), (some (135, false))⟩,
                                            ⟨some 146, .pick (.tmp 135) (.const (.bool true)) (.tmp 145), none⟩])
                                          (.cond (.tmp 146)
                                            (.seq
                                              (.region false [
                                                ⟨some 4, .assign (.const (.bool false)), none⟩])
                                              .ret)
                                            .skip))
                                        (.seq
                                          (.region false [
                                            ⟨some 148, .faddr (.tmp 13) 4, none⟩,
                                            ⟨some 149, .load false 1 (.tmp 148), none⟩,
                                            ⟨some 150, .call true (.const (.fn 486 [])) [(.tmp 149)] [], none⟩,
                                            ⟨some 147, .move (.tmp 150), none⟩,
                                            ⟨some 151, .extract (.tmp 147) 0, none⟩,
                                            ⟨some 152, .extract (.tmp 147) 1, none⟩,
                                            ⟨some 153, .extract (.tmp 147) 2, none⟩,
                                            ⟨some 15, .box 10 (.const (.agg [.int .u8 0, .int .i64 0, .int .i64 0, .int .i64 0, .int .i64 0, .sl true 0 5 [] [], .int .i64 0, .int .i64 0, .int .i64 0, .sl true 0 1 [] []])), none⟩,
                                            ⟨none, .store 10 (.tmp 15) (.tmp 151), none⟩,
                                            ⟨some 14, .assign (.tmp 152), none⟩,
                                            ⟨some 16, .assign (.tmp 153), none⟩])
                                          (.seq
                                            (.region false [
                                              ⟨some 155, .load true 10 (.tmp 15), none⟩,
                                              ⟨some 156, .call true (.const (.fn 483 [])) [(.tmp 155)] [], none⟩,
                                              ⟨some 154, .move (.tmp 156), none⟩,
                                              ⟨some 157, .extract (.tmp 154) 0, none⟩,
                                              ⟨some 158, .extract (.tmp 154) 1, none⟩,
                                              ⟨some 17, .assign (.tmp 157), none⟩,
                                              ⟨some 18, .assign (.tmp 158), none⟩])
                                            (.seq
                                              (.region false [
                                                ⟨some 159, .move (.tmp 14), none⟩,
                                                ⟨some 160, .bin 0 .neq (.tmp 159) (.const (.int .i64 0)), none⟩,
                                                ⟨some 161, .move (.tmp 160), none⟩,
                                                ⟨some 162, .move (.tmp 18), (some (161, false))⟩,
                                                ⟨some 163, .bin 0 .neq (.tmp 162) (.const (.int .i64 0)), (some (161, false))⟩,
                                                ⟨some 164, .pick (.tmp 161) (.const (.bool true)) (.tmp 163), none⟩,
                                                ⟨some 165, .move (.tmp 164), none⟩,
                                                ⟨some 166, .move (.tmp 17), (some (165, false))⟩,
                                                ⟨some 167, .strOf (.tmp 166), (some (165, false))⟩,
                                                ⟨some 168, .faddr (.tmp 13) 4, (some (165, false))⟩,
                                                ⟨some 169, .load false 1 (.tmp 168), (some (165, false))⟩,
                                                ⟨some 170, .strOf (.tmp 169), (some (165, false))⟩,
                                                ⟨some 171, .bin 0 .neq (.tmp 167) (.tmp 170), (some (165, false))⟩,
                                                ⟨some 172, .pick (.tmp 165) (.const (.bool true)) (.tmp 171), none⟩])
                                              (.cond (.tmp 172)
                                                (.seq
                                                  (.region false [
                                                    ⟨some 4, .assign (.const (.bool false)), none⟩])
                                                  .ret)
                                                .skip))))))))))
                            (.region false [
                              ⟨some 85, .move (.tmp 11), none⟩,
                              ⟨some 86, .bin 0 .add (.tmp 85) (.const (.int .i64 1)), none⟩,
                              ⟨some 11, .assign (.tmp 86), none⟩]))))))
                  (.seq
                    (.region false [
                      ⟨some 173, .move (.tmp 5), none⟩,
                      ⟨some 174, .call true (.const (.fn 651 [])) [(.tmp 173)] [], none⟩,
                      ⟨some 175, .move (.tmp 7), none⟩,
                      ⟨some 176, .len false (.tmp 175), none⟩,
                      ⟨some 177, .bin 0 .mul (.const (.int .i64 2)) (.tmp 176), none⟩,
                      ⟨some 178, .move (.tmp 1), none⟩,
                      ⟨some 179, .len false (.tmp 178), none⟩,
                      ⟨some 180, .bin 0 .add (.tmp 177) (.tmp 179), none⟩,
                      ⟨some 181, .bin 0 .leq (.tmp 174) (.tmp 180), none⟩,
                      ⟨some 4, .assign (.tmp 181), none⟩])
                    .ret)))))))) }
/-- purlin/net.New -/
def tf649 : TFn := { ntmps := 13, results := [.tmp 2, .tmp 3], body :=
    (.seq
      (.region false [
        ⟨some 2, .assign (.const .nilptr), none⟩,
        ⟨some 3, .assign (.const (.int .i64 0)), none⟩])
      (.seq
        (.seq
          (.region false [
            ⟨some 4, .move (.tmp 0), none⟩,
            ⟨some 5, .bin 0 .lss (.tmp 4) (.const (.int .i64 1)), none⟩,
            ⟨some 6, .move (.tmp 5), none⟩,
            ⟨some 7, .move (.tmp 0), (some (6, false))⟩,
            ⟨some 8, .bin 0 .gtr (.tmp 7) (.const (.int .i64 4)), (some (6, false))⟩,
            ⟨some 9, .pick (.tmp 6) (.const (.bool true)) (.tmp 8), none⟩])
          (.cond (.tmp 9)
            (.seq
              (.region false [
                ⟨some 2, .assign (.const .nilptr), none⟩,
                ⟨some 3, .assign (.const (.int .i64 2)), none⟩])
              .ret)
            .skip))
        (.seq
          (.region false [
            ⟨some 10, .move (.tmp 0), none⟩,
            ⟨some 11, .build [.int .i64 0, .int .i64 0, .int .i64 0, .int .i64 0, .int .i64 0, .sl true 0 5 [] []] [(4, 1, (.tmp 10))], none⟩,
            ⟨some 12, .new 6 (.tmp 11), none⟩,
            ⟨some 2, .assign (.tmp 12), none⟩,
            ⟨some 3, .assign (.const (.int .i64 0)), none⟩])
          .ret))) }
/-- (*purlin/net.Net).Send -/
def tf650 : TFn := { ntmps := 54, results := [.tmp 4], body :=
    (.seq
      (.region false [
        ⟨some 4, .assign (.const (.int .i64 0)), none⟩])
      (.seq
        (.seq
          (.region false [
            ⟨some 10, .move (.tmp 0), none⟩,
            ⟨some 11, .bin 2 .eql (.tmp 10) (.const .nilptr), none⟩])
          (.cond (.tmp 11)
            (.seq
              (.region false [
                ⟨some 4, .assign (.const (.int .i64 1)), none⟩])
              .ret)
            .skip))
        (.seq
          (.seq
            (.region false [
              ⟨some 12, .move (.tmp 1), none⟩,
              ⟨some 13, .len false (.tmp 12), none⟩,
              ⟨some 14, .move (.const (.int .i64 0)), none⟩])
            (.block 0
              (.loop [0, 1, 12, 13, 14]
                (.seq
                  (.region false [
                    ⟨some 15, .bin 0 .lss (.tmp 14) (.tmp 13), none⟩])
                  (.seq
                    (.cond (.tmp 15)
                      .skip
                      (.exit 0))
                    (.seq
                      (.block 1
                        (.seq
                          (.region false [
                            ⟨some 16, .idxAddr (.tmp 12) (.tmp 14) 5, none⟩,
                            ⟨some 17, .load true 5 (.tmp 16), none⟩,
                            ⟨some 6, .box 5 (.const (.agg [.int .i64 0, .int .i64 0, .bool false, .int .i64 0, .sl true 0 1 [] []])), none⟩,
                            ⟨none, .store 5 (.tmp 6) (.tmp 17), none⟩])
                          (.seq
                            (.region false [
                              ⟨some 18, .move (.tmp 0), none⟩,
                              ⟨some 19, .load true 5 (.tmp 6), none⟩,
                              ⟨some 20, .call true (.const (.fn 655 [])) [(.tmp 18), (.tmp 19)] [], none⟩,
                              ⟨some 7, .assign (.tmp 20), none⟩])
                            (.seq
                              (.region false [
                                ⟨some 21, .move (.tmp 7), none⟩,
                                ⟨some 22, .bin 0 .neq (.tmp 21) (.const (.int .i64 0)), none⟩])
                              (.cond (.tmp 22)
                                (.seq
                                  (.region false [
                                    ⟨some 23, .move (.tmp 7), none⟩,
                                    ⟨some 4, .assign (.tmp 23), none⟩])
                                  .ret)
                                .skip)))))
                      (.region false [
                        ⟨some 24, .bin 0 .add (.tmp 14) (.const (.int .i64 1)), none⟩,
                        ⟨some 14, .move (.tmp 24), none⟩])))))))
          (.seq
            (.seq
              (.region false [
                ⟨some 25, .move (.tmp 1), none⟩,
                ⟨some 26, .len false (.tmp 25), none⟩,
                ⟨some 27, .move (.const (.int .i64 0)), none⟩])
              (.block 2
                (.loop [0, 1, 25, 26, 27]
                  (.seq
                    (.region false [
                      ⟨some 28, .bin 0 .lss (.tmp 27) (.tmp 26), none⟩])
                    (.seq
                      (.cond (.tmp 28)
                        .skip
                        (.exit 2))
                      (.seq
                        (.block 3
                          (.seq
                            (.region false [
                              ⟨some 29, .idxAddr (.tmp 25) (.tmp 27) 5, none⟩,
                              ⟨some 30, .load true 5 (.tmp 29), none⟩,
                              ⟨some 9, .box 5 (.const (.agg [.int .i64 0, .int .i64 0, .bool false, .int .i64 0, .sl true 0 1 [] []])), none⟩,
                              ⟨none, .store 5 (.tmp 9) (.tmp 30), none⟩])
                            (.region true [
                              ⟨some 31, .move (.tmp 0), none⟩,
                              ⟨some 32, .move (.tmp 0), none⟩,
                              ⟨some 33, .nilCheck (.tmp 32), none⟩,
                              ⟨some 34, .faddr (.tmp 33) 5, none⟩,
                              ⟨some 35, .load false 1 (.tmp 34), none⟩,
                              ⟨some 36, .load true 5 (.tmp 9), none⟩,
                              ⟨some 37, .call true (.const (.fn 656 [])) [(.tmp 36)] [], none⟩,
                              ⟨some 38, .buildSlice 1 5 [.int .i64 0, .int .i64 0, .bool false, .int .i64 0, .sl true 0 1 [] []] [(0, (.tmp 37))], none⟩,
                              ⟨some 39, .append 5 56 (.tmp 35) (.tmp 38), none⟩,
                              ⟨some 40, .nilCheck (.tmp 31), none⟩,
                              ⟨some 41, .faddr (.tmp 40) 5, none⟩,
                              ⟨none, .store 1 (.tmp 41) (.tmp 39), none⟩])))
                        (.region false [
                          ⟨some 42, .bin 0 .add (.tmp 27) (.const (.int .i64 1)), none⟩,
                          ⟨some 27, .move (.tmp 42), none⟩])))))))
            (.seq
              (.region false [
                ⟨some 43, .move (.tmp 0), none⟩,
                ⟨some 44, .nilCheck (.tmp 43), none⟩,
                ⟨some 45, .faddr (.tmp 44) 0, none⟩,
                ⟨some 46, .faddr (.tmp 45) 0, none⟩,
                ⟨some 47, .load false 1 (.tmp 46), none⟩,
                ⟨some 48, .move (.tmp 1), none⟩,
                ⟨some 49, .len false (.tmp 48), none⟩,
                ⟨some 50, .bin 0 .add (.tmp 47) (.tmp 49), none⟩,
                ⟨some 51, .nilCheck (.tmp 43), none⟩,
                ⟨some 52, .faddr (.tmp 51) 0, none⟩,
                ⟨some 53, .faddr (.tmp 52) 0, none⟩,
                ⟨none, .store 1 (.tmp 53) (.tmp 50), none⟩])
              (.seq
                (.region false [
                  ⟨some 4, .assign (.const (.int .i64 0)), none⟩])
                .ret)))))) }
/-- (*purlin/net.Net).Len -/
def tf651 : TFn := { ntmps := 10, results := [.tmp 2], body :=
    (.seq
      (.region false [
        ⟨some 2, .assign (.const (.int .i64 0)), none⟩])
      (.seq
        (.seq
          (.region false [
            ⟨some 3, .move (.tmp 0), none⟩,
            ⟨some 4, .bin 2 .eql (.tmp 3) (.const .nilptr), none⟩])
          (.cond (.tmp 4)
            (.seq
              (.region false [
                ⟨some 2, .assign (.const (.int .i64 0)), none⟩])
              .ret)
            .skip))
        (.seq
          (.region false [
            ⟨some 5, .move (.tmp 0), none⟩,
            ⟨some 6, .nilCheck (.tmp 5), none⟩,
            ⟨some 7, .faddr (.tmp 6) 5, none⟩,
            ⟨some 8, .load false 1 (.tmp 7), none⟩,
            ⟨some 9, .len false (.tmp 8), none⟩,
            ⟨some 2, .assign (.tmp 9), none⟩])
          .ret))) }
/-- purlin/purlintop.which -/
def tf592 : TFn := { ntmps := 14, results := [.tmp 4], body :=
    (.seq
      (.region false [
        ⟨some 4, .assign (.const (.int .i64 0)), none⟩])
      (.seq
        (.region false [
          ⟨some 5, .move (.tmp 0), none⟩,
          ⟨some 6, .move (.tmp 1), none⟩,
          ⟨some 7, .bin 0 .rem (.tmp 5) (.tmp 6), none⟩,
          ⟨some 0, .assign (.tmp 7), none⟩])
        (.seq
          (.seq
            (.region false [
              ⟨some 8, .move (.tmp 0), none⟩,
              ⟨some 9, .bin 0 .lss (.tmp 8) (.const (.int .i64 0)), none⟩])
            (.cond (.tmp 9)
              (.region false [
                ⟨some 10, .move (.tmp 0), none⟩,
                ⟨some 11, .move (.tmp 1), none⟩,
                ⟨some 12, .bin 0 .add (.tmp 10) (.tmp 11), none⟩,
                ⟨some 0, .assign (.tmp 12), none⟩])
              .skip))
          (.seq
            (.region false [
              ⟨some 13, .move (.tmp 0), none⟩,
              ⟨some 4, .assign (.tmp 13), none⟩])
            .ret)))) }
/-- (*purlin/net.Net).Double -/
def tf652 : TFn := { ntmps := 38, results := [.tmp 4], body :=
    (.seq
      (.region false [
        ⟨some 4, .assign (.const (.int .i64 0)), none⟩])
      (.seq
        (.seq
          (.region false [
            ⟨some 6, .move (.tmp 0), none⟩,
            ⟨some 7, .move (.tmp 1), none⟩,
            ⟨some 8, .call true (.const (.fn 657 [])) [(.tmp 6), (.tmp 7)] [], none⟩,
            ⟨some 5, .assign (.tmp 8), none⟩])
          (.seq
            (.region false [
              ⟨some 9, .move (.tmp 5), none⟩,
              ⟨some 10, .bin 0 .neq (.tmp 9) (.const (.int .i64 0)), none⟩])
            (.cond (.tmp 10)
              (.seq
                (.region false [
                  ⟨some 11, .move (.tmp 5), none⟩,
                  ⟨some 4, .assign (.tmp 11), none⟩])
                .ret)
              .skip)))
        (.seq
          (.region false [
            ⟨some 12, .move (.tmp 0), none⟩,
            ⟨some 13, .nilCheck (.tmp 12), none⟩,
            ⟨some 14, .faddr (.tmp 13) 0, none⟩,
            ⟨some 15, .faddr (.tmp 14) 3, none⟩,
            ⟨some 16, .load false 1 (.tmp 15), none⟩,
            ⟨some 17, .bin 0 .add (.tmp 16) (.const (.int .i64 1)), none⟩,
            ⟨some 18, .nilCheck (.tmp 12), none⟩,
            ⟨some 19, .faddr (.tmp 18) 0, none⟩,
            ⟨some 20, .faddr (.tmp 19) 3, none⟩,
            ⟨none, .store 1 (.tmp 20) (.tmp 17), none⟩])
          (.seq
            (.region true [
              ⟨some 21, .move (.tmp 0), none⟩,
              ⟨some 22, .move (.tmp 0), none⟩,
              ⟨some 23, .nilCheck (.tmp 22), none⟩,
              ⟨some 24, .faddr (.tmp 23) 5, none⟩,
              ⟨some 25, .load false 1 (.tmp 24), none⟩,
              ⟨some 26, .move (.tmp 0), none⟩,
              ⟨some 27, .nilCheck (.tmp 26), none⟩,
              ⟨some 28, .faddr (.tmp 27) 5, none⟩,
              ⟨some 29, .load false 1 (.tmp 28), none⟩,
              ⟨some 30, .move (.tmp 1), none⟩,
              ⟨some 31, .idxAddr (.tmp 29) (.tmp 30) 5, none⟩,
              ⟨some 32, .load true 5 (.tmp 31), none⟩,
              ⟨some 33, .call true (.const (.fn 656 [])) [(.tmp 32)] [], none⟩,
              ⟨some 34, .buildSlice 1 5 [.int .i64 0, .int .i64 0, .bool false, .int .i64 0, .sl true 0 1 [] []] [(0, (.tmp 33))], none⟩,
              ⟨some 35, .append 5 56 (.tmp 25) (.tmp 34), none⟩,
              ⟨some 36, .nilCheck (.tmp 21), none⟩,
              ⟨some 37, .faddr (.tmp 36) 5, none⟩,
              ⟨none, .store 1 (.tmp 37) (.tmp 35), none⟩])
            (.seq
              (.region false [
                ⟨some 4, .assign (.const (.int .i64 0)), none⟩])
              .ret))))) }
/-- (*purlin/net.Net).Drop -/
def tf653 : TFn := { ntmps := 24, results := [.tmp 4], body :=
    (.seq
      (.region false [
        ⟨some 4, .assign (.const (.int .i64 0)), none⟩])
      (.seq
        (.seq
          (.region false [
            ⟨some 6, .move (.tmp 0), none⟩,
            ⟨some 7, .move (.tmp 1), none⟩,
            ⟨some 8, .call true (.const (.fn 657 [])) [(.tmp 6), (.tmp 7)] [], none⟩,
            ⟨some 5, .assign (.tmp 8), none⟩])
          (.seq
            (.region false [
              ⟨some 9, .move (.tmp 5), none⟩,
              ⟨some 10, .bin 0 .neq (.tmp 9) (.const (.int .i64 0)), none⟩])
            (.cond (.tmp 10)
              (.seq
                (.region false [
                  ⟨some 11, .move (.tmp 5), none⟩,
                  ⟨some 4, .assign (.tmp 11), none⟩])
                .ret)
              .skip)))
        (.seq
          (.region false [
            ⟨some 12, .move (.tmp 0), none⟩,
            ⟨some 13, .nilCheck (.tmp 12), none⟩,
            ⟨some 14, .faddr (.tmp 13) 0, none⟩,
            ⟨some 15, .faddr (.tmp 14) 2, none⟩,
            ⟨some 16, .load false 1 (.tmp 15), none⟩,
            ⟨some 17, .bin 0 .add (.tmp 16) (.const (.int .i64 1)), none⟩,
            ⟨some 18, .nilCheck (.tmp 12), none⟩,
            ⟨some 19, .faddr (.tmp 18) 0, none⟩,
            ⟨some 20, .faddr (.tmp 19) 2, none⟩,
            ⟨none, .store 1 (.tmp 20) (.tmp 17), none⟩])
          (.seq
            (.region false [
              ⟨some 21, .move (.tmp 0), none⟩,
              ⟨some 22, .move (.tmp 1), none⟩,
              ⟨some 23, .call false (.const (.fn 658 [])) [(.tmp 21), (.tmp 22)] [], none⟩])
            (.seq
              (.region false [
                ⟨some 4, .assign (.const (.int .i64 0)), none⟩])
              .ret))))) }
/-- (*purlin/net.Net).Deliver -/
def tf654 : TFn := { ntmps := 26, results := [.cell 4 true 5, .tmp 5], body :=
    (.seq
      (.region false [
        ⟨some 4, .box 5 (.const (.agg [.int .i64 0, .int .i64 0, .bool false, .int .i64 0, .sl true 0 1 [] []])), none⟩,
        ⟨some 5, .assign (.const (.int .i64 0)), none⟩])
      (.seq
        (.seq
          (.region false [
            ⟨some 7, .move (.tmp 0), none⟩,
            ⟨some 8, .move (.tmp 1), none⟩,
            ⟨some 9, .call true (.const (.fn 657 [])) [(.tmp 7), (.tmp 8)] [], none⟩,
            ⟨some 6, .assign (.tmp 9), none⟩])
          (.seq
            (.region false [
              ⟨some 10, .move (.tmp 6), none⟩,
              ⟨some 11, .bin 0 .neq (.tmp 10) (.const (.int .i64 0)), none⟩])
            (.cond (.tmp 11)
              (.seq
                (.region false [
                  ⟨some 12, .build [.int .i64 0, .int .i64 0, .bool false, .int .i64 0, .sl true 0 1 [] []] [], none⟩,
                  ⟨some 13, .move (.tmp 6), none⟩,
                  ⟨none, .store 5 (.tmp 4) (.tmp 12), none⟩,
                  ⟨some 5, .assign (.tmp 13), none⟩])
                .ret)
              .skip)))
        (.seq
          (.region false [
            ⟨some 14, .move (.tmp 0), none⟩,
            ⟨some 15, .nilCheck (.tmp 14), none⟩,
            ⟨some 16, .faddr (.tmp 15) 0, none⟩,
            ⟨some 17, .faddr (.tmp 16) 1, none⟩,
            ⟨some 18, .load false 1 (.tmp 17), none⟩,
            ⟨some 19, .bin 0 .add (.tmp 18) (.const (.int .i64 1)), none⟩,
            ⟨some 20, .nilCheck (.tmp 14), none⟩,
            ⟨some 21, .faddr (.tmp 20) 0, none⟩,
            ⟨some 22, .faddr (.tmp 21) 1, none⟩,
            ⟨none, .store 1 (.tmp 22) (.tmp 19), none⟩])
          (.seq
            (.region false [
              ⟨some 23, .move (.tmp 0), none⟩,
              ⟨some 24, .move (.tmp 1), none⟩,
              ⟨some 25, .call false (.const (.fn 658 [])) [(.tmp 23), (.tmp 24)] [], none⟩,
              ⟨none, .store 5 (.tmp 4) (.tmp 25), none⟩,
              ⟨some 5, .assign (.const (.int .i64 0)), none⟩])
            .ret)))) }
/-- (*purlin/net.Net).look -/
def tf655 : TFn := { ntmps := 46, results := [.tmp 4], body :=
    (.seq
      (.region false [
        ⟨some 2, .box 1 (.tmp 0), none⟩,
        ⟨some 3, .box 5 (.tmp 1), none⟩,
        ⟨some 4, .assign (.const (.int .i64 0)), none⟩])
      (.seq
        (.region false [
          ⟨some 6, .makeFunc 659 [(.tmp 2)], none⟩,
          ⟨some 5, .assign (.tmp 6), none⟩])
        (.seq
          (.block 0
            (.seq
              (.region false [
                ⟨some 8, .move (.tmp 5), none⟩,
                ⟨some 9, .faddr (.tmp 3) 0, none⟩,
                ⟨some 10, .load false 1 (.tmp 9), none⟩,
                ⟨some 11, .call true (.tmp 8) [(.tmp 10)] [], none⟩,
                ⟨some 12, .un .not (.tmp 11), none⟩,
                ⟨some 13, .move (.tmp 12), none⟩,
                ⟨some 14, .move (.tmp 5), (some (13, false))⟩,
                ⟨some 15, .faddr (.tmp 3) 1, (some (13, false))⟩,
                ⟨some 16, .load false 1 (.tmp 15), (some (13, false))⟩,
                ⟨some 17, .call true (.tmp 14) [(.tmp 16)] [], (some (13, false))⟩,
                ⟨some 18, .un .not (.tmp 17), (some (13, false))⟩,
                ⟨some 19, .pick (.tmp 13) (.const (.bool true)) (.tmp 18), none⟩,
                ⟨some 20, .move (.tmp 19), none⟩,
                ⟨some 21, .faddr (.tmp 3) 0, (some (20, false))⟩,
                ⟨some 22, .load false 1 (.tmp 21), (some (20, false))⟩,
                ⟨some 23, .faddr (.tmp 3) 1, (some (20, false))⟩,
                ⟨some 24, .load false 1 (.tmp 23), (some (20, false))⟩,
                ⟨some 25, .bin 0 .eql (.tmp 22) (.tmp 24), (some (20, false))⟩,
                ⟨some 26, .pick (.tmp 20) (.const (.bool true)) (.tmp 25), none⟩,
                ⟨some 27, .move (.tmp 26), none⟩,
                ⟨some 28, .faddr (.tmp 3) 3, (some (27, false))⟩,
                ⟨some 29, .load false 1 (.tmp 28), (some (27, false))⟩,
                ⟨some 30, .bin 0 .lss (.tmp 29) (.const (.int .i64 0)), (some (27, false))⟩,
                ⟨some 31, .pick (.tmp 27) (.const (.bool true)) (.tmp 30), none⟩,
                ⟨some 7, .assign (.tmp 31), none⟩])
              (.cond (.tmp 7)
                (.seq
                  (.region false [
                    ⟨some 4, .assign (.const (.int .i64 2)), none⟩])
                  .ret)
                (.seq
                  (.region false [
                    ⟨some 33, .faddr (.tmp 3) 4, none⟩,
                    ⟨some 34, .load false 1 (.tmp 33), none⟩,
                    ⟨some 35, .len false (.tmp 34), none⟩,
                    ⟨some 36, .bin 0 .gtr (.tmp 35) (.const (.int .i64 65536)), none⟩,
                    ⟨some 32, .assign (.tmp 36), none⟩])
                  (.cond (.tmp 32)
                    (.seq
                      (.region false [
                        ⟨some 4, .assign (.const (.int .i64 5)), none⟩])
                      .ret)
                    (.seq
                      (.region false [
                        ⟨some 38, .faddr (.tmp 3) 2, none⟩,
                        ⟨some 39, .load false 1 (.tmp 38), none⟩,
                        ⟨some 40, .move (.tmp 39), none⟩,
                        ⟨some 41, .faddr (.tmp 3) 4, (some (40, true))⟩,
                        ⟨some 42, .load false 1 (.tmp 41), (some (40, true))⟩,
                        ⟨some 43, .len false (.tmp 42), (some (40, true))⟩,
                        ⟨some 44, .bin 0 .gtr (.tmp 43) (.const (.int .i64 0)), (some (40, true))⟩,
                        ⟨some 45, .pick (.tmp 40) (.tmp 44) (.const (.bool false)), none⟩,
                        ⟨some 37, .assign (.tmp 45), none⟩])
                      (.cond (.tmp 37)
                        (.seq
                          (.region false [
                            ⟨some 4, .assign (.const (.int .i64 6)), none⟩])
                          .ret)
                        .skip)))))))
          (.seq
            (.region false [
              ⟨some 4, .assign (.const (.int .i64 0)), none⟩])
            .ret)))) }
/-- purlin/net.copied -/
def tf656 : TFn := { ntmps := 8, results := [.cell 2 true 5], body :=
    (.seq
      (.region false [
        ⟨some 1, .box 5 (.tmp 0), none⟩,
        ⟨some 2, .box 5 (.const (.agg [.int .i64 0, .int .i64 0, .bool false, .int .i64 0, .sl true 0 1 [] []])), none⟩])
      (.seq
        (.region false [
          ⟨some 3, .faddr (.tmp 1) 4, none⟩,
          ⟨some 4, .load false 1 (.tmp 3), none⟩,
          ⟨some 5, .call true (.const (.fn 635 [])) [(.tmp 4)] [], none⟩,
          ⟨some 6, .faddr (.tmp 1) 4, none⟩,
          ⟨none, .store 1 (.tmp 6) (.tmp 5), none⟩])
        (.seq
          (.region false [
            ⟨some 7, .load true 5 (.tmp 1), none⟩,
            ⟨none, .store 5 (.tmp 2) (.tmp 7), none⟩])
          .ret))) }
/-- (*purlin/net.Net).at -/
def tf657 : TFn := { ntmps := 20, results := [.tmp 4], body :=
    (.seq
      (.region false [
        ⟨some 4, .assign (.const (.int .i64 0)), none⟩])
      (.seq
        (.block 0
          (.seq
            (.region false [
              ⟨some 6, .move (.tmp 0), none⟩,
              ⟨some 7, .bin 2 .eql (.tmp 6) (.const .nilptr), none⟩,
              ⟨some 5, .assign (.tmp 7), none⟩])
            (.cond (.tmp 5)
              (.seq
                (.region false [
                  ⟨some 4, .assign (.const (.int .i64 1)), none⟩])
                .ret)
              (.seq
                (.region false [
                  ⟨some 9, .move (.tmp 1), none⟩,
                  ⟨some 10, .bin 0 .lss (.tmp 9) (.const (.int .i64 0)), none⟩,
                  ⟨some 11, .move (.tmp 10), none⟩,
                  ⟨some 12, .move (.tmp 1), (some (11, false))⟩,
                  ⟨some 13, .move (.tmp 0), (some (11, false))⟩,
                  ⟨some 14, .nilCheck (.tmp 13), (some (11, false))⟩,
                  ⟨some 15, .faddr (.tmp 14) 5, (some (11, false))⟩,
                  ⟨some 16, .load false 1 (.tmp 15), (some (11, false))⟩,
                  ⟨some 17, .len false (.tmp 16), (some (11, false))⟩,
                  ⟨some 18, .bin 0 .geq (.tmp 12) (.tmp 17), (some (11, false))⟩,
                  ⟨some 19, .pick (.tmp 11) (.const (.bool true)) (.tmp 18), none⟩,
                  ⟨some 8, .assign (.tmp 19), none⟩])
                (.cond (.tmp 8)
                  (.seq
                    (.region false [
                      ⟨some 4, .assign (.const (.int .i64 4)), none⟩])
                    .ret)
                  .skip)))))
        (.seq
          (.region false [
            ⟨some 4, .assign (.const (.int .i64 0)), none⟩])
          .ret))) }
/-- (*purlin/net.Net).out -/
def tf658 : TFn := { ntmps := 32, results := [.cell 4 true 5], body :=
    (.seq
      (.region false [
        ⟨some 4, .box 5 (.const (.agg [.int .i64 0, .int .i64 0, .bool false, .int .i64 0, .sl true 0 1 [] []])), none⟩])
      (.seq
        (.region false [
          ⟨some 6, .move (.tmp 0), none⟩,
          ⟨some 7, .nilCheck (.tmp 6), none⟩,
          ⟨some 8, .faddr (.tmp 7) 5, none⟩,
          ⟨some 9, .load false 1 (.tmp 8), none⟩,
          ⟨some 10, .move (.tmp 1), none⟩,
          ⟨some 11, .idxAddr (.tmp 9) (.tmp 10) 5, none⟩,
          ⟨some 12, .load true 5 (.tmp 11), none⟩,
          ⟨some 5, .box 5 (.const (.agg [.int .i64 0, .int .i64 0, .bool false, .int .i64 0, .sl true 0 1 [] []])), none⟩,
          ⟨none, .store 5 (.tmp 5) (.tmp 12), none⟩])
        (.seq
          (.region true [
            ⟨some 13, .move (.tmp 0), none⟩,
            ⟨some 14, .move (.tmp 0), none⟩,
            ⟨some 15, .nilCheck (.tmp 14), none⟩,
            ⟨some 16, .faddr (.tmp 15) 5, none⟩,
            ⟨some 17, .load false 1 (.tmp 16), none⟩,
            ⟨some 18, .move (.tmp 1), none⟩,
            ⟨some 19, .slice 5 (.tmp 17) none (some (.tmp 18)), none⟩,
            ⟨some 20, .move (.tmp 0), none⟩,
            ⟨some 21, .nilCheck (.tmp 20), none⟩,
            ⟨some 22, .faddr (.tmp 21) 5, none⟩,
            ⟨some 23, .load false 1 (.tmp 22), none⟩,
            ⟨some 24, .move (.tmp 1), none⟩,
            ⟨some 25, .bin 0 .add (.tmp 24) (.const (.int .i64 1)), none⟩,
            ⟨some 26, .slice 5 (.tmp 23) (some (.tmp 25)) none, none⟩,
            ⟨some 27, .buildSlice 2 1 [.sl true 0 5 [] []] [(0, (.tmp 19)), (1, (.tmp 26))], none⟩,
            ⟨some 28, .call true (.const (.fn 660 [])) [(.tmp 27)] [], none⟩,
            ⟨some 29, .nilCheck (.tmp 13), none⟩,
            ⟨some 30, .faddr (.tmp 29) 5, none⟩,
            ⟨none, .store 1 (.tmp 30) (.tmp 28), none⟩])
          (.seq
            (.region false [
              ⟨some 31, .load true 5 (.tmp 5), none⟩,
              ⟨none, .store 5 (.tmp 4) (.tmp 31), none⟩])
            .ret)))) }
/-- (*purlin/net.Net).look$1 -/
def tf659 : TFn := { ntmps := 14, results := [.tmp 3], body :=
    (.seq
      (.region false [
        ⟨some 3, .assign (.const (.bool false)), none⟩])
      (.seq
        (.region false [
          ⟨some 4, .move (.tmp 0), none⟩,
          ⟨some 5, .bin 0 .geq (.tmp 4) (.const (.int .i64 0)), none⟩,
          ⟨some 6, .move (.tmp 5), none⟩,
          ⟨some 7, .move (.tmp 0), (some (6, true))⟩,
          ⟨some 8, .load false 1 (.tmp 1), (some (6, true))⟩,
          ⟨some 9, .nilCheck (.tmp 8), (some (6, true))⟩,
          ⟨some 10, .faddr (.tmp 9) 4, (some (6, true))⟩,
          ⟨some 11, .load false 1 (.tmp 10), (some (6, true))⟩,
          ⟨some 12, .bin 0 .lss (.tmp 7) (.tmp 11), (some (6, true))⟩,
          ⟨some 13, .pick (.tmp 6) (.tmp 12) (.const (.bool false)), none⟩,
          ⟨some 3, .assign (.tmp 13), none⟩])
        .ret)) }
/-- slices.Concat[[]purlin/api.Datagram,purlin/api.Datagram] -/
def tf660 : TFn := { ntmps := 36, results := [.tmp 2], body :=
    (.seq
      (.region false [
        ⟨some 2, .assign (.const (.sl true 0 5 [] [])), none⟩])
      (.seq
        (.region false [
          ⟨some 3, .assign (.const (.int .i64 0)), none⟩])
        (.seq
          (.seq
            (.region false [
              ⟨some 9, .move (.tmp 0), none⟩,
              ⟨some 10, .len false (.tmp 9), none⟩,
              ⟨some 11, .move (.const (.int .i64 0)), none⟩])
            (.block 0
              (.loop [0, 3, 9, 10, 11]
                (.seq
                  (.region false [
                    ⟨some 12, .bin 0 .lss (.tmp 11) (.tmp 10), none⟩])
                  (.seq
                    (.cond (.tmp 12)
                      .skip
                      (.exit 0))
                    (.seq
                      (.block 1
                        (.seq
                          (.region false [
                            ⟨some 13, .idxAddr (.tmp 9) (.tmp 11) 1, none⟩,
                            ⟨some 14, .load false 1 (.tmp 13), none⟩,
                            ⟨some 5, .assign (.tmp 14), none⟩])
                          (.seq
                            (.region false [
                              ⟨some 15, .move (.tmp 3), none⟩,
                              ⟨some 16, .move (.tmp 5), none⟩,
                              ⟨some 17, .len false (.tmp 16), none⟩,
                              ⟨some 18, .bin 0 .add (.tmp 15) (.tmp 17), none⟩,
                              ⟨some 3, .assign (.tmp 18), none⟩])
                            (.seq
                              (.region false [
                                ⟨some 19, .move (.tmp 3), none⟩,
                                ⟨some 20, .bin 0 .lss (.tmp 19) (.const (.int .i64 0)), none⟩])
                              (.cond (.tmp 20)
                                (.region false [
                                  ⟨some 21, .fail, none⟩,
                                  ⟨none, .fail, none⟩])
                                .skip)))))
                      (.region false [
                        ⟨some 22, .bin 0 .add (.tmp 11) (.const (.int .i64 1)), none⟩,
                        ⟨some 11, .move (.tmp 22), none⟩])))))))
          (.seq
            (.region false [
              ⟨some 23, .move (.tmp 3), none⟩,
              ⟨some 24, .call true (.const (.fn 661 [])) [(.const (.sl true 0 5 [] [])), (.tmp 23)] [], none⟩,
              ⟨some 6, .assign (.tmp 24), none⟩])
            (.seq
              (.seq
                (.region false [
                  ⟨some 25, .move (.tmp 0), none⟩,
                  ⟨some 26, .len false (.tmp 25), none⟩,
                  ⟨some 27, .move (.const (.int .i64 0)), none⟩])
                (.block 2
                  (.loop [6, 25, 26, 27]
                    (.seq
                      (.region false [
                        ⟨some 28, .bin 0 .lss (.tmp 27) (.tmp 26), none⟩])
                      (.seq
                        (.cond (.tmp 28)
                          .skip
                          (.exit 2))
                        (.seq
                          (.block 3
                            (.seq
                              (.region false [
                                ⟨some 29, .idxAddr (.tmp 25) (.tmp 27) 1, none⟩,
                                ⟨some 30, .load false 1 (.tmp 29), none⟩,
                                ⟨some 8, .assign (.tmp 30), none⟩])
                              (.region false [
                                ⟨some 31, .move (.tmp 6), none⟩,
                                ⟨some 32, .move (.tmp 8), none⟩,
                                ⟨some 33, .append 5 56 (.tmp 31) (.tmp 32), none⟩,
                                ⟨some 6, .assign (.tmp 33), none⟩])))
                          (.region false [
                            ⟨some 34, .bin 0 .add (.tmp 27) (.const (.int .i64 1)), none⟩,
                            ⟨some 27, .move (.tmp 34), none⟩])))))))
              (.seq
                (.region false [
                  ⟨some 35, .move (.tmp 6), none⟩,
                  ⟨some 2, .assign (.tmp 35), none⟩])
                .ret)))))) }
def fnTableC : List (Nat × TFn) := [(662, tf662), (649, tf649), (650, tf650), (651, tf651), (592, tf592), (652, tf652), (653, tf653), (654, tf654), (655, tf655), (656, tf656), (657, tf657), (658, tf658), (659, tf659), (660, tf660)]
def nuTableC : List (Nat × Nat) := [(3, 662), (4, 649), (5, 490), (6, 483), (7, 650), (8, 651), (9, 592), (10, 652), (11, 653), (12, 654), (13, 486), (14, 508), (15, 509), (16, 510), (17, 506), (18, 495), (19, 496), (20, 497), (21, 498), (22, 655), (23, 656), (24, 657), (25, 658), (26, 499), (27, 500), (28, 501), (29, 521), (30, 25), (31, 514), (32, 659), (33, 635), (34, 660), (35, 515), (36, 516), (37, 517), (38, 513), (39, 518), (40, 519), (41, 30), (42, 43), (43, 44), (44, 661), (45, 522), (46, 31), (47, 46), (48, 32), (49, 56), (50, 523), (51, 524), (52, 47), (53, 48), (54, 57), (55, 49), (56, 1), (57, 50), (58, 248), (59, 51), (60, 52), (61, 7), (62, 9), (63, 58), (64, 33), (65, 34), (66, 35), (67, 37), (68, 53), (69, 564)]
end Tree
