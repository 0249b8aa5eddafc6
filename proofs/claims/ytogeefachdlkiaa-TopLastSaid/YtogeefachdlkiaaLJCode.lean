/- The law TopLast: the code of its functions. -/
import Derived.Test.YtogeefachdlkiaaTA
set_option autoImplicit false
set_option maxRecDepth 100000
namespace Tree
open Go
/-- purlin/purlintop.TopLast -/
def tf633 : TFn := { ntmps := 165, results := [.tmp 4], body :=
    (.seq
      (.region false [
        ⟨some 4, .assign (.const (.bool false)), none⟩])
      (.seq
        (.region false [
          ⟨some 23, .call false (.const (.fn 627 [])) [] [], none⟩,
          ⟨some 5, .assign (.tmp 23), none⟩])
        (.seq
          (.region false [
            ⟨some 25, .call false (.const (.fn 109 [])) [(.const (.int .i64 0)), (.const (.int .i64 2))] [], none⟩,
            ⟨some 24, .move (.tmp 25), none⟩,
            ⟨some 26, .extract (.tmp 24) 0, none⟩,
            ⟨some 27, .extract (.tmp 24) 1, none⟩,
            ⟨some 6, .assign (.tmp 26), none⟩,
            ⟨some 7, .assign (.tmp 27), none⟩])
          (.seq
            (.seq
              (.region false [
                ⟨some 28, .move (.tmp 7), none⟩,
                ⟨some 29, .bin 0 .neq (.tmp 28) (.const (.int .i64 0)), none⟩,
                ⟨some 30, .move (.tmp 29), none⟩,
                ⟨some 31, .move (.tmp 5), (some (30, false))⟩,
                ⟨some 32, .bin 2 .eql (.tmp 31) (.const .nilptr), (some (30, false))⟩,
                ⟨some 33, .pick (.tmp 30) (.const (.bool true)) (.tmp 32), none⟩])
              (.cond (.tmp 33)
                (.seq
                  (.region false [
                    ⟨some 4, .assign (.const (.bool false)), none⟩])
                  .ret)
                .skip))
            (.seq
              (.seq
                (.region false [
                  ⟨some 8, .assign (.const (.int .i64 0)), none⟩])
                (.block 0
                  (.loop [0, 1, 5, 6, 8]
                    (.seq
                      (.seq
                        (.region false [
                          ⟨some 34, .move (.tmp 8), none⟩,
                          ⟨some 35, .move (.tmp 0), none⟩,
                          ⟨some 36, .len false (.tmp 35), none⟩,
                          ⟨some 37, .bin 0 .lss (.tmp 34) (.tmp 36), none⟩,
                          ⟨some 38, .move (.tmp 37), none⟩,
                          ⟨some 39, .move (.tmp 8), (some (38, true))⟩,
                          ⟨some 40, .bin 0 .lss (.tmp 39) (.const (.int .i64 50)), (some (38, true))⟩,
                          ⟨some 41, .pick (.tmp 38) (.tmp 40) (.const (.bool false)), none⟩])
                        (.cond (.tmp 41)
                          .skip
                          (.exit 0)))
                      (.seq
                        (.block 1
                          (.seq
                            (.seq
                              (.region false [
                                ⟨some 44, .move (.tmp 0), none⟩,
                                ⟨some 45, .move (.tmp 8), none⟩,
                                ⟨some 46, .idxAddr (.tmp 44) (.tmp 45) 1, none⟩,
                                ⟨some 47, .load false 1 (.tmp 46), none⟩,
                                ⟨some 48, .len false (.tmp 47), none⟩,
                                ⟨some 49, .bin 0 .gtr (.tmp 48) (.const (.int .i64 1000)), none⟩])
                              (.cond (.tmp 49)
                                (.exit 1)
                                .skip))
                            (.seq
                              (.seq
                                (.region false [
                                  ⟨some 50, .move (.tmp 5), none⟩,
                                  ⟨some 51, .move (.tmp 0), none⟩,
                                  ⟨some 52, .move (.tmp 8), none⟩,
                                  ⟨some 53, .idxAddr (.tmp 51) (.tmp 52) 1, none⟩,
                                  ⟨some 54, .load false 1 (.tmp 53), none⟩,
                                  ⟨some 55, .call false (.const (.fn 628 [])) [(.tmp 50), (.tmp 54)] [], none⟩,
                                  ⟨some 56, .bin 0 .neq (.tmp 55) (.const (.int .i64 0)), none⟩])
                                (.cond (.tmp 56)
                                  (.seq
                                    (.region false [
                                      ⟨some 4, .assign (.const (.bool false)), none⟩])
                                    .ret)
                                  .skip))
                              (.seq
                                (.region false [
                                  ⟨some 58, .move (.tmp 6), none⟩,
                                  ⟨some 59, .move (.tmp 0), none⟩,
                                  ⟨some 60, .move (.tmp 8), none⟩,
                                  ⟨some 61, .idxAddr (.tmp 59) (.tmp 60) 1, none⟩,
                                  ⟨some 62, .load false 1 (.tmp 61), none⟩,
                                  ⟨some 63, .call false (.const (.fn 111 [])) [(.tmp 58), (.const (.int .i64 1)), (.tmp 62)] [], none⟩,
                                  ⟨some 57, .move (.tmp 63), none⟩,
                                  ⟨some 64, .extract (.tmp 57) 0, none⟩,
                                  ⟨some 65, .extract (.tmp 57) 1, none⟩,
                                  ⟨some 9, .box 5 (.const (.agg [.int .i64 0, .int .i64 0, .bool false, .int .i64 0, .sl true 0 1 [] []])), none⟩,
                                  ⟨none, .store 5 (.tmp 9) (.tmp 64), none⟩,
                                  ⟨some 10, .assign (.tmp 65), none⟩])
                                (.seq
                                  (.region false [
                                    ⟨some 66, .move (.tmp 10), none⟩,
                                    ⟨some 67, .bin 0 .neq (.tmp 66) (.const (.int .i64 0)), none⟩])
                                  (.cond (.tmp 67)
                                    (.seq
                                      (.region false [
                                        ⟨some 4, .assign (.const (.bool false)), none⟩])
                                      .ret)
                                    .skip))))))
                        (.region false [
                          ⟨some 42, .move (.tmp 8), none⟩,
                          ⟨some 43, .bin 0 .add (.tmp 42) (.const (.int .i64 1)), none⟩,
                          ⟨some 8, .assign (.tmp 43), none⟩]))))))
              (.seq
                (.region false [
                  ⟨some 68, .move (.tmp 5), none⟩,
                  ⟨some 69, .call true (.const (.fn 629 [])) [(.tmp 68)] [], none⟩,
                  ⟨some 11, .assign (.tmp 69), none⟩])
                (.seq
                  (.region false [
                    ⟨some 70, .move (.tmp 1), none⟩,
                    ⟨some 71, .move (.tmp 11), none⟩,
                    ⟨some 72, .len false (.tmp 71), none⟩,
                    ⟨some 73, .bin 0 .add (.tmp 72) (.const (.int .i64 1)), none⟩,
                    ⟨some 74, .call true (.const (.fn 592 [])) [(.tmp 70), (.tmp 73)] [], none⟩,
                    ⟨some 12, .assign (.tmp 74), none⟩])
                  (.seq
                    (.region false [
                      ⟨some 75, .move (.tmp 11), none⟩,
                      ⟨some 76, .move (.tmp 12), none⟩,
                      ⟨some 77, .slice 1 (.tmp 75) none (some (.tmp 76)), none⟩,
                      ⟨some 78, .call false (.const (.fn 630 [])) [(.tmp 77)] [], none⟩,
                      ⟨some 13, .assign (.tmp 78), none⟩])
                    (.seq
                      (.region false [
                        ⟨some 79, .move (.tmp 13), none⟩,
                        ⟨some 80, .call false (.const (.fn 631 [])) [(.tmp 79)] [], none⟩])
                      (.seq
                        (.region false [
                          ⟨some 82, .call false (.const (.fn 109 [])) [(.const (.int .i64 0)), (.const (.int .i64 2))] [], none⟩,
                          ⟨some 81, .move (.tmp 82), none⟩,
                          ⟨some 83, .extract (.tmp 81) 0, none⟩,
                          ⟨some 84, .extract (.tmp 81) 1, none⟩,
                          ⟨some 14, .assign (.tmp 83), none⟩,
                          ⟨some 15, .assign (.tmp 84), none⟩])
                        (.seq
                          (.region false [
                            ⟨some 85, .move (.tmp 13), none⟩,
                            ⟨some 86, .call true (.const (.fn 632 [])) [(.tmp 85)] [], none⟩,
                            ⟨some 16, .assign (.tmp 86), none⟩])
                          (.seq
                            (.seq
                              (.region false [
                                ⟨some 17, .assign (.const (.int .i64 0)), none⟩])
                              (.block 2
                                (.loop [6, 11, 12, 14, 16, 17]
                                  (.seq
                                    (.seq
                                      (.region false [
                                        ⟨some 87, .move (.tmp 17), none⟩,
                                        ⟨some 88, .move (.tmp 16), none⟩,
                                        ⟨some 89, .len false (.tmp 88), none⟩,
                                        ⟨some 90, .bin 0 .lss (.tmp 87) (.tmp 89), none⟩])
                                      (.cond (.tmp 90)
                                        .skip
                                        (.exit 2)))
                                    (.seq
                                      (.block 3
                                        (.seq
                                          (.region false [
                                            ⟨some 94, .move (.tmp 14), none⟩,
                                            ⟨some 95, .move (.tmp 16), none⟩,
                                            ⟨some 96, .move (.tmp 17), none⟩,
                                            ⟨some 97, .idxAddr (.tmp 95) (.tmp 96) 1, none⟩,
                                            ⟨some 98, .load false 1 (.tmp 97), none⟩,
                                            ⟨some 99, .call false (.const (.fn 111 [])) [(.tmp 94), (.const (.int .i64 1)), (.tmp 98)] [], none⟩,
                                            ⟨some 93, .move (.tmp 99), none⟩,
                                            ⟨some 100, .extract (.tmp 93) 0, none⟩,
                                            ⟨some 101, .extract (.tmp 93) 1, none⟩,
                                            ⟨some 18, .box 5 (.const (.agg [.int .i64 0, .int .i64 0, .bool false, .int .i64 0, .sl true 0 1 [] []])), none⟩,
                                            ⟨none, .store 5 (.tmp 18) (.tmp 100), none⟩,
                                            ⟨some 19, .assign (.tmp 101), none⟩])
                                          (.seq
                                            (.region false [
                                              ⟨some 102, .move (.tmp 19), none⟩,
                                              ⟨some 103, .bin 0 .neq (.tmp 102) (.const (.int .i64 0)), none⟩])
                                            (.cond (.tmp 103)
                                              (.seq
                                                (.region false [
                                                  ⟨some 4, .assign (.const (.bool false)), none⟩])
                                                .ret)
                                              .skip))))
                                      (.region false [
                                        ⟨some 91, .move (.tmp 17), none⟩,
                                        ⟨some 92, .bin 0 .add (.tmp 91) (.const (.int .i64 1)), none⟩,
                                        ⟨some 17, .assign (.tmp 92), none⟩]))))))
                            (.seq
                              (.region false [
                                ⟨some 104, .move (.tmp 6), none⟩,
                                ⟨some 105, .call true (.const (.fn 113 [])) [(.tmp 104)] [], none⟩,
                                ⟨some 106, .move (.tmp 14), none⟩,
                                ⟨some 107, .call true (.const (.fn 113 [])) [(.tmp 106)] [], none⟩,
                                ⟨some 20, .assign (.tmp 105), none⟩,
                                ⟨some 21, .assign (.tmp 107), none⟩])
                              (.seq
                                (.seq
                                  (.region false [
                                    ⟨some 108, .move (.tmp 21), none⟩,
                                    ⟨some 109, .len false (.tmp 108), none⟩,
                                    ⟨some 110, .move (.tmp 20), none⟩,
                                    ⟨some 111, .len false (.tmp 110), none⟩,
                                    ⟨some 112, .bin 0 .gtr (.tmp 109) (.tmp 111), none⟩,
                                    ⟨some 113, .move (.tmp 112), none⟩,
                                    ⟨some 114, .move (.tmp 21), (some (113, false))⟩,
                                    ⟨some 115, .len false (.tmp 114), (some (113, false))⟩,
                                    ⟨some 116, .move (.tmp 16), (some (113, false))⟩,
                                    ⟨some 117, .len false (.tmp 116), (some (113, false))⟩,
                                    ⟨some 118, .bin 0 .neq (.tmp 115) (.tmp 117), (some (113, false))⟩,
                                    ⟨some 119, .pick (.tmp 113) (.const (.bool true)) (.tmp 118), none⟩,
                                    ⟨some 120, .move (.tmp 119), none⟩,
                                    ⟨some 121, .move (.tmp 12), (some (120, false))⟩,
                                    ⟨some 122, .move (.tmp 11), (some (120, false))⟩,
                                    ⟨some 123, .len false (.tmp 122), (some (120, false))⟩,
                                    ⟨some 124, .bin 0 .eql (.tmp 121) (.tmp 123), (some (120, false))⟩,
                                    ⟨some 125, .move (.tmp 124), (some (120, false))⟩,
                                    ⟨some 126, .move (.tmp 20), (some (125, true))⟩,
                                    ⟨some 127, .len false (.tmp 126), (some (125, true))⟩,
                                    ⟨some 128, .move (.tmp 21), (some (125, true))⟩,
                                    ⟨some 129, .len false (.tmp 128), (some (125, true))⟩,
                                    ⟨some 130, .bin 0 .neq (.tmp 127) (.tmp 129), (some (125, true))⟩,
                                    ⟨some 131, .pick (.tmp 125) (.tmp 130) (.const (.bool false)), (some (120, false))⟩,
                                    ⟨some 132, .pick (.tmp 120) (.const (.bool true)) (.tmp 131), none⟩])
                                  (.cond (.tmp 132)
                                    (.seq
                                      (.region false [
                                        ⟨some 4, .assign (.const (.bool false)), none⟩])
                                      .ret)
                                    .skip))
                                (.seq
                                  (.seq
                                    (.region false [
                                      ⟨some 22, .assign (.const (.int .i64 0)), none⟩])
                                    (.block 4
                                      (.loop [20, 21, 22]
                                        (.seq
                                          (.seq
                                            (.region false [
                                              ⟨some 133, .move (.tmp 22), none⟩,
                                              ⟨some 134, .move (.tmp 21), none⟩,
                                              ⟨some 135, .len false (.tmp 134), none⟩,
                                              ⟨some 136, .bin 0 .lss (.tmp 133) (.tmp 135), none⟩])
                                            (.cond (.tmp 136)
                                              .skip
                                              (.exit 4)))
                                          (.seq
                                            (.block 5
                                              (.seq
                                                (.region true [
                                                  ⟨some 139, .move (.tmp 20), none⟩,
                                                  ⟨some 140, .move (.tmp 22), none⟩,
                                                  ⟨some 141, .idxAddr (.tmp 139) (.tmp 140) 5, none⟩,
                                                  ⟨some 142, .faddr (.tmp 141) 3, none⟩,
                                                  ⟨some 143, .load false 1 (.tmp 142), none⟩,
                                                  ⟨some 144, .move (.tmp 21), none⟩,
                                                  ⟨some 145, .move (.tmp 22), none⟩,
                                                  ⟨some 146, .idxAddr (.tmp 144) (.tmp 145) 5, none⟩,
                                                  ⟨some 147, .faddr (.tmp 146) 3, none⟩,
                                                  ⟨some 148, .load false 1 (.tmp 147), none⟩,
                                                  ⟨some 149, .bin 0 .neq (.tmp 143) (.tmp 148), none⟩,
                                                  ⟨some 150, .move (.tmp 149), none⟩,
                                                  ⟨some 151, .move (.tmp 20), (some (150, false))⟩,
                                                  ⟨some 152, .move (.tmp 22), (some (150, false))⟩,
                                                  ⟨some 153, .idxAddr (.tmp 151) (.tmp 152) 5, (some (150, false))⟩,
                                                  ⟨some 154, .faddr (.tmp 153) 4, (some (150, false))⟩,
                                                  ⟨some 155, .load false 1 (.tmp 154), (some (150, false))⟩,
                                                  ⟨some 156, .strOf (.tmp 155), (some (150, false))⟩,
                                                  ⟨some 157, .move (.tmp 21), (some (150, false))⟩,
                                                  ⟨some 158, .move (.tmp 22), (some (150, false))⟩,
                                                  ⟨some 159, .idxAddr (.tmp 157) (.tmp 158) 5, (some (150, false))⟩,
                                                  ⟨some 160, .faddr (.tmp 159) 4, (some (150, false))⟩,
                                                  ⟨some 161, .load false 1 (.tmp 160), (some (150, false))⟩,
                                                  ⟨some 162, .strOf (.tmp 161), (some (150, false))⟩,
                                                  ⟨some 163, .bin 0 .neq (.tmp 156) (.tmp 162), (some (150, false))⟩,
                                                  ⟨some 164, .pick (.tmp 150) (.const (.bool true)) (.tmp 163), none⟩])
                                                (.cond (.tmp 164)
                                                  (.seq
                                                    (.region false [
                                                      ⟨some 4, .assign (.const (.bool false)), none⟩])
                                                    .ret)
                                                  .skip)))
                                            (.region false [
                                              ⟨some 137, .move (.tmp 22), none⟩,
                                              ⟨some 138, .bin 0 .add (.tmp 137) (.const (.int .i64 1)), none⟩,
                                              ⟨some 22, .assign (.tmp 138), none⟩]))))))
                                  (.seq
                                    (.region false [
                                      ⟨some 4, .assign (.const (.bool true)), none⟩])
                                    .ret)))))))))))))))) }
/-- purlin/journal.New -/
def tf627 : TFn := { ntmps := 3, results := [.tmp 0], body :=
    (.seq
      (.region false [
        ⟨some 0, .assign (.const .nilptr), none⟩])
      (.seq
        (.region false [
          ⟨some 1, .build [.sl true 0 1 [] [], .int .i64 0, .int .i64 0] [], none⟩,
          ⟨some 2, .new 3 (.tmp 1), none⟩,
          ⟨some 0, .assign (.tmp 2), none⟩])
        .ret)) }
/-- purlin/link.New -/
def tf109 : TFn := { ntmps := 25, results := [.tmp 4, .tmp 5], body :=
    (.seq
      (.region false [
        ⟨some 4, .assign (.const .nilptr), none⟩,
        ⟨some 5, .assign (.const (.int .i64 0)), none⟩])
      (.seq
        (.seq
          (.region false [
            ⟨some 6, .move (.tmp 1), none⟩,
            ⟨some 7, .bin 0 .lss (.tmp 6) (.const (.int .i64 1)), none⟩,
            ⟨some 8, .move (.tmp 7), none⟩,
            ⟨some 9, .move (.tmp 1), (some (8, false))⟩,
            ⟨some 10, .bin 0 .gtr (.tmp 9) (.const (.int .i64 4)), (some (8, false))⟩,
            ⟨some 11, .pick (.tmp 8) (.const (.bool true)) (.tmp 10), none⟩,
            ⟨some 12, .move (.tmp 11), none⟩,
            ⟨some 13, .move (.tmp 0), (some (12, false))⟩,
            ⟨some 14, .bin 0 .lss (.tmp 13) (.const (.int .i64 0)), (some (12, false))⟩,
            ⟨some 15, .pick (.tmp 12) (.const (.bool true)) (.tmp 14), none⟩,
            ⟨some 16, .move (.tmp 15), none⟩,
            ⟨some 17, .move (.tmp 0), (some (16, false))⟩,
            ⟨some 18, .move (.tmp 1), (some (16, false))⟩,
            ⟨some 19, .bin 0 .geq (.tmp 17) (.tmp 18), (some (16, false))⟩,
            ⟨some 20, .pick (.tmp 16) (.const (.bool true)) (.tmp 19), none⟩])
          (.cond (.tmp 20)
            (.seq
              (.region false [
                ⟨some 4, .assign (.const .nilptr), none⟩,
                ⟨some 5, .assign (.const (.int .i64 2)), none⟩])
              .ret)
            .skip))
        (.seq
          (.region false [
            ⟨some 21, .move (.tmp 0), none⟩,
            ⟨some 22, .move (.tmp 1), none⟩,
            ⟨some 23, .build [.int .i64 0, .int .i64 0, .int .i64 0, .sl true 0 5 [] [], .int .i64 0, .int .i64 0, .sl true 0 5 [] [], .int .i64 0, .int .i64 0, .sl true 0 5 [] [], .int .i64 0, .int .i64 0, .sl true 0 5 [] [], .int .i64 0] [(0, 1, (.tmp 21)), (1, 1, (.tmp 22))], none⟩,
            ⟨some 24, .new 14 (.tmp 23), none⟩,
            ⟨some 4, .assign (.tmp 24), none⟩,
            ⟨some 5, .assign (.const (.int .i64 0)), none⟩])
          .ret))) }
/-- (*purlin/journal.Log).Append -/
def tf628 : TFn := { ntmps := 17, results := [.tmp 4], body :=
    (.seq
      (.region false [
        ⟨some 4, .assign (.const (.int .i64 0)), none⟩])
      (.seq
        (.region false [
          ⟨some 8, .move (.tmp 0), none⟩,
          ⟨some 9, .move (.tmp 1), none⟩,
          ⟨some 10, .move (.tmp 1), none⟩,
          ⟨some 11, .len false (.tmp 10), none⟩,
          ⟨some 12, .bin 0 .add (.tmp 11) (.const (.int .i64 8)), none⟩,
          ⟨some 13, .call false (.const (.fn 634 [])) [(.tmp 8), (.tmp 9), (.tmp 12)] [], none⟩,
          ⟨some 7, .move (.tmp 13), none⟩,
          ⟨some 14, .extract (.tmp 7) 0, none⟩,
          ⟨some 15, .extract (.tmp 7) 1, none⟩,
          ⟨some 5, .assign (.tmp 14), none⟩,
          ⟨some 6, .assign (.tmp 15), none⟩])
        (.seq
          (.region false [
            ⟨some 16, .move (.tmp 6), none⟩,
            ⟨some 4, .assign (.tmp 16), none⟩])
          .ret))) }
/-- (*purlin/link.Link).Send -/
def tf111 : TFn := { ntmps := 61, results := [.cell 6 true 5, .tmp 7], body :=
    (.seq
      (.region false [
        ⟨some 6, .box 5 (.const (.agg [.int .i64 0, .int .i64 0, .bool false, .int .i64 0, .sl true 0 1 [] []])), none⟩,
        ⟨some 7, .assign (.const (.int .i64 0)), none⟩])
      (.seq
        (.seq
          (.region false [
            ⟨some 11, .move (.tmp 0), none⟩,
            ⟨some 12, .move (.tmp 1), none⟩,
            ⟨some 13, .call true (.const (.fn 130 [])) [(.tmp 11), (.tmp 12)] [], none⟩,
            ⟨some 8, .assign (.tmp 13), none⟩])
          (.seq
            (.region false [
              ⟨some 14, .move (.tmp 8), none⟩,
              ⟨some 15, .bin 0 .neq (.tmp 14) (.const (.int .i64 0)), none⟩])
            (.cond (.tmp 15)
              (.seq
                (.region false [
                  ⟨some 16, .build [.int .i64 0, .int .i64 0, .bool false, .int .i64 0, .sl true 0 1 [] []] [], none⟩,
                  ⟨some 17, .move (.tmp 8), none⟩,
                  ⟨none, .store 5 (.tmp 6) (.tmp 16), none⟩,
                  ⟨some 7, .assign (.tmp 17), none⟩])
                .ret)
              .skip)))
        (.seq
          (.seq
            (.region false [
              ⟨some 18, .move (.tmp 2), none⟩,
              ⟨some 19, .len false (.tmp 18), none⟩,
              ⟨some 20, .bin 0 .gtr (.tmp 19) (.const (.int .i64 65536)), none⟩])
            (.cond (.tmp 20)
              (.seq
                (.region false [
                  ⟨some 21, .build [.int .i64 0, .int .i64 0, .bool false, .int .i64 0, .sl true 0 1 [] []] [], none⟩,
                  ⟨none, .store 5 (.tmp 6) (.tmp 21), none⟩,
                  ⟨some 7, .assign (.const (.int .i64 5)), none⟩])
                .ret)
              .skip))
          (.seq
            (.region false [
              ⟨some 22, .move (.tmp 0), none⟩,
              ⟨some 23, .move (.tmp 1), none⟩,
              ⟨some 24, .call true (.const (.fn 131 [])) [(.tmp 22), (.tmp 23)] [], none⟩,
              ⟨some 9, .assign (.tmp 24), none⟩])
            (.seq
              (.region true [
                ⟨some 25, .move (.tmp 0), none⟩,
                ⟨some 26, .nilCheck (.tmp 25), none⟩,
                ⟨some 27, .faddr (.tmp 26) 0, none⟩,
                ⟨some 28, .loadR none false 1 (.tmp 27), none⟩,
                ⟨some 29, .move (.tmp 1), none⟩,
                ⟨some 30, .move (.tmp 9), none⟩,
                ⟨some 31, .nilCheck (.tmp 30), none⟩,
                ⟨some 32, .faddr (.tmp 31) 0, none⟩,
                ⟨some 33, .faddr (.tmp 32) 0, none⟩,
                ⟨some 34, .loadR none false 1 (.tmp 33), none⟩,
                ⟨some 35, .move (.tmp 2), none⟩,
                ⟨some 36, .build [.int .i64 0, .int .i64 0, .bool false, .int .i64 0, .sl true 0 1 [] []] [(0, 1, (.tmp 28)), (1, 1, (.tmp 29)), (3, 1, (.tmp 34)), (4, 1, (.tmp 35))], none⟩,
                ⟨some 10, .box 5 (.const (.agg [.int .i64 0, .int .i64 0, .bool false, .int .i64 0, .sl true 0 1 [] []])), none⟩,
                ⟨none, .store 5 (.tmp 10) (.tmp 36), none⟩])
              (.seq
                (.region false [
                  ⟨some 37, .move (.tmp 9), none⟩,
                  ⟨some 38, .nilCheck (.tmp 37), none⟩,
                  ⟨some 39, .faddr (.tmp 38) 0, none⟩,
                  ⟨some 40, .faddr (.tmp 39) 0, none⟩,
                  ⟨some 41, .load false 1 (.tmp 40), none⟩,
                  ⟨some 42, .bin 0 .add (.tmp 41) (.const (.int .i64 1)), none⟩,
                  ⟨some 43, .nilCheck (.tmp 37), none⟩,
                  ⟨some 44, .faddr (.tmp 43) 0, none⟩,
                  ⟨some 45, .faddr (.tmp 44) 0, none⟩,
                  ⟨none, .store 1 (.tmp 45) (.tmp 42), none⟩])
                (.seq
                  (.region true [
                    ⟨some 46, .move (.tmp 9), none⟩,
                    ⟨some 47, .move (.tmp 9), none⟩,
                    ⟨some 48, .nilCheck (.tmp 47), none⟩,
                    ⟨some 49, .faddr (.tmp 48) 0, none⟩,
                    ⟨some 50, .faddr (.tmp 49) 1, none⟩,
                    ⟨some 51, .load false 1 (.tmp 50), none⟩,
                    ⟨some 52, .load true 5 (.tmp 10), none⟩,
                    ⟨some 53, .call true (.const (.fn 132 [])) [(.tmp 52)] [], none⟩,
                    ⟨some 54, .buildSlice 1 5 [.int .i64 0, .int .i64 0, .bool false, .int .i64 0, .sl true 0 1 [] []] [(0, (.tmp 53))], none⟩,
                    ⟨some 55, .append 5 56 (.tmp 51) (.tmp 54), none⟩,
                    ⟨some 56, .nilCheck (.tmp 46), none⟩,
                    ⟨some 57, .faddr (.tmp 56) 0, none⟩,
                    ⟨some 58, .faddr (.tmp 57) 1, none⟩,
                    ⟨none, .store 1 (.tmp 58) (.tmp 55), none⟩])
                  (.seq
                    (.region false [
                      ⟨some 59, .load true 5 (.tmp 10), none⟩,
                      ⟨some 60, .call true (.const (.fn 132 [])) [(.tmp 59)] [], none⟩,
                      ⟨none, .store 5 (.tmp 6) (.tmp 60), none⟩,
                      ⟨some 7, .assign (.const (.int .i64 0)), none⟩])
                    .ret)))))))) }
/-- (*purlin/journal.Log).Bytes -/
def tf629 : TFn := { ntmps := 10, results := [.tmp 2], body :=
    (.seq
      (.region false [
        ⟨some 2, .assign (.const (.sl true 0 1 [] [])), none⟩])
      (.seq
        (.seq
          (.region false [
            ⟨some 3, .move (.tmp 0), none⟩,
            ⟨some 4, .bin 2 .eql (.tmp 3) (.const .nilptr), none⟩])
          (.cond (.tmp 4)
            (.seq
              (.region false [
                ⟨some 2, .assign (.const (.sl true 0 1 [] [])), none⟩])
              .ret)
            .skip))
        (.seq
          (.region false [
            ⟨some 5, .move (.tmp 0), none⟩,
            ⟨some 6, .nilCheck (.tmp 5), none⟩,
            ⟨some 7, .faddr (.tmp 6) 0, none⟩,
            ⟨some 8, .load false 1 (.tmp 7), none⟩,
            ⟨some 9, .call true (.const (.fn 635 [])) [(.tmp 8)] [], none⟩,
            ⟨some 2, .assign (.tmp 9), none⟩])
          .ret))) }
/-- purlin/purlintop.which -/
def tf592 : TFn := { ntmps := 14, results := [.tmp 4], body :=
    (.seq
      (.region false [
        ⟨some 4, .assign (.const (.int .i64 0)), none⟩])
      (.seq
        (.region false [
          ⟨some 5, .move (.tmp 0), none⟩,
          ⟨some 6, .move (.tmp 1), none⟩,
          ⟨some 7, .bin 0 .rem (.tmp 5) (.tmp 6), none⟩,
          ⟨some 0, .assign (.tmp 7), none⟩])
        (.seq
          (.seq
            (.region false [
              ⟨some 8, .move (.tmp 0), none⟩,
              ⟨some 9, .bin 0 .lss (.tmp 8) (.const (.int .i64 0)), none⟩])
            (.cond (.tmp 9)
              (.region false [
                ⟨some 10, .move (.tmp 0), none⟩,
                ⟨some 11, .move (.tmp 1), none⟩,
                ⟨some 12, .bin 0 .add (.tmp 10) (.tmp 11), none⟩,
                ⟨some 0, .assign (.tmp 12), none⟩])
              .skip))
          (.seq
            (.region false [
              ⟨some 13, .move (.tmp 0), none⟩,
              ⟨some 4, .assign (.tmp 13), none⟩])
            .ret)))) }
/-- purlin/journal.Open -/
def tf630 : TFn := { ntmps := 11, results := [.tmp 2], body :=
    (.seq
      (.region false [
        ⟨some 2, .assign (.const .nilptr), none⟩])
      (.seq
        (.region false [
          ⟨some 4, .move (.tmp 0), none⟩,
          ⟨some 5, .call true (.const (.fn 635 [])) [(.tmp 4)] [], none⟩,
          ⟨some 6, .buildM [.sl true 0 1 [] [], .int .i64 0, .int .i64 0] 0 (.tmp 5), none⟩,
          ⟨some 7, .new 3 (.tmp 6), none⟩,
          ⟨some 3, .assign (.tmp 7), none⟩])
        (.seq
          (.region false [
            ⟨some 8, .move (.tmp 3), none⟩,
            ⟨some 9, .call false (.const (.fn 636 [])) [(.tmp 8)] [], none⟩])
          (.seq
            (.region false [
              ⟨some 10, .move (.tmp 3), none⟩,
              ⟨some 2, .assign (.tmp 10), none⟩])
            .ret)))) }
/-- (*purlin/journal.Log).Mend -/
def tf631 : TFn := { ntmps := 33, results := [.tmp 2], body :=
    (.seq
      (.region false [
        ⟨some 2, .assign (.const (.int .i64 0)), none⟩])
      (.seq
        (.seq
          (.region false [
            ⟨some 4, .move (.tmp 0), none⟩,
            ⟨some 5, .bin 2 .eql (.tmp 4) (.const .nilptr), none⟩])
          (.cond (.tmp 5)
            (.seq
              (.region false [
                ⟨some 2, .assign (.const (.int .i64 0)), none⟩])
              .ret)
            .skip))
        (.seq
          (.region true [
            ⟨some 6, .move (.tmp 0), none⟩,
            ⟨some 7, .nilCheck (.tmp 6), none⟩,
            ⟨some 8, .faddr (.tmp 7) 0, none⟩,
            ⟨some 9, .load false 1 (.tmp 8), none⟩,
            ⟨some 10, .len false (.tmp 9), none⟩,
            ⟨some 11, .move (.tmp 0), none⟩,
            ⟨some 12, .nilCheck (.tmp 11), none⟩,
            ⟨some 13, .faddr (.tmp 12) 2, none⟩,
            ⟨some 14, .load false 1 (.tmp 13), none⟩,
            ⟨some 15, .bin 0 .sub (.tmp 10) (.tmp 14), none⟩,
            ⟨some 3, .assign (.tmp 15), none⟩])
          (.seq
            (.region true [
              ⟨some 16, .move (.tmp 0), none⟩,
              ⟨some 17, .move (.tmp 0), none⟩,
              ⟨some 18, .nilCheck (.tmp 17), none⟩,
              ⟨some 19, .faddr (.tmp 18) 0, none⟩,
              ⟨some 20, .load false 1 (.tmp 19), none⟩,
              ⟨some 21, .move (.tmp 0), none⟩,
              ⟨some 22, .nilCheck (.tmp 21), none⟩,
              ⟨some 23, .faddr (.tmp 22) 2, none⟩,
              ⟨some 24, .load false 1 (.tmp 23), none⟩,
              ⟨some 25, .move (.tmp 0), none⟩,
              ⟨some 26, .nilCheck (.tmp 25), none⟩,
              ⟨some 27, .faddr (.tmp 26) 2, none⟩,
              ⟨some 28, .load false 1 (.tmp 27), none⟩,
              ⟨some 29, .slice3 1 (.tmp 20) none (.tmp 24) (.tmp 28), none⟩,
              ⟨some 30, .nilCheck (.tmp 16), none⟩,
              ⟨some 31, .faddr (.tmp 30) 0, none⟩,
              ⟨none, .store 1 (.tmp 31) (.tmp 29), none⟩])
            (.seq
              (.region false [
                ⟨some 32, .move (.tmp 3), none⟩,
                ⟨some 2, .assign (.tmp 32), none⟩])
              .ret))))) }
/-- (*purlin/journal.Log).Payloads -/
def tf632 : TFn := { ntmps := 18, results := [.tmp 2], body :=
    (.seq
      (.region false [
        ⟨some 2, .assign (.const (.sl true 0 1 [] [])), none⟩])
      (.seq
        (.seq
          (.region false [
            ⟨some 6, .move (.tmp 0), none⟩,
            ⟨some 7, .bin 2 .eql (.tmp 6) (.const .nilptr), none⟩])
          (.cond (.tmp 7)
            (.seq
              (.region false [
                ⟨some 2, .assign (.const (.sl true 0 1 [] [])), none⟩])
              .ret)
            .skip))
        (.seq
          (.region false [
            ⟨some 9, .move (.tmp 0), none⟩,
            ⟨some 10, .nilCheck (.tmp 9), none⟩,
            ⟨some 11, .faddr (.tmp 10) 0, none⟩,
            ⟨some 12, .load false 1 (.tmp 11), none⟩,
            ⟨some 13, .call true (.const (.fn 637 [])) [(.tmp 12)] [], none⟩,
            ⟨some 8, .move (.tmp 13), none⟩,
            ⟨some 14, .extract (.tmp 8) 0, none⟩,
            ⟨some 15, .extract (.tmp 8) 1, none⟩,
            ⟨some 16, .extract (.tmp 8) 2, none⟩,
            ⟨some 3, .assign (.tmp 14), none⟩,
            ⟨some 4, .assign (.tmp 15), none⟩,
            ⟨some 5, .assign (.tmp 16), none⟩])
          (.seq
            (.region false [
              ⟨some 17, .move (.tmp 3), none⟩,
              ⟨some 2, .assign (.tmp 17), none⟩])
            .ret)))) }
/-- (*purlin/link.Link).Outbox -/
def tf113 : TFn := { ntmps := 15, results := [.tmp 2], body :=
    (.seq
      (.region false [
        ⟨some 2, .assign (.const (.sl true 0 5 [] [])), none⟩])
      (.seq
        (.seq
          (.region false [
            ⟨some 5, .move (.tmp 0), none⟩,
            ⟨some 6, .bin 2 .eql (.tmp 5) (.const .nilptr), none⟩])
          (.cond (.tmp 6)
            (.seq
              (.region false [
                ⟨some 2, .assign (.const (.sl true 0 5 [] [])), none⟩])
              .ret)
            .skip))
        (.seq
          (.region false [
            ⟨some 3, .new 1 (.const (.sl true 0 5 [] [])), none⟩])
          (.seq
            (.seq
              (.region false [
                ⟨some 7, .move (.tmp 0), none⟩,
                ⟨some 8, .call true (.const (.fn 585 [])) [(.tmp 7)] [], none⟩])
              (.block 0
                (.range 1 (.tmp 8) [3, 4, 9, 10, 11, 12, 13])))
            (.seq
              (.region false [
                ⟨some 14, .load false 1 (.tmp 3), none⟩,
                ⟨some 2, .assign (.tmp 14), none⟩])
              .ret))))) }
/-- (*purlin/journal.Log).Cut -/
def tf634 : TFn := { ntmps := 55, results := [.tmp 6, .tmp 7], body :=
    (.seq
      (.region false [
        ⟨some 6, .assign (.const (.bool false)), none⟩,
        ⟨some 7, .assign (.const (.int .i64 0)), none⟩])
      (.seq
        (.block 0
          (.seq
            (.region false [
              ⟨some 12, .move (.tmp 0), none⟩,
              ⟨some 13, .bin 2 .eql (.tmp 12) (.const .nilptr), none⟩,
              ⟨some 11, .assign (.tmp 13), none⟩])
            (.cond (.tmp 11)
              (.seq
                (.region false [
                  ⟨some 6, .assign (.const (.bool false)), none⟩,
                  ⟨some 7, .assign (.const (.int .i64 1)), none⟩])
                .ret)
              (.seq
                (.region false [
                  ⟨some 15, .move (.tmp 0), none⟩,
                  ⟨some 16, .call true (.const (.fn 638 [])) [(.tmp 15)] [], none⟩,
                  ⟨some 14, .assign (.tmp 16), none⟩])
                (.cond (.tmp 14)
                  (.seq
                    (.region false [
                      ⟨some 6, .assign (.const (.bool false)), none⟩,
                      ⟨some 7, .assign (.const (.int .i64 140)), none⟩])
                    .ret)
                  .skip)))))
        (.seq
          (.region false [
            ⟨some 18, .move (.tmp 1), none⟩,
            ⟨some 19, .call true (.const (.fn 639 [])) [(.tmp 18)] [], none⟩,
            ⟨some 17, .move (.tmp 19), none⟩,
            ⟨some 20, .extract (.tmp 17) 0, none⟩,
            ⟨some 21, .extract (.tmp 17) 1, none⟩,
            ⟨some 8, .assign (.tmp 20), none⟩,
            ⟨some 9, .assign (.tmp 21), none⟩])
          (.seq
            (.block 1
              (.seq
                (.region false [
                  ⟨some 23, .move (.tmp 9), none⟩,
                  ⟨some 24, .bin 0 .neq (.tmp 23) (.const (.int .i64 0)), none⟩,
                  ⟨some 22, .assign (.tmp 24), none⟩])
                (.cond (.tmp 22)
                  (.seq
                    (.region false [
                      ⟨some 25, .move (.tmp 9), none⟩,
                      ⟨some 6, .assign (.const (.bool false)), none⟩,
                      ⟨some 7, .assign (.tmp 25), none⟩])
                    .ret)
                  (.seq
                    (.region false [
                      ⟨some 27, .move (.tmp 2), none⟩,
                      ⟨some 28, .bin 0 .lss (.tmp 27) (.const (.int .i64 0)), none⟩,
                      ⟨some 26, .assign (.tmp 28), none⟩])
                    (.cond (.tmp 26)
                      (.seq
                        (.region false [
                          ⟨some 6, .assign (.const (.bool false)), none⟩,
                          ⟨some 7, .assign (.const (.int .i64 2)), none⟩])
                        .ret)
                      .skip)))))
            (.seq
              (.region false [
                ⟨some 29, .move (.tmp 0), none⟩,
                ⟨some 30, .nilCheck (.tmp 29), none⟩,
                ⟨some 31, .faddr (.tmp 30) 1, none⟩,
                ⟨some 32, .load false 1 (.tmp 31), none⟩,
                ⟨some 10, .assign (.tmp 32), none⟩])
              (.seq
                (.region true [
                  ⟨some 33, .move (.tmp 0), none⟩,
                  ⟨some 34, .move (.tmp 0), none⟩,
                  ⟨some 35, .nilCheck (.tmp 34), none⟩,
                  ⟨some 36, .faddr (.tmp 35) 0, none⟩,
                  ⟨some 37, .load false 1 (.tmp 36), none⟩,
                  ⟨some 38, .move (.tmp 8), none⟩,
                  ⟨some 39, .move (.tmp 2), none⟩,
                  ⟨some 40, .move (.tmp 8), none⟩,
                  ⟨some 41, .len false (.tmp 40), none⟩,
                  ⟨some 42, .minmax false (.tmp 39) (.tmp 41), none⟩,
                  ⟨some 43, .slice 1 (.tmp 38) none (some (.tmp 42)), none⟩,
                  ⟨some 44, .append 1 1 (.tmp 37) (.tmp 43), none⟩,
                  ⟨some 45, .nilCheck (.tmp 33), none⟩,
                  ⟨some 46, .faddr (.tmp 45) 0, none⟩,
                  ⟨none, .store 1 (.tmp 46) (.tmp 44), none⟩])
                (.seq
                  (.region false [
                    ⟨some 47, .move (.tmp 0), none⟩,
                    ⟨some 48, .call false (.const (.fn 636 [])) [(.tmp 47)] [], none⟩])
                  (.seq
                    (.region false [
                      ⟨some 49, .move (.tmp 0), none⟩,
                      ⟨some 50, .nilCheck (.tmp 49), none⟩,
                      ⟨some 51, .faddr (.tmp 50) 1, none⟩,
                      ⟨some 52, .load false 1 (.tmp 51), none⟩,
                      ⟨some 53, .move (.tmp 10), none⟩,
                      ⟨some 54, .bin 0 .gtr (.tmp 52) (.tmp 53), none⟩,
                      ⟨some 6, .assign (.tmp 54), none⟩,
                      ⟨some 7, .assign (.const (.int .i64 0)), none⟩])
                    .ret)))))))) }
/-- (*purlin/link.Link).wrong -/
def tf130 : TFn := { ntmps := 13, results := [.tmp 4], body :=
    (.seq
      (.region false [
        ⟨some 4, .assign (.const (.int .i64 0)), none⟩])
      (.seq
        (.block 0
          (.seq
            (.region false [
              ⟨some 6, .move (.tmp 0), none⟩,
              ⟨some 7, .bin 2 .eql (.tmp 6) (.const .nilptr), none⟩,
              ⟨some 5, .assign (.tmp 7), none⟩])
            (.cond (.tmp 5)
              (.seq
                (.region false [
                  ⟨some 4, .assign (.const (.int .i64 1)), none⟩])
                .ret)
              (.seq
                (.region false [
                  ⟨some 9, .move (.tmp 0), none⟩,
                  ⟨some 10, .move (.tmp 1), none⟩,
                  ⟨some 11, .call true (.const (.fn 131 [])) [(.tmp 9), (.tmp 10)] [], none⟩,
                  ⟨some 12, .bin 2 .eql (.tmp 11) (.const .nilptr), none⟩,
                  ⟨some 8, .assign (.tmp 12), none⟩])
                (.cond (.tmp 8)
                  (.seq
                    (.region false [
                      ⟨some 4, .assign (.const (.int .i64 2)), none⟩])
                    .ret)
                  .skip)))))
        (.seq
          (.region false [
            ⟨some 4, .assign (.const (.int .i64 0)), none⟩])
          .ret))) }
/-- (*purlin/link.Link).peer -/
def tf131 : TFn := { ntmps := 32, results := [.tmp 4], body :=
    (.seq
      (.region false [
        ⟨some 4, .assign (.const .nilptr), none⟩])
      (.seq
        (.seq
          (.region false [
            ⟨some 5, .move (.tmp 0), none⟩,
            ⟨some 6, .bin 2 .eql (.tmp 5) (.const .nilptr), none⟩,
            ⟨some 7, .move (.tmp 6), none⟩,
            ⟨some 8, .move (.tmp 1), (some (7, false))⟩,
            ⟨some 9, .bin 0 .lss (.tmp 8) (.const (.int .i64 0)), (some (7, false))⟩,
            ⟨some 10, .pick (.tmp 7) (.const (.bool true)) (.tmp 9), none⟩,
            ⟨some 11, .move (.tmp 10), none⟩,
            ⟨some 12, .move (.tmp 1), (some (11, false))⟩,
            ⟨some 13, .move (.tmp 0), (some (11, false))⟩,
            ⟨some 14, .nilCheck (.tmp 13), (some (11, false))⟩,
            ⟨some 15, .faddr (.tmp 14) 1, (some (11, false))⟩,
            ⟨some 16, .load false 1 (.tmp 15), (some (11, false))⟩,
            ⟨some 17, .bin 0 .geq (.tmp 12) (.tmp 16), (some (11, false))⟩,
            ⟨some 18, .pick (.tmp 11) (.const (.bool true)) (.tmp 17), none⟩,
            ⟨some 19, .move (.tmp 18), none⟩,
            ⟨some 20, .move (.tmp 1), (some (19, false))⟩,
            ⟨some 21, .move (.tmp 0), (some (19, false))⟩,
            ⟨some 22, .nilCheck (.tmp 21), (some (19, false))⟩,
            ⟨some 23, .faddr (.tmp 22) 0, (some (19, false))⟩,
            ⟨some 24, .load false 1 (.tmp 23), (some (19, false))⟩,
            ⟨some 25, .bin 0 .eql (.tmp 20) (.tmp 24), (some (19, false))⟩,
            ⟨some 26, .pick (.tmp 19) (.const (.bool true)) (.tmp 25), none⟩])
          (.cond (.tmp 26)
            (.seq
              (.region false [
                ⟨some 4, .assign (.const .nilptr), none⟩])
              .ret)
            .skip))
        (.seq
          (.region false [
            ⟨some 27, .move (.tmp 0), none⟩,
            ⟨some 28, .move (.tmp 1), none⟩,
            ⟨some 29, .nilCheck (.tmp 27), none⟩,
            ⟨some 30, .faddr (.tmp 29) 2, none⟩,
            ⟨some 31, .idxArr (.tmp 30) (.tmp 28) 4 3, none⟩,
            ⟨some 4, .assign (.tmp 31), none⟩])
          .ret))) }
/-- purlin/link.own -/
def tf132 : TFn := { ntmps := 8, results := [.cell 2 true 5], body :=
    (.seq
      (.region false [
        ⟨some 1, .box 5 (.tmp 0), none⟩,
        ⟨some 2, .box 5 (.const (.agg [.int .i64 0, .int .i64 0, .bool false, .int .i64 0, .sl true 0 1 [] []])), none⟩])
      (.seq
        (.region false [
          ⟨some 3, .faddr (.tmp 1) 4, none⟩,
          ⟨some 4, .load false 1 (.tmp 3), none⟩,
          ⟨some 5, .call true (.const (.fn 142 [])) [(.tmp 4)] [], none⟩,
          ⟨some 6, .faddr (.tmp 1) 4, none⟩,
          ⟨none, .store 1 (.tmp 6) (.tmp 5), none⟩])
        (.seq
          (.region false [
            ⟨some 7, .load true 5 (.tmp 1), none⟩,
            ⟨none, .store 5 (.tmp 2) (.tmp 7), none⟩])
          .ret))) }
/-- (*purlin/journal.Log).look -/
def tf636 : TFn := { ntmps := 36, results := [], body :=
    (.block 0
      (.loop [0]
        (.block 1
          (.seq
            (.region true [
              ⟨some 5, .move (.tmp 0), none⟩,
              ⟨some 6, .nilCheck (.tmp 5), none⟩,
              ⟨some 7, .faddr (.tmp 6) 0, none⟩,
              ⟨some 8, .load false 1 (.tmp 7), none⟩,
              ⟨some 9, .move (.tmp 0), none⟩,
              ⟨some 10, .nilCheck (.tmp 9), none⟩,
              ⟨some 11, .faddr (.tmp 10) 2, none⟩,
              ⟨some 12, .load false 1 (.tmp 11), none⟩,
              ⟨some 13, .slice 1 (.tmp 8) (some (.tmp 12)) none, none⟩,
              ⟨some 14, .call true (.const (.fn 640 [])) [(.tmp 13)] [], none⟩,
              ⟨some 4, .move (.tmp 14), none⟩,
              ⟨some 15, .extract (.tmp 4) 0, none⟩,
              ⟨some 16, .extract (.tmp 4) 1, none⟩,
              ⟨some 2, .move (.tmp 15), none⟩,
              ⟨some 3, .assign (.tmp 16), none⟩])
            (.seq
              (.seq
                (.region false [
                  ⟨some 17, .move (.tmp 3), none⟩,
                  ⟨some 18, .un .not (.tmp 17), none⟩])
                (.cond (.tmp 18)
                  .ret
                  .skip))
              (.seq
                (.region false [
                  ⟨some 19, .move (.tmp 0), none⟩,
                  ⟨some 20, .nilCheck (.tmp 19), none⟩,
                  ⟨some 21, .faddr (.tmp 20) 1, none⟩,
                  ⟨some 22, .load false 1 (.tmp 21), none⟩,
                  ⟨some 23, .bin 0 .add (.tmp 22) (.const (.int .i64 1)), none⟩,
                  ⟨some 24, .nilCheck (.tmp 19), none⟩,
                  ⟨some 25, .faddr (.tmp 24) 1, none⟩,
                  ⟨none, .store 1 (.tmp 25) (.tmp 23), none⟩])
                (.region false [
                  ⟨some 26, .move (.tmp 0), none⟩,
                  ⟨some 27, .nilCheck (.tmp 26), none⟩,
                  ⟨some 28, .faddr (.tmp 27) 2, none⟩,
                  ⟨some 29, .load false 1 (.tmp 28), none⟩,
                  ⟨some 30, .move (.tmp 2), none⟩,
                  ⟨some 31, .len false (.tmp 30), none⟩,
                  ⟨some 32, .bin 0 .add (.const (.int .i64 8)) (.tmp 31), none⟩,
                  ⟨some 33, .bin 0 .add (.tmp 29) (.tmp 32), none⟩,
                  ⟨some 34, .nilCheck (.tmp 26), none⟩,
                  ⟨some 35, .faddr (.tmp 34) 2, none⟩,
                  ⟨none, .store 1 (.tmp 35) (.tmp 33), none⟩]))))))) }
/-- purlin/journal.Read -/
def tf637 : TFn := { ntmps := 34, results := [.tmp 2, .tmp 3, .tmp 4], body :=
    (.seq
      (.region false [
        ⟨some 2, .assign (.const (.sl true 0 1 [] [])), none⟩,
        ⟨some 3, .assign (.const (.int .i64 0)), none⟩,
        ⟨some 4, .assign (.const (.int .i64 0)), none⟩])
      (.seq
        (.block 0
          (.loop [0, 2, 3]
            (.seq
              (.seq
                (.region false [
                  ⟨some 7, .move (.tmp 3), none⟩,
                  ⟨some 8, .move (.tmp 0), none⟩,
                  ⟨some 9, .len false (.tmp 8), none⟩,
                  ⟨some 10, .bin 0 .lss (.tmp 7) (.tmp 9), none⟩])
                (.cond (.tmp 10)
                  .skip
                  (.exit 0)))
              (.block 1
                (.seq
                  (.region false [
                    ⟨some 12, .move (.tmp 0), none⟩,
                    ⟨some 13, .move (.tmp 3), none⟩,
                    ⟨some 14, .slice 1 (.tmp 12) (some (.tmp 13)) none, none⟩,
                    ⟨some 15, .call true (.const (.fn 640 [])) [(.tmp 14)] [], none⟩,
                    ⟨some 11, .move (.tmp 15), none⟩,
                    ⟨some 16, .extract (.tmp 11) 0, none⟩,
                    ⟨some 17, .extract (.tmp 11) 1, none⟩,
                    ⟨some 5, .assign (.tmp 16), none⟩,
                    ⟨some 6, .assign (.tmp 17), none⟩])
                  (.seq
                    (.seq
                      (.region false [
                        ⟨some 18, .move (.tmp 6), none⟩,
                        ⟨some 19, .un .not (.tmp 18), none⟩])
                      (.cond (.tmp 19)
                        (.seq
                          (.region false [
                            ⟨some 20, .move (.tmp 2), none⟩,
                            ⟨some 21, .move (.tmp 3), none⟩,
                            ⟨some 2, .assign (.tmp 20), none⟩,
                            ⟨some 3, .assign (.tmp 21), none⟩,
                            ⟨some 4, .assign (.const (.int .i64 140)), none⟩])
                          .ret)
                        .skip))
                    (.seq
                      (.region false [
                        ⟨some 22, .move (.tmp 2), none⟩,
                        ⟨some 23, .move (.tmp 5), none⟩,
                        ⟨some 24, .call true (.const (.fn 635 [])) [(.tmp 23)] [], none⟩,
                        ⟨some 25, .buildSlice 1 1 [.sl true 0 1 [] []] [(0, (.tmp 24))], none⟩,
                        ⟨some 26, .append 1 24 (.tmp 22) (.tmp 25), none⟩,
                        ⟨some 2, .assign (.tmp 26), none⟩])
                      (.region false [
                        ⟨some 27, .move (.tmp 3), none⟩,
                        ⟨some 28, .move (.tmp 5), none⟩,
                        ⟨some 29, .len false (.tmp 28), none⟩,
                        ⟨some 30, .bin 0 .add (.const (.int .i64 8)) (.tmp 29), none⟩,
                        ⟨some 31, .bin 0 .add (.tmp 27) (.tmp 30), none⟩,
                        ⟨some 3, .assign (.tmp 31), none⟩]))))))))
        (.seq
          (.region false [
            ⟨some 32, .move (.tmp 2), none⟩,
            ⟨some 33, .move (.tmp 3), none⟩,
            ⟨some 2, .assign (.tmp 32), none⟩,
            ⟨some 3, .assign (.tmp 33), none⟩,
            ⟨some 4, .assign (.const (.int .i64 0)), none⟩])
          .ret))) }
/-- (*purlin/link.Link).waiting -/
def tf585 : TFn := { ntmps := 4, results := [.tmp 2], body :=
    (.seq
      (.region false [
        ⟨some 1, .box 1 (.tmp 0), none⟩,
        ⟨some 2, .assign (.const .nilfn), none⟩])
      (.seq
        (.region false [
          ⟨some 3, .makeFunc 143 [(.tmp 1)], none⟩,
          ⟨some 2, .assign (.tmp 3), none⟩])
        .ret)) }
/-- (*purlin/journal.Log).Torn -/
def tf638 : TFn := { ntmps := 17, results := [.tmp 2], body :=
    (.seq
      (.region false [
        ⟨some 2, .assign (.const (.bool false)), none⟩])
      (.seq
        (.region true [
          ⟨some 3, .move (.tmp 0), none⟩,
          ⟨some 4, .bin 2 .neq (.tmp 3) (.const .nilptr), none⟩,
          ⟨some 5, .move (.tmp 4), none⟩,
          ⟨some 6, .move (.tmp 0), (some (5, true))⟩,
          ⟨some 7, .nilCheck (.tmp 6), (some (5, true))⟩,
          ⟨some 8, .faddr (.tmp 7) 2, (some (5, true))⟩,
          ⟨some 9, .load false 1 (.tmp 8), (some (5, true))⟩,
          ⟨some 10, .move (.tmp 0), (some (5, true))⟩,
          ⟨some 11, .nilCheck (.tmp 10), (some (5, true))⟩,
          ⟨some 12, .faddr (.tmp 11) 0, (some (5, true))⟩,
          ⟨some 13, .load false 1 (.tmp 12), (some (5, true))⟩,
          ⟨some 14, .len false (.tmp 13), (some (5, true))⟩,
          ⟨some 15, .bin 0 .lss (.tmp 9) (.tmp 14), (some (5, true))⟩,
          ⟨some 16, .pick (.tmp 5) (.tmp 15) (.const (.bool false)), none⟩,
          ⟨some 2, .assign (.tmp 16), none⟩])
        .ret)) }
/-- purlin/journal.Record -/
def tf639 : TFn := { ntmps := 19, results := [.tmp 2, .tmp 3], body :=
    (.seq
      (.region false [
        ⟨some 2, .assign (.const (.sl true 0 1 [] [])), none⟩,
        ⟨some 3, .assign (.const (.int .i64 0)), none⟩])
      (.seq
        (.seq
          (.region false [
            ⟨some 5, .move (.tmp 0), none⟩,
            ⟨some 6, .len false (.tmp 5), none⟩,
            ⟨some 7, .bin 0 .gtr (.tmp 6) (.const (.int .i64 131072)), none⟩])
          (.cond (.tmp 7)
            (.seq
              (.region false [
                ⟨some 2, .assign (.const (.sl true 0 1 [] [])), none⟩,
                ⟨some 3, .assign (.const (.int .i64 5)), none⟩])
              .ret)
            .skip))
        (.seq
          (.region false [
            ⟨some 8, .move (.tmp 0), none⟩,
            ⟨some 9, .len false (.tmp 8), none⟩,
            ⟨some 10, .conv .u32 (.tmp 9), none⟩,
            ⟨some 11, .call true (.const (.fn 641 [])) [(.tmp 10)] [], none⟩,
            ⟨some 12, .move (.tmp 0), none⟩,
            ⟨some 13, .call true (.const (.fn 642 [])) [(.tmp 12)] [], none⟩,
            ⟨some 14, .call true (.const (.fn 641 [])) [(.tmp 13)] [], none⟩,
            ⟨some 15, .append 1 1 (.tmp 11) (.tmp 14), none⟩,
            ⟨some 4, .assign (.tmp 15), none⟩])
          (.seq
            (.region false [
              ⟨some 16, .move (.tmp 4), none⟩,
              ⟨some 17, .move (.tmp 0), none⟩,
              ⟨some 18, .append 1 1 (.tmp 16) (.tmp 17), none⟩,
              ⟨some 2, .assign (.tmp 18), none⟩,
              ⟨some 3, .assign (.const (.int .i64 0)), none⟩])
            .ret)))) }
/-- purlin/journal.first -/
def tf640 : TFn := { ntmps := 34, results := [.tmp 2, .tmp 3], body :=
    (.seq
      (.region false [
        ⟨some 2, .assign (.const (.sl true 0 1 [] [])), none⟩,
        ⟨some 3, .assign (.const (.bool false)), none⟩])
      (.seq
        (.seq
          (.region false [
            ⟨some 6, .move (.tmp 0), none⟩,
            ⟨some 7, .len false (.tmp 6), none⟩,
            ⟨some 8, .bin 0 .lss (.tmp 7) (.const (.int .i64 8)), none⟩])
          (.cond (.tmp 8)
            (.seq
              (.region false [
                ⟨some 2, .assign (.const (.sl true 0 1 [] [])), none⟩,
                ⟨some 3, .assign (.const (.bool false)), none⟩])
              .ret)
            .skip))
        (.seq
          (.region false [
            ⟨some 9, .move (.tmp 0), none⟩,
            ⟨some 10, .call true (.const (.fn 643 [])) [(.tmp 9)] [], none⟩,
            ⟨some 11, .conv .i64 (.tmp 10), none⟩,
            ⟨some 4, .assign (.tmp 11), none⟩])
          (.seq
            (.seq
              (.region false [
                ⟨some 12, .move (.tmp 4), none⟩,
                ⟨some 13, .bin 0 .gtr (.tmp 12) (.const (.int .i64 131072)), none⟩,
                ⟨some 14, .move (.tmp 13), none⟩,
                ⟨some 15, .move (.tmp 0), (some (14, false))⟩,
                ⟨some 16, .len false (.tmp 15), (some (14, false))⟩,
                ⟨some 17, .bin 0 .sub (.tmp 16) (.const (.int .i64 8)), (some (14, false))⟩,
                ⟨some 18, .move (.tmp 4), (some (14, false))⟩,
                ⟨some 19, .bin 0 .lss (.tmp 17) (.tmp 18), (some (14, false))⟩,
                ⟨some 20, .pick (.tmp 14) (.const (.bool true)) (.tmp 19), none⟩])
              (.cond (.tmp 20)
                (.seq
                  (.region false [
                    ⟨some 2, .assign (.const (.sl true 0 1 [] [])), none⟩,
                    ⟨some 3, .assign (.const (.bool false)), none⟩])
                  .ret)
                .skip))
            (.seq
              (.region false [
                ⟨some 21, .move (.tmp 0), none⟩,
                ⟨some 22, .move (.tmp 4), none⟩,
                ⟨some 23, .bin 0 .add (.const (.int .i64 8)) (.tmp 22), none⟩,
                ⟨some 24, .move (.tmp 4), none⟩,
                ⟨some 25, .bin 0 .add (.const (.int .i64 8)) (.tmp 24), none⟩,
                ⟨some 26, .slice3 1 (.tmp 21) (some (.const (.int .i64 8))) (.tmp 23) (.tmp 25), none⟩,
                ⟨some 5, .assign (.tmp 26), none⟩])
              (.seq
                (.region true [
                  ⟨some 27, .move (.tmp 5), none⟩,
                  ⟨some 28, .move (.tmp 5), none⟩,
                  ⟨some 29, .call true (.const (.fn 642 [])) [(.tmp 28)] [], none⟩,
                  ⟨some 30, .move (.tmp 0), none⟩,
                  ⟨some 31, .slice 1 (.tmp 30) (some (.const (.int .i64 4))) none, none⟩,
                  ⟨some 32, .call true (.const (.fn 643 [])) [(.tmp 31)] [], none⟩,
                  ⟨some 33, .bin 0 .eql (.tmp 29) (.tmp 32), none⟩,
                  ⟨some 2, .move (.tmp 27), none⟩,
                  ⟨some 3, .assign (.tmp 33), none⟩])
                .ret)))))) }
/-- (*purlin/link.Link).waiting$1 -/
def tf143 : TFn := { ntmps := 29, results := [], body :=
    (.seq
      (.region false [
        ⟨some 6, .move (.const (.int .i64 0)), none⟩])
      (.block 0
        (.loop [0, 1, 6]
          (.seq
            (.region false [
              ⟨some 7, .bin 0 .lss (.tmp 6) (.const (.int .i64 4)), none⟩])
            (.seq
              (.cond (.tmp 7)
                .skip
                (.exit 0))
              (.seq
                (.block 1
                  (.seq
                    (.region false [
                      ⟨some 8, .move (.tmp 6), none⟩,
                      ⟨some 3, .assign (.tmp 8), none⟩])
                    (.seq
                      (.region false [
                        ⟨some 9, .load false 1 (.tmp 1), none⟩,
                        ⟨some 10, .move (.tmp 3), none⟩,
                        ⟨some 11, .nilCheck (.tmp 9), none⟩,
                        ⟨some 12, .faddr (.tmp 11) 2, none⟩,
                        ⟨some 13, .idxArr (.tmp 12) (.tmp 10) 4 3, none⟩,
                        ⟨some 14, .faddr (.tmp 13) 0, none⟩,
                        ⟨some 15, .faddr (.tmp 14) 1, none⟩,
                        ⟨some 16, .load false 1 (.tmp 15), none⟩,
                        ⟨some 17, .len false (.tmp 16), none⟩,
                        ⟨some 18, .move (.const (.int .i64 0)), none⟩])
                      (.block 2
                        (.loop [0, 1, 6, 16, 17, 18]
                          (.seq
                            (.region false [
                              ⟨some 19, .bin 0 .lss (.tmp 18) (.tmp 17), none⟩])
                            (.seq
                              (.cond (.tmp 19)
                                .skip
                                (.exit 2))
                              (.seq
                                (.block 3
                                  (.seq
                                    (.region false [
                                      ⟨some 20, .idxAddr (.tmp 16) (.tmp 18) 5, none⟩,
                                      ⟨some 21, .load true 5 (.tmp 20), none⟩,
                                      ⟨some 5, .box 5 (.const (.agg [.int .i64 0, .int .i64 0, .bool false, .int .i64 0, .sl true 0 1 [] []])), none⟩,
                                      ⟨none, .store 5 (.tmp 5) (.tmp 21), none⟩])
                                    (.seq
                                      (.region false [
                                        ⟨some 22, .move (.tmp 0), none⟩,
                                        ⟨some 23, .load true 5 (.tmp 5), none⟩,
                                        ⟨some 24, .call true (.const (.fn 132 [])) [(.tmp 23)] [], none⟩,
                                        ⟨some 25, .call false (.tmp 22) [(.tmp 24)] [], none⟩,
                                        ⟨some 26, .un .not (.tmp 25), none⟩])
                                      (.cond (.tmp 26)
                                        .ret
                                        .skip))))
                                (.region false [
                                  ⟨some 27, .bin 0 .add (.tmp 18) (.const (.int .i64 1)), none⟩,
                                  ⟨some 18, .move (.tmp 27), none⟩])))))))))
                (.region false [
                  ⟨some 28, .bin 0 .add (.tmp 6) (.const (.int .i64 1)), none⟩,
                  ⟨some 6, .move (.tmp 28), none⟩]))))))) }
/-- purlin/journal.four -/
def tf641 : TFn := { ntmps := 15, results := [.tmp 2], body :=
    (.seq
      (.region false [
        ⟨some 2, .assign (.const (.sl true 0 1 [] [])), none⟩])
      (.seq
        (.region false [
          ⟨some 3, .move (.tmp 0), none⟩,
          ⟨some 4, .bin 0 .shr (.tmp 3) (.const (.int .u64 24)), none⟩,
          ⟨some 5, .conv .u8 (.tmp 4), none⟩,
          ⟨some 6, .move (.tmp 0), none⟩,
          ⟨some 7, .bin 0 .shr (.tmp 6) (.const (.int .u64 16)), none⟩,
          ⟨some 8, .conv .u8 (.tmp 7), none⟩,
          ⟨some 9, .move (.tmp 0), none⟩,
          ⟨some 10, .bin 0 .shr (.tmp 9) (.const (.int .u64 8)), none⟩,
          ⟨some 11, .conv .u8 (.tmp 10), none⟩,
          ⟨some 12, .move (.tmp 0), none⟩,
          ⟨some 13, .conv .u8 (.tmp 12), none⟩,
          ⟨some 14, .buildSlice 4 1 [.int .u8 0] [(0, (.tmp 5)), (1, (.tmp 8)), (2, (.tmp 11)), (3, (.tmp 13))], none⟩,
          ⟨some 2, .assign (.tmp 14), none⟩])
        .ret)) }
/-- purlin/journal.Sum -/
def tf642 : TFn := { ntmps := 19, results := [.tmp 2], body :=
    (.seq
      (.region false [
        ⟨some 2, .assign (.const (.int .u32 0)), none⟩])
      (.seq
        (.region false [
          ⟨some 3, .assign (.const (.int .u32 2166136261)), none⟩])
        (.seq
          (.seq
            (.region false [
              ⟨some 6, .move (.tmp 0), none⟩,
              ⟨some 7, .len false (.tmp 6), none⟩,
              ⟨some 8, .move (.const (.int .i64 0)), none⟩])
            (.block 0
              (.loop [3, 6, 7, 8]
                (.seq
                  (.region false [
                    ⟨some 9, .bin 0 .lss (.tmp 8) (.tmp 7), none⟩])
                  (.seq
                    (.cond (.tmp 9)
                      .skip
                      (.exit 0))
                    (.seq
                      (.block 1
                        (.seq
                          (.region false [
                            ⟨some 10, .idxAddr (.tmp 6) (.tmp 8) 1, none⟩,
                            ⟨some 11, .load false 1 (.tmp 10), none⟩,
                            ⟨some 5, .assign (.tmp 11), none⟩])
                          (.region false [
                            ⟨some 12, .move (.tmp 3), none⟩,
                            ⟨some 13, .move (.tmp 5), none⟩,
                            ⟨some 14, .conv .u32 (.tmp 13), none⟩,
                            ⟨some 15, .bin 0 .xor (.tmp 12) (.tmp 14), none⟩,
                            ⟨some 16, .bin 0 .mul (.tmp 15) (.const (.int .u32 16777619)), none⟩,
                            ⟨some 3, .assign (.tmp 16), none⟩])))
                      (.region false [
                        ⟨some 17, .bin 0 .add (.tmp 8) (.const (.int .i64 1)), none⟩,
                        ⟨some 8, .move (.tmp 17), none⟩])))))))
          (.seq
            (.region false [
              ⟨some 18, .move (.tmp 3), none⟩,
              ⟨some 2, .assign (.tmp 18), none⟩])
            .ret)))) }
/-- purlin/journal.ofFour -/
def tf643 : TFn := { ntmps := 25, results := [.tmp 2], body :=
    (.seq
      (.region false [
        ⟨some 2, .assign (.const (.int .u32 0)), none⟩])
      (.seq
        (.region true [
          ⟨some 3, .move (.tmp 0), none⟩,
          ⟨some 4, .idxAddr (.tmp 3) (.const (.int .i64 0)) 1, none⟩,
          ⟨some 5, .load false 1 (.tmp 4), none⟩,
          ⟨some 6, .conv .u32 (.tmp 5), none⟩,
          ⟨some 7, .bin 0 .shl (.tmp 6) (.const (.int .u64 24)), none⟩,
          ⟨some 8, .move (.tmp 0), none⟩,
          ⟨some 9, .idxAddr (.tmp 8) (.const (.int .i64 1)) 1, none⟩,
          ⟨some 10, .load false 1 (.tmp 9), none⟩,
          ⟨some 11, .conv .u32 (.tmp 10), none⟩,
          ⟨some 12, .bin 0 .shl (.tmp 11) (.const (.int .u64 16)), none⟩,
          ⟨some 13, .bin 0 .or (.tmp 7) (.tmp 12), none⟩,
          ⟨some 14, .move (.tmp 0), none⟩,
          ⟨some 15, .idxAddr (.tmp 14) (.const (.int .i64 2)) 1, none⟩,
          ⟨some 16, .load false 1 (.tmp 15), none⟩,
          ⟨some 17, .conv .u32 (.tmp 16), none⟩,
          ⟨some 18, .bin 0 .shl (.tmp 17) (.const (.int .u64 8)), none⟩,
          ⟨some 19, .bin 0 .or (.tmp 13) (.tmp 18), none⟩,
          ⟨some 20, .move (.tmp 0), none⟩,
          ⟨some 21, .idxAddr (.tmp 20) (.const (.int .i64 3)) 1, none⟩,
          ⟨some 22, .load false 1 (.tmp 21), none⟩,
          ⟨some 23, .conv .u32 (.tmp 22), none⟩,
          ⟨some 24, .bin 0 .or (.tmp 19) (.tmp 23), none⟩,
          ⟨some 2, .assign (.tmp 24), none⟩])
        .ret)) }
def lp1 : List Nat × TCode × TCode := ([9],
      (.region false [
        ⟨some 4, .box 5 (.const (.agg [.int .i64 0, .int .i64 0, .bool false, .int .i64 0, .sl true 0 1 [] []])), none⟩,
        ⟨none, .store 5 (.tmp 4) (.tmp 9), none⟩]),
      (.block 1
        (.region false [
          ⟨some 10, .load false 1 (.tmp 3), none⟩,
          ⟨some 11, .load true 5 (.tmp 4), none⟩,
          ⟨some 12, .buildSlice 1 5 [.int .i64 0, .int .i64 0, .bool false, .int .i64 0, .sl true 0 1 [] []] [(0, (.tmp 11))], none⟩,
          ⟨some 13, .append 5 56 (.tmp 10) (.tmp 12), none⟩,
          ⟨none, .store 1 (.tmp 3) (.tmp 13), none⟩])))
def fnTableJ : List (Nat × TFn) := [(633, tf633), (627, tf627), (109, tf109), (628, tf628), (111, tf111), (629, tf629), (592, tf592), (630, tf630), (631, tf631), (632, tf632), (113, tf113), (634, tf634), (130, tf130), (131, tf131), (132, tf132), (636, tf636), (637, tf637), (585, tf585), (638, tf638), (639, tf639), (640, tf640), (143, tf143), (641, tf641), (642, tf642), (643, tf643)]
def nuTableJ : List (Nat × Nat) := [(3, 633), (4, 627), (5, 109), (6, 628), (7, 111), (8, 629), (9, 592), (10, 630), (11, 631), (12, 632), (13, 113), (14, 634), (15, 130), (16, 131), (17, 132), (18, 635), (19, 636), (20, 637), (21, 585), (22, 638), (23, 639), (24, 142), (25, 640), (26, 143), (27, 641), (28, 642), (29, 643)]
def lpTableJ : List (Nat × List Nat × TCode × TCode) := [(1, lp1)]
end Tree
