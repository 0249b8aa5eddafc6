/- The law TopHolders: its own functions as E-code. -/
import Derived.Test.YtfdamolkgfcoiaaTA
set_option autoImplicit false
set_option maxRecDepth 100000
namespace Tree.TH
open Go Tree
/-- purlin/purlintop.TopHolders -/
def tf669 : TFn := { ntmps := 135, results := [.tmp 4], body :=
    (.seq
      (.region false [
        ⟨some 4, .assign (.const (.bool false)), none⟩])
      (.seq
        (.region false [
          ⟨some 16, .call false (.const (.fn 59 [])) [] [], none⟩,
          ⟨some 5, .assign (.tmp 16), none⟩])
        (.seq
          (.region false [
            ⟨some 18, .call false (.const (.fn 399 [])) [(.const (.int .i64 0)), (.const (.int .i64 4))] [], none⟩,
            ⟨some 17, .move (.tmp 18), none⟩,
            ⟨some 19, .extract (.tmp 17) 0, none⟩,
            ⟨some 20, .extract (.tmp 17) 1, none⟩,
            ⟨some 6, .assign (.tmp 19), none⟩,
            ⟨some 7, .assign (.tmp 20), none⟩])
          (.seq
            (.seq
              (.region false [
                ⟨some 21, .move (.tmp 5), none⟩,
                ⟨some 22, .bin 2 .eql (.tmp 21) (.const .nilptr), none⟩,
                ⟨some 23, .move (.tmp 22), none⟩,
                ⟨some 24, .move (.tmp 7), (some (23, false))⟩,
                ⟨some 25, .bin 0 .neq (.tmp 24) (.const (.int .i64 0)), (some (23, false))⟩,
                ⟨some 26, .pick (.tmp 23) (.const (.bool true)) (.tmp 25), none⟩])
              (.cond (.tmp 26)
                (.seq
                  (.region false [
                    ⟨some 4, .assign (.const (.bool false)), none⟩])
                  .ret)
                .skip))
            (.seq
              (.region false [
                ⟨some 27, .move (.tmp 0), none⟩,
                ⟨some 28, .call true (.const (.fn 592 [])) [(.tmp 27), (.const (.int .i64 1000))] [], none⟩,
                ⟨some 29, .build [.int .i64 0, .int .i64 0] [(1, 1, (.tmp 28))], none⟩,
                ⟨some 8, .box 2 (.const (.agg [.int .i64 0, .int .i64 0])), none⟩,
                ⟨none, .store 2 (.tmp 8) (.tmp 29), none⟩])
              (.seq
                (.region false [
                  ⟨some 9, .assign (.const (.sl true 0 1 [] [])), none⟩])
                (.seq
                  (.seq
                    (.region false [
                      ⟨some 10, .assign (.const (.int .i64 0)), none⟩])
                    (.block 0
                      (.loop [1, 5, 6, 8, 9, 10]
                        (.seq
                          (.seq
                            (.region false [
                              ⟨some 30, .move (.tmp 10), none⟩,
                              ⟨some 31, .move (.tmp 1), none⟩,
                              ⟨some 32, .len false (.tmp 31), none⟩,
                              ⟨some 33, .bin 0 .lss (.tmp 30) (.tmp 32), none⟩,
                              ⟨some 34, .move (.tmp 33), none⟩,
                              ⟨some 35, .move (.tmp 10), (some (34, true))⟩,
                              ⟨some 36, .bin 0 .lss (.tmp 35) (.const (.int .i64 50)), (some (34, true))⟩,
                              ⟨some 37, .pick (.tmp 34) (.tmp 36) (.const (.bool false)), none⟩])
                            (.cond (.tmp 37)
                              .skip
                              (.exit 0)))
                          (.seq
                            (.block 1
                              (.seq
                                (.region false [
                                  ⟨some 40, .move (.tmp 1), none⟩,
                                  ⟨some 41, .move (.tmp 10), none⟩,
                                  ⟨some 42, .idxAddr (.tmp 40) (.tmp 41) 1, none⟩,
                                  ⟨some 43, .load false 1 (.tmp 42), none⟩,
                                  ⟨some 44, .call true (.const (.fn 592 [])) [(.tmp 43), (.const (.int .i64 3))] [], none⟩,
                                  ⟨some 45, .bin 0 .add (.const (.int .i64 1)) (.tmp 44), none⟩,
                                  ⟨some 11, .assign (.tmp 45), none⟩])
                                (.seq
                                  (.region false [
                                    ⟨some 46, .move (.tmp 9), none⟩,
                                    ⟨some 47, .move (.tmp 11), none⟩,
                                    ⟨some 48, .buildSlice 1 1 [.int .i64 0] [(0, (.tmp 47))], none⟩,
                                    ⟨some 49, .append 1 8 (.tmp 46) (.tmp 48), none⟩,
                                    ⟨some 9, .assign (.tmp 49), none⟩])
                                  (.seq
                                    (.region false [
                                      ⟨some 50, .move (.tmp 5), none⟩,
                                      ⟨some 51, .load true 2 (.tmp 8), none⟩,
                                      ⟨some 52, .move (.tmp 11), none⟩,
                                      ⟨some 53, .call false (.const (.fn 61 [])) [(.tmp 50), (.tmp 51), (.tmp 52)] [], none⟩])
                                    (.seq
                                      (.region false [
                                        ⟨some 54, .move (.tmp 6), none⟩,
                                        ⟨some 55, .move (.tmp 11), none⟩,
                                        ⟨some 56, .load true 2 (.tmp 8), none⟩,
                                        ⟨some 57, .buildSlice 1 2 [.int .i64 0, .int .i64 0] [(0, (.tmp 56))], none⟩,
                                        ⟨some 58, .call false (.const (.fn 404 [])) [(.tmp 54), (.tmp 55), (.tmp 57)] [], none⟩,
                                        ⟨some 59, .bin 0 .neq (.tmp 58) (.const (.int .i64 0)), none⟩])
                                      (.cond (.tmp 59)
                                        (.seq
                                          (.region false [
                                            ⟨some 4, .assign (.const (.bool false)), none⟩])
                                          .ret)
                                        .skip))))))
                            (.region false [
                              ⟨some 38, .move (.tmp 10), none⟩,
                              ⟨some 39, .bin 0 .add (.tmp 38) (.const (.int .i64 1)), none⟩,
                              ⟨some 10, .assign (.tmp 39), none⟩]))))))
                  (.seq
                    (.region false [
                      ⟨some 60, .move (.tmp 5), none⟩,
                      ⟨some 61, .load true 2 (.tmp 8), none⟩,
                      ⟨some 62, .call false (.const (.fn 62 [])) [(.tmp 60), (.tmp 61)] [], none⟩,
                      ⟨some 12, .assign (.tmp 62), none⟩])
                    (.seq
                      (.seq
                        (.region false [
                          ⟨some 13, .assign (.const (.int .i64 0)), none⟩])
                        (.block 2
                          (.loop [5, 6, 8, 9, 12, 13]
                            (.seq
                              (.seq
                                (.region false [
                                  ⟨some 63, .move (.tmp 13), none⟩,
                                  ⟨some 64, .move (.tmp 12), none⟩,
                                  ⟨some 65, .len false (.tmp 64), none⟩,
                                  ⟨some 66, .bin 0 .lss (.tmp 63) (.tmp 65), none⟩])
                                (.cond (.tmp 66)
                                  .skip
                                  (.exit 2)))
                              (.seq
                                (.block 3
                                  (.seq
                                    (.region false [
                                      ⟨some 14, .assign (.const (.int .i64 0)), none⟩])
                                    (.block 4
                                      (.loop [5, 6, 8, 9, 12, 13, 14]
                                        (.seq
                                          (.seq
                                            (.region false [
                                              ⟨some 69, .move (.tmp 14), none⟩,
                                              ⟨some 70, .move (.tmp 13), none⟩,
                                              ⟨some 71, .bin 0 .lss (.tmp 69) (.tmp 70), none⟩])
                                            (.cond (.tmp 71)
                                              .skip
                                              (.exit 4)))
                                          (.seq
                                            (.block 5
                                              (.seq
                                                (.region true [
                                                  ⟨some 74, .move (.tmp 12), none⟩,
                                                  ⟨some 75, .move (.tmp 13), none⟩,
                                                  ⟨some 76, .idxAddr (.tmp 74) (.tmp 75) 1, none⟩,
                                                  ⟨some 77, .load false 1 (.tmp 76), none⟩,
                                                  ⟨some 78, .move (.tmp 12), none⟩,
                                                  ⟨some 79, .move (.tmp 14), none⟩,
                                                  ⟨some 80, .idxAddr (.tmp 78) (.tmp 79) 1, none⟩,
                                                  ⟨some 81, .load false 1 (.tmp 80), none⟩,
                                                  ⟨some 82, .bin 0 .eql (.tmp 77) (.tmp 81), none⟩])
                                                (.cond (.tmp 82)
                                                  (.seq
                                                    (.region false [
                                                      ⟨some 4, .assign (.const (.bool false)), none⟩])
                                                    .ret)
                                                  .skip)))
                                            (.region false [
                                              ⟨some 72, .move (.tmp 14), none⟩,
                                              ⟨some 73, .bin 0 .add (.tmp 72) (.const (.int .i64 1)), none⟩,
                                              ⟨some 14, .assign (.tmp 73), none⟩])))))))
                                (.region false [
                                  ⟨some 67, .move (.tmp 13), none⟩,
                                  ⟨some 68, .bin 0 .add (.tmp 67) (.const (.int .i64 1)), none⟩,
                                  ⟨some 13, .assign (.tmp 68), none⟩]))))))
                      (.seq
                        (.seq
                          (.region false [
                            ⟨some 83, .move (.tmp 6), none⟩,
                            ⟨some 84, .load true 2 (.tmp 8), none⟩,
                            ⟨some 85, .call true (.const (.fn 401 [])) [(.tmp 83), (.tmp 84)] [], none⟩,
                            ⟨some 86, .move (.tmp 9), none⟩,
                            ⟨some 87, .len false (.tmp 86), none⟩,
                            ⟨some 88, .bin 0 .gtr (.tmp 87) (.const (.int .i64 0)), none⟩,
                            ⟨some 89, .bin 1 .neq (.tmp 85) (.tmp 88), none⟩])
                          (.cond (.tmp 89)
                            (.seq
                              (.region false [
                                ⟨some 4, .assign (.const (.bool false)), none⟩])
                              .ret)
                            .skip))
                        (.seq
                          (.seq
                            (.region false [
                              ⟨some 15, .assign (.const (.int .i64 0)), none⟩])
                            (.block 6
                              (.loop [5, 6, 8, 9, 12, 15]
                                (.seq
                                  (.seq
                                    (.region false [
                                      ⟨some 90, .move (.tmp 15), none⟩,
                                      ⟨some 91, .move (.tmp 9), none⟩,
                                      ⟨some 92, .len false (.tmp 91), none⟩,
                                      ⟨some 93, .bin 0 .lss (.tmp 90) (.tmp 92), none⟩])
                                    (.cond (.tmp 93)
                                      .skip
                                      (.exit 6)))
                                  (.seq
                                    (.block 7
                                      (.seq
                                        (.region true [
                                          ⟨some 96, .move (.tmp 6), none⟩,
                                          ⟨some 97, .load true 2 (.tmp 8), none⟩,
                                          ⟨some 98, .move (.tmp 9), none⟩,
                                          ⟨some 99, .move (.tmp 15), none⟩,
                                          ⟨some 100, .idxAddr (.tmp 98) (.tmp 99) 1, none⟩,
                                          ⟨some 101, .load false 1 (.tmp 100), none⟩,
                                          ⟨some 102, .call false (.const (.fn 405 [])) [(.tmp 96), (.tmp 97), (.tmp 101), (.const (.int .i64 1))] [], none⟩,
                                          ⟨some 103, .bin 0 .neq (.tmp 102) (.const (.int .i64 0)), none⟩])
                                        (.cond (.tmp 103)
                                          (.seq
                                            (.region false [
                                              ⟨some 4, .assign (.const (.bool false)), none⟩])
                                            .ret)
                                          .skip)))
                                    (.region false [
                                      ⟨some 94, .move (.tmp 15), none⟩,
                                      ⟨some 95, .bin 0 .add (.tmp 94) (.const (.int .i64 1)), none⟩,
                                      ⟨some 15, .assign (.tmp 95), none⟩]))))))
                          (.seq
                            (.region false [
                              ⟨some 104, .move (.tmp 12), none⟩,
                              ⟨some 105, .len false (.tmp 104), none⟩,
                              ⟨some 106, .bin 0 .leq (.tmp 105) (.const (.int .i64 3)), none⟩,
                              ⟨some 107, .move (.tmp 106), none⟩,
                              ⟨some 108, .move (.tmp 12), (some (107, true))⟩,
                              ⟨some 109, .len false (.tmp 108), (some (107, true))⟩,
                              ⟨some 110, .bin 0 .gtr (.tmp 109) (.const (.int .i64 0)), (some (107, true))⟩,
                              ⟨some 111, .move (.tmp 9), (some (107, true))⟩,
                              ⟨some 112, .len false (.tmp 111), (some (107, true))⟩,
                              ⟨some 113, .bin 0 .gtr (.tmp 112) (.const (.int .i64 0)), (some (107, true))⟩,
                              ⟨some 114, .bin 1 .eql (.tmp 110) (.tmp 113), (some (107, true))⟩,
                              ⟨some 115, .pick (.tmp 107) (.tmp 114) (.const (.bool false)), none⟩,
                              ⟨some 116, .move (.tmp 115), none⟩,
                              ⟨some 117, .move (.tmp 5), (some (116, true))⟩,
                              ⟨some 118, .load true 2 (.tmp 8), (some (116, true))⟩,
                              ⟨some 119, .call false (.const (.fn 62 [])) [(.tmp 117), (.tmp 118)] [], (some (116, true))⟩,
                              ⟨some 120, .len false (.tmp 119), (some (116, true))⟩,
                              ⟨some 121, .bin 0 .eql (.tmp 120) (.const (.int .i64 0)), (some (116, true))⟩,
                              ⟨some 122, .pick (.tmp 116) (.tmp 121) (.const (.bool false)), none⟩,
                              ⟨some 123, .move (.tmp 122), none⟩,
                              ⟨some 124, .move (.tmp 6), (some (123, true))⟩,
                              ⟨some 125, .load true 2 (.tmp 8), (some (123, true))⟩,
                              ⟨some 126, .call true (.const (.fn 401 [])) [(.tmp 124), (.tmp 125)] [], (some (123, true))⟩,
                              ⟨some 127, .un .not (.tmp 126), (some (123, true))⟩,
                              ⟨some 128, .pick (.tmp 123) (.tmp 127) (.const (.bool false)), none⟩,
                              ⟨some 129, .move (.tmp 128), none⟩,
                              ⟨some 130, .move (.tmp 6), (some (129, true))⟩,
                              ⟨some 131, .call true (.const (.fn 397 [])) [(.tmp 130)] [], (some (129, true))⟩,
                              ⟨some 132, .len false (.tmp 131), (some (129, true))⟩,
                              ⟨some 133, .bin 0 .eql (.tmp 132) (.const (.int .i64 0)), (some (129, true))⟩,
                              ⟨some 134, .pick (.tmp 129) (.tmp 133) (.const (.bool false)), none⟩,
                              ⟨some 4, .assign (.tmp 134), none⟩])
                            .ret)))))))))))) }
/-- purlin/purlintop.which -/
def tf592 : TFn := { ntmps := 14, results := [.tmp 4], body :=
    (.seq
      (.region false [
        ⟨some 4, .assign (.const (.int .i64 0)), none⟩])
      (.seq
        (.region false [
          ⟨some 5, .move (.tmp 0), none⟩,
          ⟨some 6, .move (.tmp 1), none⟩,
          ⟨some 7, .bin 0 .rem (.tmp 5) (.tmp 6), none⟩,
          ⟨some 0, .assign (.tmp 7), none⟩])
        (.seq
          (.seq
            (.region false [
              ⟨some 8, .move (.tmp 0), none⟩,
              ⟨some 9, .bin 0 .lss (.tmp 8) (.const (.int .i64 0)), none⟩])
            (.cond (.tmp 9)
              (.region false [
                ⟨some 10, .move (.tmp 0), none⟩,
                ⟨some 11, .move (.tmp 1), none⟩,
                ⟨some 12, .bin 0 .add (.tmp 10) (.tmp 11), none⟩,
                ⟨some 0, .assign (.tmp 12), none⟩])
              .skip))
          (.seq
            (.region false [
              ⟨some 13, .move (.tmp 0), none⟩,
              ⟨some 4, .assign (.tmp 13), none⟩])
            .ret)))) }
def fnTableH : List (Nat × TFn) := [(669, tf669), (592, tf592)]
def nuTableH : List (Nat × Nat) := [(3, 669), (4, 59), (5, 399), (6, 592), (7, 61), (8, 404), (9, 62), (10, 401), (11, 405), (12, 397), (13, 419), (14, 583), (15, 60), (16, 421), (17, 174), (18, 422), (19, 423), (20, 418), (21, 85), (22, 207)]
end Tree.TH
