/- The hands' functions as E-code. -/
import Derived.Test.YtmhblapchnldhaaDoorTE
set_option autoImplicit false
namespace Tree
open Go
/-- purlin/purlinmem.HandCells -/
def tf209 : TFn := { ntmps := 44, results := [.tmp 2], body :=
    (.seq
      (.region false [
        ⟨some 2, .assign (.const (.sl true 0 5 [] [])), none⟩])
      (.seq
        (.region false [
          ⟨some 6, .move (.tmp 0), none⟩,
          ⟨some 7, .len false (.tmp 6), none⟩,
          ⟨some 8, .bin 0 .add (.tmp 7) (.const (.int .i64 9)), none⟩,
          ⟨some 9, .mkslice 5 48 [.int .u8 0, .str ⟨#[]⟩, .int .i64 0, .int .i64 0, .int .i64 0] (.tmp 8) (.tmp 8), none⟩,
          ⟨some 3, .assign (.tmp 9), none⟩])
        (.seq
          (.seq
            (.region false [
              ⟨some 4, .assign (.const (.int .i64 0)), none⟩])
            (.block 0
              (.loop [0, 3, 4]
                (.seq
                  (.seq
                    (.region false [
                      ⟨some 10, .move (.tmp 4), none⟩,
                      ⟨some 11, .move (.tmp 0), none⟩,
                      ⟨some 12, .len false (.tmp 11), none⟩,
                      ⟨some 13, .bin 0 .lss (.tmp 10) (.tmp 12), none⟩])
                    (.cond (.tmp 13)
                      .skip
                      (.exit 0)))
                  (.seq
                    (.block 1
                      (.region false [
                        ⟨some 16, .move (.tmp 3), none⟩,
                        ⟨some 17, .move (.tmp 4), none⟩,
                        ⟨some 18, .move (.tmp 0), none⟩,
                        ⟨some 19, .move (.tmp 4), none⟩,
                        ⟨some 20, .idxAddr (.tmp 18) (.tmp 19) 5, none⟩,
                        ⟨some 21, .load true 5 (.tmp 20), none⟩,
                        ⟨some 22, .idxAddr (.tmp 16) (.tmp 17) 5, none⟩,
                        ⟨none, .store 5 (.tmp 22) (.tmp 21), none⟩]))
                    (.region false [
                      ⟨some 14, .move (.tmp 4), none⟩,
                      ⟨some 15, .bin 0 .add (.tmp 14) (.const (.int .i64 1)), none⟩,
                      ⟨some 4, .assign (.tmp 15), none⟩]))))))
          (.seq
            (.seq
              (.region false [
                ⟨some 23, .move (.tmp 0), none⟩,
                ⟨some 24, .len false (.tmp 23), none⟩,
                ⟨some 5, .assign (.tmp 24), none⟩])
              (.block 2
                (.loop [0, 3, 5]
                  (.seq
                    (.seq
                      (.region false [
                        ⟨some 25, .move (.tmp 5), none⟩,
                        ⟨some 26, .move (.tmp 3), none⟩,
                        ⟨some 27, .len false (.tmp 26), none⟩,
                        ⟨some 28, .bin 0 .lss (.tmp 25) (.tmp 27), none⟩])
                      (.cond (.tmp 28)
                        .skip
                        (.exit 2)))
                    (.seq
                      (.block 3
                        (.region false [
                          ⟨some 31, .move (.tmp 3), none⟩,
                          ⟨some 32, .move (.tmp 5), none⟩,
                          ⟨some 33, .move (.tmp 5), none⟩,
                          ⟨some 34, .bin 0 .sub (.const (.int .i64 (-700))) (.tmp 33), none⟩,
                          ⟨some 35, .move (.tmp 0), none⟩,
                          ⟨some 36, .len false (.tmp 35), none⟩,
                          ⟨some 37, .bin 0 .add (.tmp 34) (.tmp 36), none⟩,
                          ⟨some 38, .build [.int .u8 0, .str ⟨#[]⟩, .int .i64 0, .int .i64 0, .int .i64 0] [(2, 1, (.tmp 37))], none⟩,
                          ⟨some 39, .idxAddr (.tmp 31) (.tmp 32) 5, none⟩,
                          ⟨none, .store 5 (.tmp 39) (.tmp 38), none⟩]))
                      (.region false [
                        ⟨some 29, .move (.tmp 5), none⟩,
                        ⟨some 30, .bin 0 .add (.tmp 29) (.const (.int .i64 1)), none⟩,
                        ⟨some 5, .assign (.tmp 30), none⟩]))))))
            (.seq
              (.region false [
                ⟨some 40, .move (.tmp 3), none⟩,
                ⟨some 41, .move (.tmp 0), none⟩,
                ⟨some 42, .len false (.tmp 41), none⟩,
                ⟨some 43, .slice 5 (.tmp 40) none (some (.tmp 42)), none⟩,
                ⟨some 2, .assign (.tmp 43), none⟩])
              .ret))))) }
/-- purlin/purlinmem.KeptCells -/
def tf211 : TFn := { ntmps := 35, results := [.tmp 4], body :=
    (.seq
      (.region false [
        ⟨some 4, .assign (.const (.bool false)), none⟩])
      (.seq
        (.seq
          (.region false [
            ⟨some 7, .move (.tmp 0), none⟩,
            ⟨some 8, .move (.tmp 1), none⟩,
            ⟨some 9, .call true (.const (.fn 214 [])) [(.tmp 7), (.tmp 8)] [], none⟩,
            ⟨some 10, .un .not (.tmp 9), none⟩])
          (.cond (.tmp 10)
            (.seq
              (.region false [
                ⟨some 4, .assign (.const (.bool false)), none⟩])
              .ret)
            .skip))
        (.seq
          (.region false [
            ⟨some 11, .move (.tmp 0), none⟩,
            ⟨some 12, .move (.tmp 1), none⟩,
            ⟨some 13, .len false (.tmp 12), none⟩,
            ⟨some 14, .bin 0 .add (.tmp 13) (.const (.int .i64 9)), none⟩,
            ⟨some 15, .slice 5 (.tmp 11) none (some (.tmp 14)), none⟩,
            ⟨some 5, .assign (.tmp 15), none⟩])
          (.seq
            (.seq
              (.region false [
                ⟨some 16, .move (.tmp 1), none⟩,
                ⟨some 17, .len false (.tmp 16), none⟩,
                ⟨some 6, .assign (.tmp 17), none⟩])
              (.block 0
                (.loop [1, 5, 6]
                  (.seq
                    (.seq
                      (.region false [
                        ⟨some 18, .move (.tmp 6), none⟩,
                        ⟨some 19, .move (.tmp 5), none⟩,
                        ⟨some 20, .len false (.tmp 19), none⟩,
                        ⟨some 21, .bin 0 .lss (.tmp 18) (.tmp 20), none⟩])
                      (.cond (.tmp 21)
                        .skip
                        (.exit 0)))
                    (.seq
                      (.block 1
                        (.seq
                          (.region false [
                            ⟨some 24, .move (.tmp 5), none⟩,
                            ⟨some 25, .move (.tmp 6), none⟩,
                            ⟨some 26, .idxAddr (.tmp 24) (.tmp 25) 5, none⟩,
                            ⟨some 27, .load true 5 (.tmp 26), none⟩,
                            ⟨some 28, .move (.tmp 6), none⟩,
                            ⟨some 29, .bin 0 .sub (.const (.int .i64 (-700))) (.tmp 28), none⟩,
                            ⟨some 30, .move (.tmp 1), none⟩,
                            ⟨some 31, .len false (.tmp 30), none⟩,
                            ⟨some 32, .bin 0 .add (.tmp 29) (.tmp 31), none⟩,
                            ⟨some 33, .build [.int .u8 0, .str ⟨#[]⟩, .int .i64 0, .int .i64 0, .int .i64 0] [(2, 1, (.tmp 32))], none⟩,
                            ⟨some 34, .eqAgg true 345048 (.tmp 27) (.tmp 33), none⟩])
                          (.cond (.tmp 34)
                            (.seq
                              (.region false [
                                ⟨some 4, .assign (.const (.bool false)), none⟩])
                              .ret)
                            .skip)))
                      (.region false [
                        ⟨some 22, .move (.tmp 6), none⟩,
                        ⟨some 23, .bin 0 .add (.tmp 22) (.const (.int .i64 1)), none⟩,
                        ⟨some 6, .assign (.tmp 23), none⟩]))))))
            (.seq
              (.region false [
                ⟨some 4, .assign (.const (.bool true)), none⟩])
              .ret))))) }
/-- purlin/purlinmem.SameCells -/
def tf214 : TFn := { ntmps := 26, results := [.tmp 4], body :=
    (.seq
      (.region false [
        ⟨some 4, .assign (.const (.bool false)), none⟩])
      (.seq
        (.seq
          (.region false [
            ⟨some 6, .move (.tmp 0), none⟩,
            ⟨some 7, .len false (.tmp 6), none⟩,
            ⟨some 8, .move (.tmp 1), none⟩,
            ⟨some 9, .len false (.tmp 8), none⟩,
            ⟨some 10, .bin 0 .neq (.tmp 7) (.tmp 9), none⟩])
          (.cond (.tmp 10)
            (.seq
              (.region false [
                ⟨some 4, .assign (.const (.bool false)), none⟩])
              .ret)
            .skip))
        (.seq
          (.seq
            (.region false [
              ⟨some 5, .assign (.const (.int .i64 0)), none⟩])
            (.block 0
              (.loop [0, 1, 5]
                (.seq
                  (.seq
                    (.region false [
                      ⟨some 11, .move (.tmp 5), none⟩,
                      ⟨some 12, .move (.tmp 0), none⟩,
                      ⟨some 13, .len false (.tmp 12), none⟩,
                      ⟨some 14, .bin 0 .lss (.tmp 11) (.tmp 13), none⟩])
                    (.cond (.tmp 14)
                      .skip
                      (.exit 0)))
                  (.seq
                    (.block 1
                      (.seq
                        (.region true [
                          ⟨some 17, .move (.tmp 0), none⟩,
                          ⟨some 18, .move (.tmp 5), none⟩,
                          ⟨some 19, .idxAddr (.tmp 17) (.tmp 18) 5, none⟩,
                          ⟨some 20, .load true 5 (.tmp 19), none⟩,
                          ⟨some 21, .move (.tmp 1), none⟩,
                          ⟨some 22, .move (.tmp 5), none⟩,
                          ⟨some 23, .idxAddr (.tmp 21) (.tmp 22) 5, none⟩,
                          ⟨some 24, .load true 5 (.tmp 23), none⟩,
                          ⟨some 25, .eqAgg true 345048 (.tmp 20) (.tmp 24), none⟩])
                        (.cond (.tmp 25)
                          (.seq
                            (.region false [
                              ⟨some 4, .assign (.const (.bool false)), none⟩])
                            .ret)
                          .skip)))
                    (.region false [
                      ⟨some 15, .move (.tmp 5), none⟩,
                      ⟨some 16, .bin 0 .add (.tmp 15) (.const (.int .i64 1)), none⟩,
                      ⟨some 5, .assign (.tmp 16), none⟩]))))))
          (.seq
            (.region false [
              ⟨some 4, .assign (.const (.bool true)), none⟩])
            .ret)))) }
/-- purlin/purlinmem.HandTerm -/
def tf216 : TFn := { ntmps := 5, results := [.tmp 2], body :=
    (.seq
      (.region false [
        ⟨some 2, .assign (.const (.sl true 0 5 [] [])), none⟩])
      (.seq
        (.region false [
          ⟨some 3, .move (.tmp 0), none⟩,
          ⟨some 4, .call true (.const (.fn 209 [])) [(.tmp 3)] [], none⟩,
          ⟨some 2, .assign (.tmp 4), none⟩])
        .ret)) }
/-- purlin/purlinmem.KeptTerm -/
def tf220 : TFn := { ntmps := 8, results := [.tmp 4], body :=
    (.seq
      (.region false [
        ⟨some 4, .assign (.const (.bool false)), none⟩])
      (.seq
        (.region false [
          ⟨some 5, .move (.tmp 0), none⟩,
          ⟨some 6, .move (.tmp 1), none⟩,
          ⟨some 7, .call true (.const (.fn 211 [])) [(.tmp 5), (.tmp 6)] [], none⟩,
          ⟨some 4, .assign (.tmp 7), none⟩])
        .ret)) }
end Tree
