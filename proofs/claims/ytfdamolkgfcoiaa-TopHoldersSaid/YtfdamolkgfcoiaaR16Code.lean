/- Layer 16: the program's functions as E-code. -/
import Derived.Test.YtfdamolkgfcoiaaTA
set_option autoImplicit false
set_option maxRecDepth 100000
namespace Tree.R16
open Go Tree
/-- (*purlin/refs.Table).Exports -/
def tf397 : TFn := { ntmps := 10, results := [.tmp 2], body :=
    (.seq
      (.region false [
        ⟨some 2, .assign (.const (.sl true 0 4 [] [])), none⟩])
      (.seq
        (.seq
          (.region false [
            ⟨some 3, .move (.tmp 0), none⟩,
            ⟨some 4, .bin 2 .eql (.tmp 3) (.const .nilptr), none⟩])
          (.cond (.tmp 4)
            (.seq
              (.region false [
                ⟨some 2, .assign (.const (.sl true 0 4 [] [])), none⟩])
              .ret)
            .skip))
        (.seq
          (.region false [
            ⟨some 5, .move (.tmp 0), none⟩,
            ⟨some 6, .nilCheck (.tmp 5), none⟩,
            ⟨some 7, .faddr (.tmp 6) 2, none⟩,
            ⟨some 8, .load false 1 (.tmp 7), none⟩,
            ⟨some 9, .call true (.const (.fn 418 [])) [(.tmp 8)] [], none⟩,
            ⟨some 2, .assign (.tmp 9), none⟩])
          .ret))) }
/-- purlin/refs.New -/
def tf399 : TFn := { ntmps := 27, results := [.tmp 4, .tmp 5], body :=
    (.seq
      (.region false [
        ⟨some 4, .assign (.const .nilptr), none⟩,
        ⟨some 5, .assign (.const (.int .i64 0)), none⟩])
      (.seq
        (.region false [
          ⟨some 7, .move (.tmp 0), none⟩,
          ⟨some 8, .move (.tmp 1), none⟩,
          ⟨some 9, .build [.int .i64 0, .int .i64 0] [(0, 1, (.tmp 7)), (1, 1, (.tmp 8))], none⟩,
          ⟨some 6, .box 2 (.const (.agg [.int .i64 0, .int .i64 0])), none⟩,
          ⟨none, .store 2 (.tmp 6) (.tmp 9), none⟩])
        (.seq
          (.seq
            (.region false [
              ⟨some 10, .move (.tmp 1), none⟩,
              ⟨some 11, .bin 0 .lss (.tmp 10) (.const (.int .i64 1)), none⟩,
              ⟨some 12, .move (.tmp 11), none⟩,
              ⟨some 13, .move (.tmp 1), (some (12, false))⟩,
              ⟨some 14, .bin 0 .gtr (.tmp 13) (.const (.int .i64 4)), (some (12, false))⟩,
              ⟨some 15, .pick (.tmp 12) (.const (.bool true)) (.tmp 14), none⟩,
              ⟨some 16, .move (.tmp 15), none⟩,
              ⟨some 17, .load true 2 (.tmp 6), (some (16, false))⟩,
              ⟨some 18, .move (.tmp 0), (some (16, false))⟩,
              ⟨some 19, .call true (.const (.fn 419 [])) [(.tmp 17), (.tmp 18)] [], (some (16, false))⟩,
              ⟨some 20, .un .not (.tmp 19), (some (16, false))⟩,
              ⟨some 21, .pick (.tmp 16) (.const (.bool true)) (.tmp 20), none⟩])
            (.cond (.tmp 21)
              (.seq
                (.region false [
                  ⟨some 4, .assign (.const .nilptr), none⟩,
                  ⟨some 5, .assign (.const (.int .i64 2)), none⟩])
                .ret)
              .skip))
          (.seq
            (.region false [
              ⟨some 22, .load true 2 (.tmp 6), none⟩,
              ⟨some 23, .mkmap, none⟩,
              ⟨some 24, .mkmap, none⟩,
              ⟨some 25, .build [.int .i64 0, .int .i64 0, .nilmap, .nilmap] [(0, 2, (.tmp 22)), (2, 1, (.tmp 23)), (3, 1, (.tmp 24))], none⟩,
              ⟨some 26, .new 4 (.tmp 25), none⟩,
              ⟨some 4, .assign (.tmp 26), none⟩,
              ⟨some 5, .assign (.const (.int .i64 0)), none⟩])
            .ret)))) }
/-- (*purlin/refs.Table).Sent -/
def tf404 : TFn := { ntmps := 39, results := [.tmp 6], body :=
    (.seq
      (.region false [
        ⟨some 3, .box 1 (.tmp 0), none⟩,
        ⟨some 6, .assign (.const (.int .i64 0)), none⟩])
      (.seq
        (.block 0
          (.seq
            (.region false [
              ⟨some 10, .load false 1 (.tmp 3), none⟩,
              ⟨some 11, .bin 2 .eql (.tmp 10) (.const .nilptr), none⟩,
              ⟨some 9, .assign (.tmp 11), none⟩])
            (.cond (.tmp 9)
              (.seq
                (.region false [
                  ⟨some 6, .assign (.const (.int .i64 1)), none⟩])
                .ret)
              (.seq
                (.region false [
                  ⟨some 13, .load false 1 (.tmp 3), none⟩,
                  ⟨some 14, .nilCheck (.tmp 13), none⟩,
                  ⟨some 15, .faddr (.tmp 14) 0, none⟩,
                  ⟨some 16, .load true 2 (.tmp 15), none⟩,
                  ⟨some 17, .move (.tmp 1), none⟩,
                  ⟨some 18, .call true (.const (.fn 421 [])) [(.tmp 16), (.tmp 17)] [], none⟩,
                  ⟨some 19, .un .not (.tmp 18), none⟩,
                  ⟨some 12, .assign (.tmp 19), none⟩])
                (.cond (.tmp 12)
                  (.seq
                    (.region false [
                      ⟨some 6, .assign (.const (.int .i64 2)), none⟩])
                    .ret)
                  (.seq
                    (.region false [
                      ⟨some 21, .move (.tmp 2), none⟩,
                      ⟨some 22, .makeFunc 422 [(.tmp 3)], none⟩,
                      ⟨some 23, .call true (.const (.fn 174 [])) [(.tmp 21), (.tmp 22)] [], none⟩,
                      ⟨some 20, .assign (.tmp 23), none⟩])
                    (.cond (.tmp 20)
                      (.seq
                        (.region false [
                          ⟨some 6, .assign (.const (.int .i64 4)), none⟩])
                        .ret)
                      .skip)))))))
        (.seq
          (.seq
            (.region false [
              ⟨some 24, .move (.tmp 2), none⟩,
              ⟨some 25, .len false (.tmp 24), none⟩,
              ⟨some 26, .move (.const (.int .i64 0)), none⟩])
            (.block 1
              (.loop [1, 3, 24, 25, 26]
                (.seq
                  (.region false [
                    ⟨some 27, .bin 0 .lss (.tmp 26) (.tmp 25), none⟩])
                  (.seq
                    (.cond (.tmp 27)
                      .skip
                      (.exit 1))
                    (.seq
                      (.block 2
                        (.seq
                          (.region false [
                            ⟨some 28, .idxAddr (.tmp 24) (.tmp 26) 2, none⟩,
                            ⟨some 29, .load true 2 (.tmp 28), none⟩,
                            ⟨some 8, .box 2 (.const (.agg [.int .i64 0, .int .i64 0])), none⟩,
                            ⟨none, .store 2 (.tmp 8) (.tmp 29), none⟩])
                          (.region true [
                            ⟨some 30, .load false 1 (.tmp 3), none⟩,
                            ⟨some 31, .nilCheck (.tmp 30), none⟩,
                            ⟨some 32, .faddr (.tmp 31) 2, none⟩,
                            ⟨some 33, .load false 1 (.tmp 32), none⟩,
                            ⟨some 34, .load true 2 (.tmp 8), none⟩,
                            ⟨some 35, .move (.tmp 1), none⟩,
                            ⟨some 36, .build [.int .i64 0, .int .i64 0, .int .i64 0] [(0, 2, (.tmp 34)), (2, 1, (.tmp 35))], none⟩,
                            ⟨some 37, .call false (.const (.fn 423 [])) [(.tmp 33), (.tmp 36), (.const (.int .i64 1))] [], none⟩])))
                      (.region false [
                        ⟨some 38, .bin 0 .add (.tmp 26) (.const (.int .i64 1)), none⟩,
                        ⟨some 26, .move (.tmp 38), none⟩])))))))
          (.seq
            (.region false [
              ⟨some 6, .assign (.const (.int .i64 0)), none⟩])
            .ret)))) }
/-- (*purlin/refs.Table).Released -/
def tf405 : TFn := { ntmps := 47, results := [.tmp 8], body :=
    (.seq
      (.region false [
        ⟨some 5, .box 2 (.tmp 1), none⟩,
        ⟨some 8, .assign (.const (.int .i64 0)), none⟩])
      (.seq
        (.block 0
          (.seq
            (.region false [
              ⟨some 10, .move (.tmp 0), none⟩,
              ⟨some 11, .bin 2 .eql (.tmp 10) (.const .nilptr), none⟩,
              ⟨some 9, .assign (.tmp 11), none⟩])
            (.cond (.tmp 9)
              (.seq
                (.region false [
                  ⟨some 8, .assign (.const (.int .i64 1)), none⟩])
                .ret)
              (.seq
                (.region false [
                  ⟨some 13, .move (.tmp 0), none⟩,
                  ⟨some 14, .nilCheck (.tmp 13), none⟩,
                  ⟨some 15, .faddr (.tmp 14) 0, none⟩,
                  ⟨some 16, .load true 2 (.tmp 15), none⟩,
                  ⟨some 17, .move (.tmp 2), none⟩,
                  ⟨some 18, .call true (.const (.fn 421 [])) [(.tmp 16), (.tmp 17)] [], none⟩,
                  ⟨some 19, .un .not (.tmp 18), none⟩,
                  ⟨some 20, .move (.tmp 19), none⟩,
                  ⟨some 21, .move (.tmp 3), (some (20, false))⟩,
                  ⟨some 22, .bin 0 .lss (.tmp 21) (.const (.int .i64 1)), (some (20, false))⟩,
                  ⟨some 23, .pick (.tmp 20) (.const (.bool true)) (.tmp 22), none⟩,
                  ⟨some 24, .move (.tmp 23), none⟩,
                  ⟨some 25, .move (.tmp 3), (some (24, false))⟩,
                  ⟨some 26, .bin 0 .gtr (.tmp 25) (.const (.int .i64 2147483647)), (some (24, false))⟩,
                  ⟨some 27, .pick (.tmp 24) (.const (.bool true)) (.tmp 26), none⟩,
                  ⟨some 12, .assign (.tmp 27), none⟩])
                (.cond (.tmp 12)
                  (.seq
                    (.region false [
                      ⟨some 8, .assign (.const (.int .i64 2)), none⟩])
                    .ret)
                  (.seq
                    (.region true [
                      ⟨some 29, .faddr (.tmp 5) 0, none⟩,
                      ⟨some 30, .load false 1 (.tmp 29), none⟩,
                      ⟨some 31, .move (.tmp 0), none⟩,
                      ⟨some 32, .nilCheck (.tmp 31), none⟩,
                      ⟨some 33, .faddr (.tmp 32) 0, none⟩,
                      ⟨some 34, .faddr (.tmp 33) 0, none⟩,
                      ⟨some 35, .load false 1 (.tmp 34), none⟩,
                      ⟨some 36, .bin 0 .neq (.tmp 30) (.tmp 35), none⟩,
                      ⟨some 28, .assign (.tmp 36), none⟩])
                    (.cond (.tmp 28)
                      (.seq
                        (.region false [
                          ⟨some 8, .assign (.const (.int .i64 4)), none⟩])
                        .ret)
                      .skip)))))))
        (.seq
          (.region true [
            ⟨some 37, .move (.tmp 0), none⟩,
            ⟨some 38, .nilCheck (.tmp 37), none⟩,
            ⟨some 39, .faddr (.tmp 38) 2, none⟩,
            ⟨some 40, .load false 1 (.tmp 39), none⟩,
            ⟨some 41, .load true 2 (.tmp 5), none⟩,
            ⟨some 42, .move (.tmp 2), none⟩,
            ⟨some 43, .build [.int .i64 0, .int .i64 0, .int .i64 0] [(0, 2, (.tmp 41)), (2, 1, (.tmp 42))], none⟩,
            ⟨some 44, .move (.tmp 3), none⟩,
            ⟨some 45, .un .neg (.tmp 44), none⟩,
            ⟨some 46, .call false (.const (.fn 423 [])) [(.tmp 40), (.tmp 43), (.tmp 45)] [], none⟩])
          (.seq
            (.region false [
              ⟨some 8, .assign (.const (.int .i64 0)), none⟩])
            .ret)))) }
/-- (purlin/refs.ring).is -/
def tf419 : TFn := { ntmps := 13, results := [.tmp 4], body :=
    (.seq
      (.region false [
        ⟨some 2, .box 2 (.tmp 0), none⟩,
        ⟨some 4, .assign (.const (.bool false)), none⟩])
      (.seq
        (.region false [
          ⟨some 5, .move (.tmp 1), none⟩,
          ⟨some 6, .bin 0 .geq (.tmp 5) (.const (.int .i64 0)), none⟩,
          ⟨some 7, .move (.tmp 6), none⟩,
          ⟨some 8, .move (.tmp 1), (some (7, true))⟩,
          ⟨some 9, .faddr (.tmp 2) 1, (some (7, true))⟩,
          ⟨some 10, .load false 1 (.tmp 9), (some (7, true))⟩,
          ⟨some 11, .bin 0 .lss (.tmp 8) (.tmp 10), (some (7, true))⟩,
          ⟨some 12, .pick (.tmp 7) (.tmp 11) (.const (.bool false)), none⟩,
          ⟨some 4, .assign (.tmp 12), none⟩])
        .ret)) }
/-- (purlin/refs.ring).isOther -/
def tf421 : TFn := { ntmps := 14, results := [.tmp 4], body :=
    (.seq
      (.region false [
        ⟨some 2, .box 2 (.tmp 0), none⟩,
        ⟨some 4, .assign (.const (.bool false)), none⟩])
      (.seq
        (.region false [
          ⟨some 5, .load true 2 (.tmp 2), none⟩,
          ⟨some 6, .move (.tmp 1), none⟩,
          ⟨some 7, .call true (.const (.fn 419 [])) [(.tmp 5), (.tmp 6)] [], none⟩,
          ⟨some 8, .move (.tmp 7), none⟩,
          ⟨some 9, .move (.tmp 1), (some (8, true))⟩,
          ⟨some 10, .faddr (.tmp 2) 0, (some (8, true))⟩,
          ⟨some 11, .load false 1 (.tmp 10), (some (8, true))⟩,
          ⟨some 12, .bin 0 .neq (.tmp 9) (.tmp 11), (some (8, true))⟩,
          ⟨some 13, .pick (.tmp 8) (.tmp 12) (.const (.bool false)), none⟩,
          ⟨some 4, .assign (.tmp 13), none⟩])
        .ret)) }
/-- slices.ContainsFunc[[]purlin/api.Name,purlin/api.Name] -/
def tf174 : TFn := { ntmps := 9, results := [.tmp 4], body :=
    (.seq
      (.region false [
        ⟨some 4, .assign (.const (.bool false)), none⟩])
      (.seq
        (.region false [
          ⟨some 5, .move (.tmp 0), none⟩,
          ⟨some 6, .move (.tmp 1), none⟩,
          ⟨some 7, .call true (.const (.fn 207 [])) [(.tmp 5), (.tmp 6)] [], none⟩,
          ⟨some 8, .bin 0 .geq (.tmp 7) (.const (.int .i64 0)), none⟩,
          ⟨some 4, .assign (.tmp 8), none⟩])
        .ret)) }
/-- (*purlin/refs.Table).Sent$1 -/
def tf422 : TFn := { ntmps := 12, results := [.tmp 3], body :=
    (.seq
      (.region false [
        ⟨some 2, .box 2 (.tmp 0), none⟩,
        ⟨some 3, .assign (.const (.bool false)), none⟩])
      (.seq
        (.region true [
          ⟨some 4, .faddr (.tmp 2) 0, none⟩,
          ⟨some 5, .load false 1 (.tmp 4), none⟩,
          ⟨some 6, .load false 1 (.tmp 1), none⟩,
          ⟨some 7, .nilCheck (.tmp 6), none⟩,
          ⟨some 8, .faddr (.tmp 7) 0, none⟩,
          ⟨some 9, .faddr (.tmp 8) 0, none⟩,
          ⟨some 10, .load false 1 (.tmp 9), none⟩,
          ⟨some 11, .bin 0 .neq (.tmp 5) (.tmp 10), none⟩,
          ⟨some 3, .assign (.tmp 11), none⟩])
        .ret)) }
/-- (purlin/refs.counts).add -/
def tf423 : TFn := { ntmps := 19, results := [], body :=
    (.seq
      (.region false [
        ⟨some 4, .box 3 (.tmp 1), none⟩])
      (.seq
        (.region true [
          ⟨some 6, .move (.tmp 0), none⟩,
          ⟨some 7, .load true 3 (.tmp 4), none⟩,
          ⟨some 8, .lookup 21104 (.int .i64 0) false (.tmp 6) (.tmp 7), none⟩,
          ⟨some 9, .move (.tmp 2), none⟩,
          ⟨some 10, .bin 0 .add (.tmp 8) (.tmp 9), none⟩,
          ⟨some 11, .mapEnt 21104 (.int .i64 0) (.tmp 6) (.tmp 7), none⟩,
          ⟨some 12, .extract (.tmp 11) 1, none⟩,
          ⟨none, .entPut (.tmp 6) (.tmp 12) (.tmp 10), none⟩])
        (.seq
          (.region false [
            ⟨some 13, .move (.tmp 0), none⟩,
            ⟨some 14, .load true 3 (.tmp 4), none⟩,
            ⟨some 15, .lookup 21104 (.int .i64 0) false (.tmp 13) (.tmp 14), none⟩,
            ⟨some 16, .bin 0 .eql (.tmp 15) (.const (.int .i64 0)), none⟩])
          (.cond (.tmp 16)
            (.region false [
              ⟨some 17, .move (.tmp 0), none⟩,
              ⟨some 18, .load true 3 (.tmp 4), none⟩,
              ⟨none, .mapDel 21104 (.tmp 17) (.tmp 18), none⟩])
            .skip)))) }
/-- slices.IndexFunc[[]purlin/api.Name,purlin/api.Name] -/
def tf207 : TFn := { ntmps := 19, results := [.tmp 4], body :=
    (.seq
      (.region false [
        ⟨some 4, .assign (.const (.int .i64 0)), none⟩])
      (.seq
        (.seq
          (.region false [
            ⟨some 6, .move (.tmp 0), none⟩,
            ⟨some 7, .len false (.tmp 6), none⟩,
            ⟨some 8, .move (.const (.int .i64 0)), none⟩])
          (.block 0
            (.loop [0, 1, 7, 8]
              (.seq
                (.region false [
                  ⟨some 9, .bin 0 .lss (.tmp 8) (.tmp 7), none⟩])
                (.seq
                  (.cond (.tmp 9)
                    .skip
                    (.exit 0))
                  (.seq
                    (.block 1
                      (.seq
                        (.region false [
                          ⟨some 10, .move (.tmp 8), none⟩,
                          ⟨some 5, .assign (.tmp 10), none⟩])
                        (.seq
                          (.region false [
                            ⟨some 11, .move (.tmp 1), none⟩,
                            ⟨some 12, .move (.tmp 0), none⟩,
                            ⟨some 13, .move (.tmp 5), none⟩,
                            ⟨some 14, .idxAddr (.tmp 12) (.tmp 13) 2, none⟩,
                            ⟨some 15, .load true 2 (.tmp 14), none⟩,
                            ⟨some 16, .call true (.tmp 11) [(.tmp 15)] [], none⟩])
                          (.cond (.tmp 16)
                            (.seq
                              (.region false [
                                ⟨some 17, .move (.tmp 5), none⟩,
                                ⟨some 4, .assign (.tmp 17), none⟩])
                              .ret)
                            .skip))))
                    (.region false [
                      ⟨some 18, .bin 0 .add (.tmp 8) (.const (.int .i64 1)), none⟩,
                      ⟨some 8, .move (.tmp 18), none⟩])))))))
        (.seq
          (.region false [
            ⟨some 4, .assign (.const (.int .i64 (-1))), none⟩])
          .ret))) }
def fnTable16 : List (Nat × TFn) := [(397, tf397), (399, tf399), (404, tf404), (405, tf405), (419, tf419), (421, tf421), (174, tf174), (422, tf422), (423, tf423), (207, tf207)]
end Tree.R16
