/- The hands' functions as E-code. -/
import Derived.Test.YtoofpbdalgopgaaDoorTE
set_option autoImplicit false
namespace Tree
open Go
/-- purlin/purlinmem.HandInts -/
def tf221 : TFn := { ntmps := 43, results := [.tmp 2], body :=
    (.seq
      (.region false [
        ⟨some 2, .assign (.const (.sl true 0 1 [] [])), none⟩])
      (.seq
        (.region false [
          ⟨some 6, .move (.tmp 0), none⟩,
          ⟨some 7, .len false (.tmp 6), none⟩,
          ⟨some 8, .bin 0 .add (.tmp 7) (.const (.int .i64 9)), none⟩,
          ⟨some 9, .mkslice 1 8 [.int .i64 0] (.tmp 8) (.tmp 8), none⟩,
          ⟨some 3, .assign (.tmp 9), none⟩])
        (.seq
          (.seq
            (.region false [
              ⟨some 4, .assign (.const (.int .i64 0)), none⟩])
            (.block 0
              (.loop [0, 3, 4]
                (.seq
                  (.seq
                    (.region false [
                      ⟨some 10, .move (.tmp 4), none⟩,
                      ⟨some 11, .move (.tmp 0), none⟩,
                      ⟨some 12, .len false (.tmp 11), none⟩,
                      ⟨some 13, .bin 0 .lss (.tmp 10) (.tmp 12), none⟩])
                    (.cond (.tmp 13)
                      .skip
                      (.exit 0)))
                  (.seq
                    (.block 1
                      (.region false [
                        ⟨some 16, .move (.tmp 3), none⟩,
                        ⟨some 17, .move (.tmp 4), none⟩,
                        ⟨some 18, .move (.tmp 0), none⟩,
                        ⟨some 19, .move (.tmp 4), none⟩,
                        ⟨some 20, .idxAddr (.tmp 18) (.tmp 19) 1, none⟩,
                        ⟨some 21, .load false 1 (.tmp 20), none⟩,
                        ⟨some 22, .idxAddr (.tmp 16) (.tmp 17) 1, none⟩,
                        ⟨none, .store 1 (.tmp 22) (.tmp 21), none⟩]))
                    (.region false [
                      ⟨some 14, .move (.tmp 4), none⟩,
                      ⟨some 15, .bin 0 .add (.tmp 14) (.const (.int .i64 1)), none⟩,
                      ⟨some 4, .assign (.tmp 15), none⟩]))))))
          (.seq
            (.seq
              (.region false [
                ⟨some 23, .move (.tmp 0), none⟩,
                ⟨some 24, .len false (.tmp 23), none⟩,
                ⟨some 5, .assign (.tmp 24), none⟩])
              (.block 2
                (.loop [0, 3, 5]
                  (.seq
                    (.seq
                      (.region false [
                        ⟨some 25, .move (.tmp 5), none⟩,
                        ⟨some 26, .move (.tmp 3), none⟩,
                        ⟨some 27, .len false (.tmp 26), none⟩,
                        ⟨some 28, .bin 0 .lss (.tmp 25) (.tmp 27), none⟩])
                      (.cond (.tmp 28)
                        .skip
                        (.exit 2)))
                    (.seq
                      (.block 3
                        (.region false [
                          ⟨some 31, .move (.tmp 3), none⟩,
                          ⟨some 32, .move (.tmp 5), none⟩,
                          ⟨some 33, .move (.tmp 5), none⟩,
                          ⟨some 34, .bin 0 .sub (.const (.int .i64 (-700))) (.tmp 33), none⟩,
                          ⟨some 35, .move (.tmp 0), none⟩,
                          ⟨some 36, .len false (.tmp 35), none⟩,
                          ⟨some 37, .bin 0 .add (.tmp 34) (.tmp 36), none⟩,
                          ⟨some 38, .idxAddr (.tmp 31) (.tmp 32) 1, none⟩,
                          ⟨none, .store 1 (.tmp 38) (.tmp 37), none⟩]))
                      (.region false [
                        ⟨some 29, .move (.tmp 5), none⟩,
                        ⟨some 30, .bin 0 .add (.tmp 29) (.const (.int .i64 1)), none⟩,
                        ⟨some 5, .assign (.tmp 30), none⟩]))))))
            (.seq
              (.region false [
                ⟨some 39, .move (.tmp 3), none⟩,
                ⟨some 40, .move (.tmp 0), none⟩,
                ⟨some 41, .len false (.tmp 40), none⟩,
                ⟨some 42, .slice 1 (.tmp 39) none (some (.tmp 41)), none⟩,
                ⟨some 2, .assign (.tmp 42), none⟩])
              .ret))))) }
end Tree
