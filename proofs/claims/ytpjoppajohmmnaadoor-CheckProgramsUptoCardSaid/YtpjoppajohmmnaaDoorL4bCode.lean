/- Layer 4b: the program's functions as E-code. -/
import Derived.Test.YtpjoppajohmmnaaDoorHCode
set_option autoImplicit false
namespace Tree
open Go
/-- purlin/purlinmem.HandProgram -/
def tf272 : TFn := { ntmps := 39, results := [.tmp 2], body :=
 (.seq
 (.region false [
 ⟨some 2, .assign (.const (.sl true 0 4 [] [])), none⟩])
 (.seq
 (.region false [
 ⟨some 3, .assign (.const (.sl true 0 4 [] [])), none⟩])
 (.seq
 (.seq
 (.region false [
 ⟨some 4, .assign (.const (.int .i64 0)), none⟩])
 (.block 0
 (.loop [0, 3, 4]
 (.seq
 (.seq
 (.region false [
 ⟨some 5, .move (.tmp 4), none⟩,
 ⟨some 6, .move (.tmp 0), none⟩,
 ⟨some 7, .len false (.tmp 6), none⟩,
 ⟨some 8, .bin 0 .lss (.tmp 5) (.tmp 7), none⟩])
 (.cond (.tmp 8)
 .skip
 (.exit 0)))
 (.seq
 (.block 1
 (.region true [
 ⟨some 11, .move (.tmp 3), none⟩,
 ⟨some 12, .move (.tmp 0), none⟩,
 ⟨some 13, .move (.tmp 4), none⟩,
 ⟨some 14, .idxAddr (.tmp 12) (.tmp 13) 4, none⟩,
 ⟨some 15, .faddr (.tmp 14) 0, none⟩,
 ⟨some 16, .load false 1 (.tmp 15), none⟩,
 ⟨some 17, .call true (.const (.fn 209 [])) [(.tmp 16)] [], none⟩,
 ⟨some 18, .move (.tmp 0), none⟩,
 ⟨some 19, .move (.tmp 4), none⟩,
 ⟨some 20, .idxAddr (.tmp 18) (.tmp 19) 4, none⟩,
 ⟨some 21, .faddr (.tmp 20) 1, none⟩,
 ⟨some 22, .load false 1 (.tmp 21), none⟩,
 ⟨some 23, .call true (.const (.fn 229 [])) [(.tmp 22)] [], none⟩,
 ⟨some 24, .move (.tmp 0), none⟩,
 ⟨some 25, .move (.tmp 4), none⟩,
 ⟨some 26, .idxAddr (.tmp 24) (.tmp 25) 4, none⟩,
 ⟨some 27, .faddr (.tmp 26) 2, none⟩,
 ⟨some 28, .load false 1 (.tmp 27), none⟩,
 ⟨some 29, .call true (.const (.fn 229 [])) [(.tmp 28)] [], none⟩,
 ⟨some 30, .move (.tmp 0), none⟩,
 ⟨some 31, .move (.tmp 4), none⟩,
 ⟨some 32, .idxAddr (.tmp 30) (.tmp 31) 4, none⟩,
 ⟨some 33, .faddr (.tmp 32) 3, none⟩,
 ⟨some 34, .load false 1 (.tmp 33), none⟩,
 ⟨some 35, .build [.sl true 0 5 [] [], .sl true 0 1 [] [], .sl true 0 1 [] [], .int .i64 0] [(0, 1, (.tmp 17)), (1, 1, (.tmp 23)), (2, 1, (.tmp 29)), (3, 1, (.tmp 34))], none⟩,
 ⟨some 36, .buildSlice 1 4 [.sl true 0 5 [] [], .sl true 0 1 [] [], .sl true 0 1 [] [], .int .i64 0] [(0, (.tmp 35))], none⟩,
 ⟨some 37, .append 4 80 (.tmp 11) (.tmp 36), none⟩,
 ⟨some 3, .assign (.tmp 37), none⟩]))
 (.region false [
 ⟨some 9, .move (.tmp 4), none⟩,
 ⟨some 10, .bin 0 .add (.tmp 9) (.const (.int .i64 1)), none⟩,
 ⟨some 4, .assign (.tmp 10), none⟩]))))))
 (.seq
 (.region false [
 ⟨some 38, .move (.tmp 3), none⟩,
 ⟨some 2, .assign (.tmp 38), none⟩])
 .ret)))) }
/-- purlin/purlinmem.KeptProgram -/
def tf278 : TFn := { ntmps := 70, results := [.tmp 4], body :=
 (.seq
 (.region false [
 ⟨some 4, .assign (.const (.bool false)), none⟩])
 (.seq
 (.seq
 (.region false [
 ⟨some 6, .move (.tmp 0), none⟩,
 ⟨some 7, .len false (.tmp 6), none⟩,
 ⟨some 8, .move (.tmp 1), none⟩,
 ⟨some 9, .len false (.tmp 8), none⟩,
 ⟨some 10, .bin 0 .neq (.tmp 7) (.tmp 9), none⟩])
 (.cond (.tmp 10)
 (.seq
 (.region false [
 ⟨some 4, .assign (.const (.bool false)), none⟩])
 .ret)
 .skip))
 (.seq
 (.seq
 (.region false [
 ⟨some 5, .assign (.const (.int .i64 0)), none⟩])
 (.block 0
 (.loop [0, 1, 5]
 (.seq
 (.seq
 (.region false [
 ⟨some 11, .move (.tmp 5), none⟩,
 ⟨some 12, .move (.tmp 1), none⟩,
 ⟨some 13, .len false (.tmp 12), none⟩,
 ⟨some 14, .bin 0 .lss (.tmp 11) (.tmp 13), none⟩])
 (.cond (.tmp 14)
 .skip
 (.exit 0)))
 (.seq
 (.block 1
 (.seq
 (.region true [
 ⟨some 17, .move (.tmp 0), none⟩,
 ⟨some 18, .move (.tmp 5), none⟩,
 ⟨some 19, .idxAddr (.tmp 17) (.tmp 18) 4, none⟩,
 ⟨some 20, .faddr (.tmp 19) 0, none⟩,
 ⟨some 21, .load false 1 (.tmp 20), none⟩,
 ⟨some 22, .move (.tmp 1), none⟩,
 ⟨some 23, .move (.tmp 5), none⟩,
 ⟨some 24, .idxAddr (.tmp 22) (.tmp 23) 4, none⟩,
 ⟨some 25, .faddr (.tmp 24) 0, none⟩,
 ⟨some 26, .load false 1 (.tmp 25), none⟩,
 ⟨some 27, .call true (.const (.fn 211 [])) [(.tmp 21), (.tmp 26)] [], none⟩,
 ⟨some 28, .un .not (.tmp 27), none⟩,
 ⟨some 29, .move (.tmp 28), none⟩,
 ⟨some 30, .move (.tmp 0), (some (29, false))⟩,
 ⟨some 31, .move (.tmp 5), (some (29, false))⟩,
 ⟨some 32, .idxAddr (.tmp 30) (.tmp 31) 4, (some (29, false))⟩,
 ⟨some 33, .faddr (.tmp 32) 1, (some (29, false))⟩,
 ⟨some 34, .load false 1 (.tmp 33), (some (29, false))⟩,
 ⟨some 35, .move (.tmp 1), (some (29, false))⟩,
 ⟨some 36, .move (.tmp 5), (some (29, false))⟩,
 ⟨some 37, .idxAddr (.tmp 35) (.tmp 36) 4, (some (29, false))⟩,
 ⟨some 38, .faddr (.tmp 37) 1, (some (29, false))⟩,
 ⟨some 39, .load false 1 (.tmp 38), (some (29, false))⟩,
 ⟨some 40, .call true (.const (.fn 233 [])) [(.tmp 34), (.tmp 39)] [], (some (29, false))⟩,
 ⟨some 41, .un .not (.tmp 40), (some (29, false))⟩,
 ⟨some 42, .pick (.tmp 29) (.const (.bool true)) (.tmp 41), none⟩,
 ⟨some 43, .move (.tmp 42), none⟩,
 ⟨some 44, .move (.tmp 0), (some (43, false))⟩,
 ⟨some 45, .move (.tmp 5), (some (43, false))⟩,
 ⟨some 46, .idxAddr (.tmp 44) (.tmp 45) 4, (some (43, false))⟩,
 ⟨some 47, .faddr (.tmp 46) 2, (some (43, false))⟩,
 ⟨some 48, .load false 1 (.tmp 47), (some (43, false))⟩,
 ⟨some 49, .move (.tmp 1), (some (43, false))⟩,
 ⟨some 50, .move (.tmp 5), (some (43, false))⟩,
 ⟨some 51, .idxAddr (.tmp 49) (.tmp 50) 4, (some (43, false))⟩,
 ⟨some 52, .faddr (.tmp 51) 2, (some (43, false))⟩,
 ⟨some 53, .load false 1 (.tmp 52), (some (43, false))⟩,
 ⟨some 54, .call true (.const (.fn 233 [])) [(.tmp 48), (.tmp 53)] [], (some (43, false))⟩,
 ⟨some 55, .un .not (.tmp 54), (some (43, false))⟩,
 ⟨some 56, .pick (.tmp 43) (.const (.bool true)) (.tmp 55), none⟩,
 ⟨some 57, .move (.tmp 56), none⟩,
 ⟨some 58, .move (.tmp 0), (some (57, false))⟩,
 ⟨some 59, .move (.tmp 5), (some (57, false))⟩,
 ⟨some 60, .idxAddr (.tmp 58) (.tmp 59) 4, (some (57, false))⟩,
 ⟨some 61, .faddr (.tmp 60) 3, (some (57, false))⟩,
 ⟨some 62, .load false 1 (.tmp 61), (some (57, false))⟩,
 ⟨some 63, .move (.tmp 1), (some (57, false))⟩,
 ⟨some 64, .move (.tmp 5), (some (57, false))⟩,
 ⟨some 65, .idxAddr (.tmp 63) (.tmp 64) 4, (some (57, false))⟩,
 ⟨some 66, .faddr (.tmp 65) 3, (some (57, false))⟩,
 ⟨some 67, .load false 1 (.tmp 66), (some (57, false))⟩,
 ⟨some 68, .bin 0 .neq (.tmp 62) (.tmp 67), (some (57, false))⟩,
 ⟨some 69, .pick (.tmp 57) (.const (.bool true)) (.tmp 68), none⟩])
 (.cond (.tmp 69)
 (.seq
 (.region false [
 ⟨some 4, .assign (.const (.bool false)), none⟩])
 .ret)
 .skip)))
 (.region false [
 ⟨some 15, .move (.tmp 5), none⟩,
 ⟨some 16, .bin 0 .add (.tmp 15) (.const (.int .i64 1)), none⟩,
 ⟨some 5, .assign (.tmp 16), none⟩]))))))
 (.seq
 (.region false [
 ⟨some 4, .assign (.const (.bool true)), none⟩])
 .ret)))) }
/-- purlin/check.IsSum -/
def tf280 : TFn := { ntmps := 9, results := [.tmp 2], body :=
 (.seq
 (.region false [
 ⟨some 2, .assign (.const (.bool false)), none⟩])
 (.seq
 (.region false [
 ⟨some 3, .move (.tmp 0), none⟩,
 ⟨some 4, .call true (.const (.fn 30 [])) [(.tmp 3)] [], none⟩,
 ⟨some 5, .move (.tmp 4), none⟩,
 ⟨some 6, .move (.tmp 0), (some (5, true))⟩,
 ⟨some 7, .call true (.const (.fn 301 [])) [(.tmp 6)] [], (some (5, true))⟩,
 ⟨some 8, .pick (.tmp 5) (.tmp 7) (.const (.bool false)), none⟩,
 ⟨some 2, .assign (.tmp 8), none⟩])
 .ret)) }
/-- purlin/purlinref04.IsSum -/
def tf281 : TFn := { ntmps := 9, results := [.tmp 2], body :=
 (.seq
 (.region false [
 ⟨some 2, .assign (.const (.bool false)), none⟩])
 (.seq
 (.region false [
 ⟨some 3, .move (.tmp 0), none⟩,
 ⟨some 4, .call true (.const (.fn 18 [])) [(.tmp 3)] [], none⟩,
 ⟨some 5, .move (.tmp 4), none⟩,
 ⟨some 6, .move (.tmp 0), (some (5, true))⟩,
 ⟨some 7, .call true (.const (.fn 302 [])) [(.tmp 6)] [], (some (5, true))⟩,
 ⟨some 8, .pick (.tmp 5) (.tmp 7) (.const (.bool false)), none⟩,
 ⟨some 2, .assign (.tmp 8), none⟩])
 .ret)) }
/-- purlin/purlinlaw04.CheckPrograms -/
def tf575 : TFn := { ntmps := 43, results := [.tmp 2], body :=
 (.seq
 (.region false [
 ⟨some 2, .assign (.const (.bool false)), none⟩])
 (.seq
 (.region false [
 ⟨some 8, .move (.tmp 0), none⟩,
 ⟨some 9, .call true (.const (.fn 272 [])) [(.tmp 8)] [], none⟩,
 ⟨some 3, .assign (.tmp 9), none⟩])
 (.seq
 (.region false [
 ⟨some 11, .move (.tmp 3), none⟩,
 ⟨some 12, .call true (.const (.fn 273 [])) [(.tmp 11)] [], none⟩,
 ⟨some 10, .move (.tmp 12), none⟩,
 ⟨some 13, .extract (.tmp 10) 0, none⟩,
 ⟨some 14, .extract (.tmp 10) 1, none⟩,
 ⟨some 4, .assign (.tmp 13), none⟩,
 ⟨some 5, .assign (.tmp 14), none⟩])
 (.seq
 (.region false [
 ⟨some 16, .move (.tmp 0), none⟩,
 ⟨some 17, .call true (.const (.fn 274 [])) [(.tmp 16)] [], none⟩,
 ⟨some 15, .move (.tmp 17), none⟩,
 ⟨some 18, .extract (.tmp 15) 0, none⟩,
 ⟨some 19, .extract (.tmp 15) 1, none⟩,
 ⟨some 6, .assign (.tmp 18), none⟩,
 ⟨some 7, .assign (.tmp 19), none⟩])
 (.seq
 (.region false [
 ⟨some 20, .call true (.const (.fn 275 [])) [] [], none⟩,
 ⟨some 21, .move (.tmp 20), none⟩,
 ⟨some 22, .move (.tmp 3), (some (21, true))⟩,
 ⟨some 23, .call true (.const (.fn 276 [])) [(.tmp 22)] [], (some (21, true))⟩,
 ⟨some 24, .move (.tmp 0), (some (21, true))⟩,
 ⟨some 25, .call true (.const (.fn 277 [])) [(.tmp 24)] [], (some (21, true))⟩,
 ⟨some 26, .bin 0 .eql (.tmp 23) (.tmp 25), (some (21, true))⟩,
 ⟨some 27, .pick (.tmp 21) (.tmp 26) (.const (.bool false)), none⟩,
 ⟨some 28, .move (.tmp 27), none⟩,
 ⟨some 29, .move (.tmp 4), (some (28, true))⟩,
 ⟨some 30, .move (.tmp 6), (some (28, true))⟩,
 ⟨some 31, .bin 0 .eql (.tmp 29) (.tmp 30), (some (28, true))⟩,
 ⟨some 32, .pick (.tmp 28) (.tmp 31) (.const (.bool false)), none⟩,
 ⟨some 33, .move (.tmp 32), none⟩,
 ⟨some 34, .move (.tmp 5), (some (33, true))⟩,
 ⟨some 35, .move (.tmp 7), (some (33, true))⟩,
 ⟨some 36, .bin 0 .eql (.tmp 34) (.tmp 35), (some (33, true))⟩,
 ⟨some 37, .pick (.tmp 33) (.tmp 36) (.const (.bool false)), none⟩,
 ⟨some 38, .move (.tmp 37), none⟩,
 ⟨some 39, .move (.tmp 3), (some (38, true))⟩,
 ⟨some 40, .move (.tmp 0), (some (38, true))⟩,
 ⟨some 41, .call true (.const (.fn 278 [])) [(.tmp 39), (.tmp 40)] [], (some (38, true))⟩,
 ⟨some 42, .pick (.tmp 38) (.tmp 41) (.const (.bool false)), none⟩,
 ⟨some 2, .assign (.tmp 42), none⟩])
 .ret))))) }
/-- purlin/purlinlaw04.CheckTerms -/
def tf576 : TFn := { ntmps := 33, results := [.tmp 2], body :=
 (.seq
 (.region false [
 ⟨some 2, .assign (.const (.bool false)), none⟩])
 (.seq
 (.region false [
 ⟨some 4, .move (.tmp 0), none⟩,
 ⟨some 5, .call true (.const (.fn 216 [])) [(.tmp 4)] [], none⟩,
 ⟨some 3, .assign (.tmp 5), none⟩])
 (.seq
 (.region false [
 ⟨some 6, .call true (.const (.fn 275 [])) [] [], none⟩,
 ⟨some 7, .move (.tmp 6), none⟩,
 ⟨some 8, .move (.tmp 3), (some (7, true))⟩,
 ⟨some 9, .call true (.const (.fn 280 [])) [(.tmp 8)] [], (some (7, true))⟩,
 ⟨some 10, .move (.tmp 0), (some (7, true))⟩,
 ⟨some 11, .call true (.const (.fn 281 [])) [(.tmp 10)] [], (some (7, true))⟩,
 ⟨some 12, .bin 1 .eql (.tmp 9) (.tmp 11), (some (7, true))⟩,
 ⟨some 13, .pick (.tmp 7) (.tmp 12) (.const (.bool false)), none⟩,
 ⟨some 14, .move (.tmp 13), none⟩,
 ⟨some 15, .move (.tmp 3), (some (14, true))⟩,
 ⟨some 16, .call true (.const (.fn 282 [])) [(.tmp 15)] [], (some (14, true))⟩,
 ⟨some 17, .move (.tmp 0), (some (14, true))⟩,
 ⟨some 18, .call true (.const (.fn 283 [])) [(.tmp 17)] [], (some (14, true))⟩,
 ⟨some 19, .bin 1 .eql (.tmp 16) (.tmp 18), (some (14, true))⟩,
 ⟨some 20, .pick (.tmp 14) (.tmp 19) (.const (.bool false)), none⟩,
 ⟨some 21, .move (.tmp 20), none⟩,
 ⟨some 22, .move (.tmp 3), (some (21, true))⟩,
 ⟨some 23, .call true (.const (.fn 284 [])) [(.tmp 22)] [], (some (21, true))⟩,
 ⟨some 24, .move (.tmp 0), (some (21, true))⟩,
 ⟨some 25, .call true (.const (.fn 285 [])) [(.tmp 24)] [], (some (21, true))⟩,
 ⟨some 26, .bin 1 .eql (.tmp 23) (.tmp 25), (some (21, true))⟩,
 ⟨some 27, .pick (.tmp 21) (.tmp 26) (.const (.bool false)), none⟩,
 ⟨some 28, .move (.tmp 27), none⟩,
 ⟨some 29, .move (.tmp 3), (some (28, true))⟩,
 ⟨some 30, .move (.tmp 0), (some (28, true))⟩,
 ⟨some 31, .call true (.const (.fn 220 [])) [(.tmp 29), (.tmp 30)] [], (some (28, true))⟩,
 ⟨some 32, .pick (.tmp 28) (.tmp 31) (.const (.bool false)), none⟩,
 ⟨some 2, .assign (.tmp 32), none⟩])
 .ret))) }
def fnTable4b : List (Nat × TFn) := [(272, tf272), (278, tf278), (280, tf280), (281, tf281), (575, tf575), (576, tf576)]
def nuTable4b : List (Nat × Nat) := [(3, 575), (4, 571), (5, 576), (6, 572), (7, 573), (8, 272), (9, 273), (10, 274), (11, 275), (12, 276), (13, 277), (14, 278), (15, 279), (16, 256), (17, 216), (18, 280), (19, 281), (20, 282), (21, 283), (22, 284), (23, 285), (24, 220), (25, 286), (26, 287), (27, 288), (28, 289), (29, 209), (30, 229), (31, 290), (32, 310), (33, 300), (34, 309), (35, 308), (36, 291), (37, 292), (38, 293), (39, 294), (40, 295), (41, 296), (42, 297), (43, 299), (44, 298), (45, 211), (46, 233), (47, 30), (48, 301), (49, 18), (50, 302), (51, 303), (52, 29), (53, 304), (54, 305), (55, 306), (56, 307), (57, 311), (58, 312), (59, 17), (60, 313), (61, 314), (62, 33), (63, 315), (64, 174), (65, 22), (66, 316), (67, 317), (68, 318), (69, 331), (70, 42), (71, 319), (72, 320), (73, 321), (74, 322), (75, 323), (76, 27), (77, 324), (78, 325), (79, 214), (80, 31), (81, 43), (82, 46), (83, 32), (84, 248), (85, 326), (86, 36), (87, 40), (88, 327), (89, 328), (90, 45), (91, 329), (92, 1), (93, 39), (94, 330), (95, 53), (96, 207), (97, 55), (98, 4), (99, 28), (100, 23), (101, 332), (102, 333), (103, 47), (104, 56), (105, 48), (106, 57), (107, 49), (108, 50), (109, 51), (110, 52), (111, 58), (112, 54), (113, 574), (114, 334)]
end Tree
