/- Layer 11: which messages are right. -/
import Derived.Test.YtkdccglaeegdaaaDoorL11C
set_option autoImplicit false
set_option linter.unusedVariables false
set_option linter.unusedSimpArgs false
namespace Tree.W11
open Go
set_option maxHeartbeats 8000000
set_option maxRecDepth 100000
abbrev msgL (tg v1 v2 g1 g2 : Int) (tl : LV) (cn fl w : Int) (bl : LV) : LV := .agg [.int .u8 tg, .int .i64 v1, .int .i64 v2, .int .i64 g1, .int .i64 g2, tl, .int .i64 cn, .int .i64 fl, .int .i64 w, bl]
structure M where
  tg : Int
  v1 : Int
  v2 : Int
  g1 : Int
  g2 : Int
  cs : List C
  cn : Int
  fl : Int
  w : Int
  bits : List Int
abbrev zsB (lab : Nat) (bits : List Int) (sp : List (List LV)) : LV := .sl false lab 1 (bits.map zr) sp
abbrev nilT : LV := .sl false 0 5 [] []
abbrev nilB : LV := .sl false 0 1 [] []
abbrev M.lv (m : M) (l1 : Nat) (s1 : List (List LV)) (l2 : Nat) (s2 : List (List LV)) : LV := msgL m.tg m.v1 m.v2 m.g1 m.g2 (sl5 false l1 m.cs s1) m.cn m.fl m.w (zsB l2 m.bits s2)
def RightM (m : M) : Prop :=
  (m.tg = 1 ∧ nameOk m.v1 m.v2 ∧ (m.g1 = 0 ∧ m.g2 = 0) ∧ m.cs.length = 0 ∧ m.cn = 0 ∧ m.fl = 0 ∧ PaidOk m.w m.bits) ∨
  (m.tg = 2 ∧ nameOk m.v1 m.v2 ∧ (m.g1 = 0 ∧ m.g2 = 0) ∧ TermOk m.cs ∧ m.cn = 0 ∧ m.fl = 0 ∧ PaidOk m.w m.bits) ∨
  (m.tg = 3 ∧ (m.v1 = 0 ∧ m.v2 = 0) ∧ nameOk m.g1 m.g2 ∧ TermOk m.cs ∧ m.cn = 0 ∧ m.fl = 0 ∧ PaidOk m.w m.bits) ∨
  (m.tg = 4 ∧ nameOk m.v1 m.v2 ∧ (m.g1 = 0 ∧ m.g2 = 0) ∧ m.cs.length = 0 ∧ (0 ≤ m.cn ∧ m.cn < 4) ∧ m.fl = 0 ∧ m.w = 0 ∧ m.bits.length = 0) ∨
  (m.tg = 5 ∧ nameOk m.v1 m.v2 ∧ (m.g1 = 0 ∧ m.g2 = 0) ∧ m.cs.length = 0 ∧ (1 ≤ m.cn ∧ m.cn ≤ 2147483647) ∧ m.fl = 0 ∧ m.w = 0 ∧ m.bits.length = 0) ∨
  (m.tg = 6 ∧ (m.v1 = 0 ∧ m.v2 = 0) ∧ (m.g1 = 0 ∧ m.g2 = 0) ∧ m.cs.length = 0 ∧ (0 ≤ m.cn ∧ m.cn ≤ 2147483647) ∧ (0 ≤ m.fl ∧ m.fl ≤ 3) ∧ PaidOk m.w m.bits)
section
variable (v1 v2 g1 g2 : Int) (tl : LV) (cn fl w : Int) (bl : LV) (ob : Obs) (pb : Nat)
theorem bare_1 (l1 l2 : Nat) (x1 s1 x2 s2 : List (List LV)) : Gives env11 508 [msgL 1 v1 v2 g1 g2 (.sl false l1 5 x1 s1) cn fl w (.sl false l2 1 x2 s2)] ob pb (msgL 1 0 0 g1 g2 (.sl false l1 5 x1 s1) cn fl 0 nilB, ob) := by
  refine gives_code (f := tf508) rfl ?_
  conv => whnf
  exact ⟨rfl, rfl, rfl⟩
theorem bare_2 (l1 l2 : Nat) (x1 s1 x2 s2 : List (List LV)) : Gives env11 508 [msgL 2 v1 v2 g1 g2 (.sl false l1 5 x1 s1) cn fl w (.sl false l2 1 x2 s2)] ob pb (msgL 2 0 0 g1 g2 nilT cn fl 0 nilB, ob) := by
  refine gives_code (f := tf508) rfl ?_
  conv => whnf
  exact ⟨rfl, rfl, rfl⟩
theorem bare_3 (l1 l2 : Nat) (x1 s1 x2 s2 : List (List LV)) : Gives env11 508 [msgL 3 v1 v2 g1 g2 (.sl false l1 5 x1 s1) cn fl w (.sl false l2 1 x2 s2)] ob pb (msgL 3 v1 v2 0 0 nilT cn fl 0 nilB, ob) := by
  refine gives_code (f := tf508) rfl ?_
  conv => whnf
  exact ⟨rfl, rfl, rfl⟩
theorem bare_4 (l1 l2 : Nat) (x1 s1 x2 s2 : List (List LV)) : Gives env11 508 [msgL 4 v1 v2 g1 g2 (.sl false l1 5 x1 s1) cn fl w (.sl false l2 1 x2 s2)] ob pb (msgL 4 0 0 g1 g2 (.sl false l1 5 x1 s1) 0 fl w (.sl false l2 1 x2 s2), ob) := by
  refine gives_code (f := tf508) rfl ?_
  conv => whnf
  exact ⟨rfl, rfl, rfl⟩
theorem bare_5 (l1 l2 : Nat) (x1 s1 x2 s2 : List (List LV)) : Gives env11 508 [msgL 5 v1 v2 g1 g2 (.sl false l1 5 x1 s1) cn fl w (.sl false l2 1 x2 s2)] ob pb (msgL 5 0 0 g1 g2 (.sl false l1 5 x1 s1) 0 fl w (.sl false l2 1 x2 s2), ob) := by
  refine gives_code (f := tf508) rfl ?_
  conv => whnf
  exact ⟨rfl, rfl, rfl⟩
theorem bare_6 (l1 l2 : Nat) (x1 s1 x2 s2 : List (List LV)) : Gives env11 508 [msgL 6 v1 v2 g1 g2 (.sl false l1 5 x1 s1) cn fl w (.sl false l2 1 x2 s2)] ob pb (msgL 6 v1 v2 g1 g2 (.sl false l1 5 x1 s1) 0 0 0 nilB, ob) := by
  refine gives_code (f := tf508) rfl ?_
  conv => whnf
  exact ⟨rfl, rfl, rfl⟩
theorem bare_n (tg : Int) (l1 l2 : Nat) (x1 s1 x2 s2 : List (List LV)) (h1 : tg ≠ 1) (h2 : tg ≠ 2) (h3 : tg ≠ 3) (h4 : tg ≠ 4) (h5 : tg ≠ 5) (h6 : tg ≠ 6) : Gives env11 508 [msgL tg v1 v2 g1 g2 (.sl false l1 5 x1 s1) cn fl w (.sl false l2 1 x2 s2)] ob pb (msgL tg v1 v2 g1 g2 (.sl false l1 5 x1 s1) cn fl w (.sl false l2 1 x2 s2), ob) := by
  refine gives_code (f := tf508) rfl ?_
  conv => whnf
  refine sel_f (by simpa using h2) ?_; conv => whnf
  refine sel_f (by simpa using h1) ?_; conv => whnf
  refine sel_f (by simpa using h3) ?_; conv => whnf
  refine sel_f (by simpa using h4) ?_; conv => whnf
  refine sel_f (by simpa using h5) ?_; conv => whnf
  refine sel_f (by simpa using h6) ?_; conv => whnf
  exact ⟨rfl, rfl, rfl⟩
end
theorem msg_noRef (n : Nat) (tg v1 v2 g1 g2 : Int) (l1 : Nat) (cs : List C) (s1 : List (List LV)) (cn fl w : Int) (l2 : Nat) (bits : List Int) (s2 : List (List LV)) (h1 : LV.noRefss n s1 = true) (h2 : LV.noRefss n s2 = true) : (msgL tg v1 v2 g1 g2 (sl5 false l1 cs s1) cn fl w (zsB l2 bits s2)).noRef n = true := by
  have hz : ∀ l : List Int, LV.noRefss n (l.map zr) = true := by
    intro l; induction l with
    | nil => rfl
    | cons a l ih => simp [LV.noRefss, zr, LV.noRefs, LV.noRef, ih]
  simp [LV.noRef, LV.noRefs, noRef_rows, h1, h2, hz]
end Tree.W11
