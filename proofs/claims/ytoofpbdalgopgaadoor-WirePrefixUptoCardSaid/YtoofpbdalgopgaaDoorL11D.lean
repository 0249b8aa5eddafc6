/- Layer 11: which messages are right. -/
import Derived.Test.YtoofpbdalgopgaaDoorL11C
set_option autoImplicit false
set_option linter.unusedVariables false
set_option linter.unusedSimpArgs false
namespace Tree.W11
open Go
set_option maxHeartbeats 8000000
set_option maxRecDepth 100000
abbrev msgL (tg v1 v2 g1 g2 : Int) (tl : LV) (cn fl w : Int) (bl : LV) : LV := .agg [.int .u8 tg, .int .i64 v1, .int .i64 v2, .int .i64 g1, .int .i64 g2, tl, .int .i64 cn, .int .i64 fl, .int .i64 w, bl]
structure M where
  tg : Int
  v1 : Int
  v2 : Int
  g1 : Int
  g2 : Int
  cs : List C
  cn : Int
  fl : Int
  w : Int
  bits : List Int
abbrev zsB (lab : Nat) (bits : List Int) (sp : List (List LV)) : LV := .sl false lab 1 (bits.map zr) sp
abbrev nilT : LV := .sl false 0 5 [] []
abbrev nilB : LV := .sl false 0 1 [] []
abbrev M.lv (m : M) (l1 : Nat) (s1 : List (List LV)) (l2 : Nat) (s2 : List (List LV)) : LV := msgL m.tg m.v1 m.v2 m.g1 m.g2 (sl5 false l1 m.cs s1) m.cn m.fl m.w (zsB l2 m.bits s2)
def RightM (m : M) : Prop :=
  (m.tg = 1 ∧ nameOk m.v1 m.v2 ∧ (m.g1 = 0 ∧ m.g2 = 0) ∧ m.cs.length = 0 ∧ m.cn = 0 ∧ m.fl = 0 ∧ PaidOk m.w m.bits) ∨
  (m.tg = 2 ∧ nameOk m.v1 m.v2 ∧ (m.g1 = 0 ∧ m.g2 = 0) ∧ TermOk m.cs ∧ m.cn = 0 ∧ m.fl = 0 ∧ PaidOk m.w m.bits) ∨
  (m.tg = 3 ∧ (m.v1 = 0 ∧ m.v2 = 0) ∧ nameOk m.g1 m.g2 ∧ TermOk m.cs ∧ m.cn = 0 ∧ m.fl = 0 ∧ PaidOk m.w m.bits) ∨
  (m.tg = 4 ∧ nameOk m.v1 m.v2 ∧ (m.g1 = 0 ∧ m.g2 = 0) ∧ m.cs.length = 0 ∧ (0 ≤ m.cn ∧ m.cn < 4) ∧ m.fl = 0 ∧ m.w = 0 ∧ m.bits.length = 0) ∨
  (m.tg = 5 ∧ nameOk m.v1 m.v2 ∧ (m.g1 = 0 ∧ m.g2 = 0) ∧ m.cs.length = 0 ∧ (1 ≤ m.cn ∧ m.cn ≤ 2147483647) ∧ m.fl = 0 ∧ m.w = 0 ∧ m.bits.length = 0) ∨
  (m.tg = 6 ∧ (m.v1 = 0 ∧ m.v2 = 0) ∧ (m.g1 = 0 ∧ m.g2 = 0) ∧ m.cs.length = 0 ∧ (0 ≤ m.cn ∧ m.cn ≤ 2147483647) ∧ (0 ≤ m.fl ∧ m.fl ≤ 3) ∧ PaidOk m.w m.bits)
section
variable (v1 v2 g1 g2 : Int) (tl : LV) (cn fl w : Int) (bl : LV) (ob : Obs) (pb : Nat)
theorem bare_1 (l1 l2 : Nat) (x1 s1 x2 s2 : List (List LV)) : Gives env11 508 [msgL 1 v1 v2 g1 g2 (.sl false l1 5 x1 s1) cn fl w (.sl false l2 1 x2 s2)] ob pb (msgL 1 0 0 g1 g2 (.sl false l1 5 x1 s1) cn fl 0 nilB, ob) := by
  refine gives_code (f := tf508) rfl ?_
  conv => whnf
  exact ⟨rfl, rfl, rfl⟩
theorem bare_2 (l1 l2 : Nat) (x1 s1 x2 s2 : List (List LV)) : Gives env11 508 [msgL 2 v1 v2 g1 g2 (.sl false l1 5 x1 s1) cn fl w (.sl false l2 1 x2 s2)] ob pb (msgL 2 0 0 g1 g2 nilT cn fl 0 nilB, ob) := by
  refine gives_code (f := tf508) rfl ?_
  conv => whnf
  exact ⟨rfl, rfl, rfl⟩
theorem bare_3 (l1 l2 : Nat) (x1 s1 x2 s2 : List (List LV)) : Gives env11 508 [msgL 3 v1 v2 g1 g2 (.sl false l1 5 x1 s1) cn fl w (.sl false l2 1 x2 s2)] ob pb (msgL 3 v1 v2 0 0 nilT cn fl 0 nilB, ob) := by
  refine gives_code (f := tf508) rfl ?_
  conv => whnf
  exact ⟨rfl, rfl, rfl⟩
theorem bare_4 (l1 l2 : Nat) (x1 s1 x2 s2 : List (List LV)) : Gives env11 508 [msgL 4 v1 v2 g1 g2 (.sl false l1 5 x1 s1) cn fl w (.sl false l2 1 x2 s2)] ob pb (msgL 4 0 0 g1 g2 (.sl false l1 5 x1 s1) 0 fl w (.sl false l2 1 x2 s2), ob) := by
  refine gives_code (f := tf508) rfl ?_
  conv => whnf
  exact ⟨rfl, rfl, rfl⟩
theorem bare_5 (l1 l2 : Nat) (x1 s1 x2 s2 : List (List LV)) : Gives env11 508 [msgL 5 v1 v2 g1 g2 (.sl false l1 5 x1 s1) cn fl w (.sl false l2 1 x2 s2)] ob pb (msgL 5 0 0 g1 g2 (.sl false l1 5 x1 s1) 0 fl w (.sl false l2 1 x2 s2), ob) := by
  refine gives_code (f := tf508) rfl ?_
  conv => whnf
  exact ⟨rfl, rfl, rfl⟩
theorem bare_6 (l1 l2 : Nat) (x1 s1 x2 s2 : List (List LV)) : Gives env11 508 [msgL 6 v1 v2 g1 g2 (.sl false l1 5 x1 s1) cn fl w (.sl false l2 1 x2 s2)] ob pb (msgL 6 v1 v2 g1 g2 (.sl false l1 5 x1 s1) 0 0 0 nilB, ob) := by
  refine gives_code (f := tf508) rfl ?_
  conv => whnf
  exact ⟨rfl, rfl, rfl⟩
theorem bare_n (tg : Int) (l1 l2 : Nat) (x1 s1 x2 s2 : List (List LV)) (h1 : tg ≠ 1) (h2 : tg ≠ 2) (h3 : tg ≠ 3) (h4 : tg ≠ 4) (h5 : tg ≠ 5) (h6 : tg ≠ 6) : Gives env11 508 [msgL tg v1 v2 g1 g2 (.sl false l1 5 x1 s1) cn fl w (.sl false l2 1 x2 s2)] ob pb (msgL tg v1 v2 g1 g2 (.sl false l1 5 x1 s1) cn fl w (.sl false l2 1 x2 s2), ob) := by
  refine gives_code (f := tf508) rfl ?_
  conv => whnf
  refine sel_f (by simpa using h2) ?_; conv => whnf
  refine sel_f (by simpa using h1) ?_; conv => whnf
  refine sel_f (by simpa using h3) ?_; conv => whnf
  refine sel_f (by simpa using h4) ?_; conv => whnf
  refine sel_f (by simpa using h5) ?_; conv => whnf
  refine sel_f (by simpa using h6) ?_; conv => whnf
  exact ⟨rfl, rfl, rfl⟩
end
theorem msg_noRef (n : Nat) (tg v1 v2 g1 g2 : Int) (l1 : Nat) (cs : List C) (s1 : List (List LV)) (cn fl w : Int) (l2 : Nat) (bits : List Int) (s2 : List (List LV)) (h1 : LV.noRefss n s1 = true) (h2 : LV.noRefss n s2 = true) : (msgL tg v1 v2 g1 g2 (sl5 false l1 cs s1) cn fl w (zsB l2 bits s2)).noRef n = true := by
  have hz : ∀ l : List Int, LV.noRefss n (l.map zr) = true := by
    intro l; induction l with
    | nil => rfl
    | cons a l ih => simp [LV.noRefss, zr, LV.noRefs, LV.noRef, ih]
  simp [LV.noRef, LV.noRefs, noRef_rows, h1, h2, hz]
theorem rightM_ok (m : M) (l1 : Nat) (s1 : List (List LV)) (l2 : Nat) (s2 : List (List LV)) (hc : m.cs.length ≤ 4611686018427387904) (hf : ∀ c ∈ m.cs, c.fine) (hb : m.bits.length ≤ 4611686018427387904) (ob : Obs) (pb : Nat) (r : Bool) (hr : r = true ↔ RightM m) (hs1 : ∀ n, LV.noRefss n s1 = true) (hs2 : ∀ n, LV.noRefss n s2 = true) : Gives env11 490 [m.lv l1 s1 l2 s2] ob pb (.bool r, ob) := by
  obtain ⟨tg, v1, v2, g1, g2, cs, cn, fl, w, bits⟩ := m
  obtain ⟨qv, hqv⟩ := boolOf (nameOk v1 v2)
  obtain ⟨qg, hqg⟩ := boolOf (nameOk g1 g2)
  obtain ⟨qt, hqt⟩ := boolOf (TermOk cs)
  obtain ⟨qp, hqp⟩ := boolOf (PaidOk w bits)
  have kv := fun ob pb => rightName_ok v1 v2 ob pb qv hqv
  have kg := fun ob pb => rightName_ok g1 g2 ob pb qg hqg
  have kt := fun ob pb => rightTerm_ok cs l1 s1 hc hf ob pb qt hqt
  have kp := fun ob pb => paid_ok w bits l2 s2 hb ob pb qp hqp
  have hlc : (cs.map C.row).length = cs.length := by simp
  have hlb : (bits.map zr).length = bits.length := by simp
  have hn := fun n tg v1 v2 g1 g2 cn fl w => msg_noRef n tg v1 v2 g1 g2 l1 cs s1 cn fl w l2 bits s2 (hs1 n) (hs2 n)
  have hn1 := fun n tg v1 v2 g1 g2 cn fl w => msg_noRef n tg v1 v2 g1 g2 l1 cs s1 cn fl w 0 [] [] (hs1 n) rfl
  have hn2 := fun n tg v1 v2 g1 g2 cn fl w => msg_noRef n tg v1 v2 g1 g2 0 [] [] cn fl w 0 [] [] rfl rfl
  unfold RightM at hr
  rw [← hqv, ← hqg, ← hqt, ← hqp] at hr
  clear hqv hqg hqt hqp hf
  simp only at hr hc hb
  refine gives_code (f := tf490) rfl ?_
  by_cases h1 : tg = 1
  · subst h1
    conv => whnf
    refine ⟨_, _, bare_1 _ _ _ _ _ _ _ _ _ _ _ _ _ _ _, fun _ => hn1 _ _ _ _ _ _ _ _ _, ?_⟩
    conv => whnf
    repeat' ((first | refine sel_split (fun _ => ?_) (fun _ => ?_) | refine ⟨_, _, kv _ _, fun _ => rfl, ?_⟩ | refine ⟨_, _, kp _ _, fun _ => rfl, ?_⟩) <;> conv => whnf)
    all_goals
      refine ⟨rfl, bool_of hr ?_, rfl⟩
      simp only [decide_eq_true_eq, decide_eq_false_iff_not, bne_iff_ne, ne_eq, hlc, hlb] at *
      grind
  by_cases h2 : tg = 2
  · subst h2
    conv => whnf
    refine ⟨_, _, bare_2 _ _ _ _ _ _ _ _ _ _ _ _ _ _ _, fun _ => hn2 _ _ _ _ _ _ _ _ _, ?_⟩
    conv => whnf
    repeat' ((first | refine sel_split (fun _ => ?_) (fun _ => ?_) | refine ⟨_, _, kv _ _, fun _ => rfl, ?_⟩ | refine ⟨_, _, kt _ _, fun _ => rfl, ?_⟩ | refine ⟨_, _, kp _ _, fun _ => rfl, ?_⟩) <;> conv => whnf)
    all_goals
      refine ⟨rfl, bool_of hr ?_, rfl⟩
      simp only [decide_eq_true_eq, decide_eq_false_iff_not, bne_iff_ne, ne_eq, hlc, hlb] at *
      grind
  by_cases h3 : tg = 3
  · subst h3
    conv => whnf
    refine ⟨_, _, bare_3 _ _ _ _ _ _ _ _ _ _ _ _ _ _ _, fun _ => hn2 _ _ _ _ _ _ _ _ _, ?_⟩
    conv => whnf
    repeat' ((first | refine sel_split (fun _ => ?_) (fun _ => ?_) | refine ⟨_, _, kg _ _, fun _ => rfl, ?_⟩ | refine ⟨_, _, kt _ _, fun _ => rfl, ?_⟩ | refine ⟨_, _, kp _ _, fun _ => rfl, ?_⟩) <;> conv => whnf)
    all_goals
      refine ⟨rfl, bool_of hr ?_, rfl⟩
      simp only [decide_eq_true_eq, decide_eq_false_iff_not, bne_iff_ne, ne_eq, hlc, hlb] at *
      grind
  by_cases h4 : tg = 4
  · subst h4
    conv => whnf
    refine ⟨_, _, bare_4 _ _ _ _ _ _ _ _ _ _ _ _ _ _ _, fun _ => hn _ _ _ _ _ _ _ _ _, ?_⟩
    conv => whnf
    repeat' ((first | refine sel_split (fun _ => ?_) (fun _ => ?_) | refine ⟨_, _, kv _ _, fun _ => rfl, ?_⟩) <;> conv => whnf)
    all_goals
      refine ⟨rfl, bool_of hr ?_, rfl⟩
      simp only [decide_eq_true_eq, decide_eq_false_iff_not, bne_iff_ne, ne_eq, hlc, hlb] at *
      grind
  by_cases h5 : tg = 5
  · subst h5
    conv => whnf
    refine ⟨_, _, bare_5 _ _ _ _ _ _ _ _ _ _ _ _ _ _ _, fun _ => hn _ _ _ _ _ _ _ _ _, ?_⟩
    conv => whnf
    repeat' ((first | refine sel_split (fun _ => ?_) (fun _ => ?_) | refine ⟨_, _, kv _ _, fun _ => rfl, ?_⟩) <;> conv => whnf)
    all_goals
      refine ⟨rfl, bool_of hr ?_, rfl⟩
      simp only [decide_eq_true_eq, decide_eq_false_iff_not, bne_iff_ne, ne_eq, hlc, hlb] at *
      grind
  by_cases h6 : tg = 6
  · subst h6
    conv => whnf
    refine ⟨_, _, bare_6 _ _ _ _ _ _ _ _ _ _ _ _ _ _ _, fun _ => hn1 _ _ _ _ _ _ _ _ _, ?_⟩
    conv => whnf
    repeat' ((first | refine sel_split (fun _ => ?_) (fun _ => ?_) | refine ⟨_, _, kp _ _, fun _ => rfl, ?_⟩) <;> conv => whnf)
    all_goals
      refine ⟨rfl, bool_of hr ?_, rfl⟩
      simp only [decide_eq_true_eq, decide_eq_false_iff_not, bne_iff_ne, ne_eq, hlc, hlb] at *
      grind
  · have e : ∀ {i : Int}, tg ≠ i → (tg == i) = false := fun h => by simpa using h
    conv => whnf
    refine ⟨_, _, bare_n _ _ _ _ _ _ _ _ _ _ _ _ _ _ _ _ h1 h2 h3 h4 h5 h6, fun _ => hn _ _ _ _ _ _ _ _ _, ?_⟩
    conv => whnf
    repeat' ((first | refine sel_f (e h1) ?_ | refine sel_f (e h2) ?_ | refine sel_f (e h3) ?_ | refine sel_f (e h4) ?_ | refine sel_f (e h5) ?_ | refine sel_f (e h6) ?_ | refine sel_split (fun _ => ?_) (fun _ => ?_)) <;> conv => whnf)
    all_goals
      refine ⟨rfl, bool_of hr ?_, rfl⟩
      grind
end Tree.W11
