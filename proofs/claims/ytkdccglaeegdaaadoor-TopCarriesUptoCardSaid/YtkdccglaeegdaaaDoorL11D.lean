/- Layer 11: which messages are right: the program's. -/
import Derived.Test.YtkdccglaeegdaaaDoorL11D0
set_option autoImplicit false
set_option linter.unusedVariables false
set_option linter.unusedSimpArgs false
namespace Tree.W11
open Go
set_option maxHeartbeats 8000000
set_option maxRecDepth 100000
theorem rightM_ok (m : M) (l1 : Nat) (s1 : List (List LV)) (l2 : Nat) (s2 : List (List LV)) (hc : m.cs.length ≤ 4611686018427387904) (hf : ∀ c ∈ m.cs, c.fine) (hb : m.bits.length ≤ 4611686018427387904) (ob : Obs) (pb : Nat) (r : Bool) (hr : r = true ↔ RightM m) (hs1 : ∀ n, LV.noRefss n s1 = true) (hs2 : ∀ n, LV.noRefss n s2 = true) : Gives env11 490 [m.lv l1 s1 l2 s2] ob pb (.bool r, ob) := by
  obtain ⟨tg, v1, v2, g1, g2, cs, cn, fl, w, bits⟩ := m
  obtain ⟨qv, hqv⟩ := boolOf (nameOk v1 v2)
  obtain ⟨qg, hqg⟩ := boolOf (nameOk g1 g2)
  obtain ⟨qt, hqt⟩ := boolOf (TermOk cs)
  obtain ⟨qp, hqp⟩ := boolOf (PaidOk w bits)
  have kv := fun ob pb => rightName_ok v1 v2 ob pb qv hqv
  have kg := fun ob pb => rightName_ok g1 g2 ob pb qg hqg
  have kt := fun ob pb => rightTerm_ok cs l1 s1 hc hf ob pb qt hqt
  have kp := fun ob pb => paid_ok w bits l2 s2 hb ob pb qp hqp
  have hlc : (cs.map C.row).length = cs.length := by simp
  have hlb : (bits.map zr).length = bits.length := by simp
  have hn := fun n tg v1 v2 g1 g2 cn fl w => msg_noRef n tg v1 v2 g1 g2 l1 cs s1 cn fl w l2 bits s2 (hs1 n) (hs2 n)
  have hn1 := fun n tg v1 v2 g1 g2 cn fl w => msg_noRef n tg v1 v2 g1 g2 l1 cs s1 cn fl w 0 [] [] (hs1 n) rfl
  have hn2 := fun n tg v1 v2 g1 g2 cn fl w => msg_noRef n tg v1 v2 g1 g2 0 [] [] cn fl w 0 [] [] rfl rfl
  unfold RightM at hr
  rw [← hqv, ← hqg, ← hqt, ← hqp] at hr
  clear hqv hqg hqt hqp hf
  simp only at hr hc hb
  refine gives_code (f := tf490) rfl ?_
  by_cases h1 : tg = 1
  · subst h1
    conv => whnf
    refine ⟨_, _, bare_1 _ _ _ _ _ _ _ _ _ _ _ _ _ _ _, fun _ => hn1 _ _ _ _ _ _ _ _ _, ?_⟩
    conv => whnf
    repeat' ((first | refine sel_split (fun _ => ?_) (fun _ => ?_) | refine ⟨_, _, kv _ _, fun _ => rfl, ?_⟩ | refine ⟨_, _, kp _ _, fun _ => rfl, ?_⟩) <;> conv => whnf)
    all_goals
      refine ⟨rfl, bool_of hr ?_, rfl⟩
      simp only [decide_eq_true_eq, decide_eq_false_iff_not, bne_iff_ne, ne_eq, hlc, hlb] at *
      grind
  by_cases h2 : tg = 2
  · subst h2
    conv => whnf
    refine ⟨_, _, bare_2 _ _ _ _ _ _ _ _ _ _ _ _ _ _ _, fun _ => hn2 _ _ _ _ _ _ _ _ _, ?_⟩
    conv => whnf
    repeat' ((first | refine sel_split (fun _ => ?_) (fun _ => ?_) | refine ⟨_, _, kv _ _, fun _ => rfl, ?_⟩ | refine ⟨_, _, kt _ _, fun _ => rfl, ?_⟩ | refine ⟨_, _, kp _ _, fun _ => rfl, ?_⟩) <;> conv => whnf)
    all_goals
      refine ⟨rfl, bool_of hr ?_, rfl⟩
      simp only [decide_eq_true_eq, decide_eq_false_iff_not, bne_iff_ne, ne_eq, hlc, hlb] at *
      grind
  by_cases h3 : tg = 3
  · subst h3
    conv => whnf
    refine ⟨_, _, bare_3 _ _ _ _ _ _ _ _ _ _ _ _ _ _ _, fun _ => hn2 _ _ _ _ _ _ _ _ _, ?_⟩
    conv => whnf
    repeat' ((first | refine sel_split (fun _ => ?_) (fun _ => ?_) | refine ⟨_, _, kg _ _, fun _ => rfl, ?_⟩ | refine ⟨_, _, kt _ _, fun _ => rfl, ?_⟩ | refine ⟨_, _, kp _ _, fun _ => rfl, ?_⟩) <;> conv => whnf)
    all_goals
      refine ⟨rfl, bool_of hr ?_, rfl⟩
      simp only [decide_eq_true_eq, decide_eq_false_iff_not, bne_iff_ne, ne_eq, hlc, hlb] at *
      grind
  by_cases h4 : tg = 4
  · subst h4
    conv => whnf
    refine ⟨_, _, bare_4 _ _ _ _ _ _ _ _ _ _ _ _ _ _ _, fun _ => hn _ _ _ _ _ _ _ _ _, ?_⟩
    conv => whnf
    repeat' ((first | refine sel_split (fun _ => ?_) (fun _ => ?_) | refine ⟨_, _, kv _ _, fun _ => rfl, ?_⟩) <;> conv => whnf)
    all_goals
      refine ⟨rfl, bool_of hr ?_, rfl⟩
      simp only [decide_eq_true_eq, decide_eq_false_iff_not, bne_iff_ne, ne_eq, hlc, hlb] at *
      grind
  by_cases h5 : tg = 5
  · subst h5
    conv => whnf
    refine ⟨_, _, bare_5 _ _ _ _ _ _ _ _ _ _ _ _ _ _ _, fun _ => hn _ _ _ _ _ _ _ _ _, ?_⟩
    conv => whnf
    repeat' ((first | refine sel_split (fun _ => ?_) (fun _ => ?_) | refine ⟨_, _, kv _ _, fun _ => rfl, ?_⟩) <;> conv => whnf)
    all_goals
      refine ⟨rfl, bool_of hr ?_, rfl⟩
      simp only [decide_eq_true_eq, decide_eq_false_iff_not, bne_iff_ne, ne_eq, hlc, hlb] at *
      grind
  by_cases h6 : tg = 6
  · subst h6
    conv => whnf
    refine ⟨_, _, bare_6 _ _ _ _ _ _ _ _ _ _ _ _ _ _ _, fun _ => hn1 _ _ _ _ _ _ _ _ _, ?_⟩
    conv => whnf
    repeat' ((first | refine sel_split (fun _ => ?_) (fun _ => ?_) | refine ⟨_, _, kp _ _, fun _ => rfl, ?_⟩) <;> conv => whnf)
    all_goals
      refine ⟨rfl, bool_of hr ?_, rfl⟩
      simp only [decide_eq_true_eq, decide_eq_false_iff_not, bne_iff_ne, ne_eq, hlc, hlb] at *
      grind
  · have e : ∀ {i : Int}, tg ≠ i → (tg == i) = false := fun h => by simpa using h
    conv => whnf
    refine ⟨_, _, bare_n _ _ _ _ _ _ _ _ _ _ _ _ _ _ _ _ h1 h2 h3 h4 h5 h6, fun _ => hn _ _ _ _ _ _ _ _ _, ?_⟩
    conv => whnf
    repeat' ((first | refine sel_f (e h1) ?_ | refine sel_f (e h2) ?_ | refine sel_f (e h3) ?_ | refine sel_f (e h4) ?_ | refine sel_f (e h5) ?_ | refine sel_f (e h6) ?_ | refine sel_split (fun _ => ?_) (fun _ => ?_)) <;> conv => whnf)
    all_goals
      refine ⟨rfl, bool_of hr ?_, rfl⟩
      grind
end Tree.W11
