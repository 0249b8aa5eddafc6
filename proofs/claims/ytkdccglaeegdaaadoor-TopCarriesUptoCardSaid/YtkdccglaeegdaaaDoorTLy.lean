/- Layer 11: a reader takes messages. -/
import Derived.Test.YtkdccglaeegdaaaDoorTLx
import Derived.Test.YtkdccglaeegdaaaDoorL11H
set_option autoImplicit false
set_option linter.unusedVariables false
set_option linter.unusedSimpArgs false
set_option linter.unusedSectionVars false
namespace Tree.W11
open Go
set_option maxHeartbeats 8000000
set_option maxRecDepth 100000
structure Step {α : Type} (enc : α → List Int) (ok : α → Prop) (b : List Int) (ai : Nat) (badi : Bool) (v : α) (aj : Nat) (badj : Bool) : Prop where
  A : badj = false → badi = false ∧ ok v ∧ aj ≤ b.length ∧ enc v ++ b.drop aj = b.drop ai
  B : badj = true → badi = true ∨ ∀ v' a', ¬ (ok v' ∧ a' ≤ b.length ∧ enc v' ++ b.drop a' = b.drop ai)
theorem Step.wit {α : Type} {enc : α → List Int} {ok : α → Prop} {b : List Int} {ai aj : Nat} {badi badj : Bool} {v : α} (st : Step enc ok b ai badi v aj badj) (inj : ∀ v v' r s, ok v → ok v' → enc v ++ r = enc v' ++ s → v = v' ∧ r = s) (hp : ai ≤ b.length) (hb : badi = false) {v' : α} {X : List Int} (hv : ok v') (hX : enc v' ++ X = b.drop ai) : badj = false ∧ v' = v ∧ X = b.drop aj ∧ aj ≤ b.length := by
  cases hj : badj with
  | true =>
    rcases st.B hj with h | h
    · rw [hb] at h; cases h
    · obtain ⟨y1, y2⟩ := drop_app hp hX
      exact absurd ⟨hv, y2, by rw [← y1]; exact hX⟩ (h v' _)
  | false =>
    obtain ⟨h1, h2, h3, h4⟩ := st.A hj
    obtain ⟨h5, h6⟩ := inj _ _ _ _ hv h2 (hX.trans h4.symm)
    exact ⟨rfl, h5, h6, h3⟩
theorem upTo_len : ∀ (l : Int) (bits : List Int), l ≤ 1048576 → upTo l bits → (bits.length : Int) ≤ 1048576 - l
  | l, [], h, _ => by simp; omega
  | l, x :: r, h, g => by
    have := upTo_len x r g.2.1 g.2.2
    have := g.1
    rw [List.length_cons]; omega
abbrev nameE (p : Int × Int) : List Int := nameB p.1 p.2
abbrev nameK (p : Int × Int) : Prop := nameOk p.1 p.2
abbrev amtE (p : Int × List Int) : List Int := amtB p.1 p.2
abbrev amtK (p : Int × List Int) : Prop := AmtOk p.1 p.2
abbrev numK (lo hi : Int) (n : Nat) : Prop := lo ≤ n ∧ (n : Int) ≤ hi
theorem name_i (v v' : Int × Int) (r s : List Int) (h : nameK v) (h' : nameK v') (e : nameE v ++ r = nameE v' ++ s) : v = v' ∧ r = s := by
  obtain ⟨h1, h2⟩ := nameB_inj h h' e
  exact ⟨Prod.ext h1.1 h1.2, h2⟩
theorem amt_i (v v' : Int × List Int) (r s : List Int) (h : amtK v) (h' : amtK v') (e : amtE v ++ r = amtE v' ++ s) : v = v' ∧ r = s := by
  obtain ⟨h1, h2⟩ := amtB_inj h h' e
  exact ⟨Prod.ext h1.1 h1.2, h2⟩
theorem num_i (lo hi : Int) (v v' : Nat) (r s : List Int) (h : numK lo hi v) (h' : numK lo hi v') (e : numB v ++ r = numB v' ++ s) : v = v' ∧ r = s := numB_inj _ _ _ _ e
theorem term_i (v v' : List C) (r s : List Int) (h : TermOk v) (h' : TermOk v') (e : termB v ++ r = termB v' ++ s) : v = v' ∧ r = s := termB_inj h h' e
section
variable {b : List Int} {a id : Nat} {f : Int} {ob : Obs} {pb : Nat} (hid : id < ob.length) (hpb : pb ≤ id) (hb : ∀ c ∈ b, 0 ≤ c ∧ c < 256) (hlen : b.length ≤ 1048576)
include hid hpb hb hlen
theorem nameP (bad : Bool) (ha : bad = false → a ≤ b.length) : ∃ (x y : Int) (a' : Nat) (bad' : Bool) (f' : Int), Gives env11 516 [.optr id 0] (S ob id b a bad f) pb (nm2 x y, S ob id b a' bad' f') ∧ Step nameE nameK b a bad (x, y) a' bad' := by
  obtain ⟨x, y, a', bad', f', g, h, k⟩ := nameT (a := a) (f := f) hid hpb hb hlen bad ha
  exact ⟨x, y, a', bad', f', g, ⟨h, fun e => (k e).imp (fun x => x) fun h2 v' a' => h2 v'.1 v'.2 a'⟩⟩
theorem numP (lo hi : Int) (hhi : hi ≤ 1099511627776) (bad : Bool) (ha : bad = false → a ≤ b.length) : ∃ (n a' : Nat) (bad' : Bool) (f' : Int), Gives env11 518 [.optr id 0, .int .i64 lo, .int .i64 hi] (S ob id b a bad f) pb (.int .i64 n, S ob id b a' bad' f') ∧ Step numB (numK lo hi) b a bad n a' bad' := by
  obtain ⟨n, a', bad', f', g, h, k⟩ := numberT (a := a) (f := f) hid hpb hb hlen lo hi hhi bad ha
  exact ⟨n, a', bad', f', g, ⟨fun e => ⟨(h e).1, ⟨(h e).2.1, (h e).2.2.1⟩, (h e).2.2.2⟩, fun e => (k e).2.imp (fun x => x) fun h2 v' a' hh => h2 v' a' ⟨hh.1.1, hh.1.2, hh.2⟩⟩⟩
theorem amtP (bad : Bool) (ha : bad = false → a ≤ b.length) : ∃ (w : Int) (bits : List Int) (a' : Nat) (bad' : Bool) (f' : Int), Gives env11 519 [.optr id 0] (S ob id b a bad f) pb (.agg [.int .i64 w, zsB 0 bits []], S ob id b a' bad' f') ∧ bits.length ≤ 1048576 ∧ Step amtE amtK b a bad (w, bits) a' bad' := by
  obtain ⟨x, y, a', bad', f', g, hbl, h, k⟩ := amountT (a := a) (f := f) hid hpb hb hlen bad ha
  exact ⟨x, y, a', bad', f', g, hbl, ⟨fun e => ⟨(h e).1, (h e).2.1, (h e).2.2.2⟩, fun e => (k e).imp (fun x => x) fun h2 v' a' hh => h2 v'.1 v'.2 a' ⟨hh.1, by have := upTo_len 0 _ (by decide) hh.1.2; omega, hh.2⟩⟩⟩
theorem termP (bad : Bool) (ha : bad = false → a ≤ b.length) : ∃ (cs : List C) (a' : Nat) (bad' : Bool) (f' : Int), Gives env11 513 [.optr id 0] (S ob id b a bad f) pb (sl5 true 0 cs [], S ob id b a' bad' f') ∧ Step termB TermOk b a bad cs a' bad' := by
  obtain ⟨x, a', bad', f', g, h, k⟩ := termT (a := a) (f := f) hid hpb hb hlen bad ha
  exact ⟨x, a', bad', f', g, ⟨h, k⟩⟩
end
def MsgW (b : List Int) (a : Nat) (m : M) (a' : Nat) : Prop := RightM m ∧ a' ≤ b.length ∧ msgB m ++ b.drop a' = b.drop a
section
variable {m : M} {k : Int} {r X Y : List Int} (h : RightM m) (hX : msgB m ++ r = k :: X)
include h hX
theorem wit_k : m.tg = k ∧ hdB m ++ (midB m ++ (crB m ++ r)) = X := by
  unfold msgB at hX
  rw [List.cons_append, List.append_assoc, List.append_assoc] at hX
  exact List.cons.inj hX
theorem wit_tg : k = 1 ∨ k = 2 ∨ k = 3 ∨ k = 4 ∨ k = 5 ∨ k = 6 := by
  rw [← (wit_k h hX).1]
  rcases h with h | h | h | h | h | h
  · exact .inl h.1
  · exact .inr (.inl h.1)
  · exact .inr (.inr (.inl h.1))
  · exact .inr (.inr (.inr (.inl h.1)))
  · exact .inr (.inr (.inr (.inr (.inl h.1))))
  · exact .inr (.inr (.inr (.inr (.inr h.1))))
end
section
variable {m : M} {r X : List Int} (h : RightM m)
include h
theorem wit1 (hX : msgB m ++ r = 1 :: X) : nameK (m.v1, m.v2) ∧ PaidOk m.w m.bits ∧ nameE (m.v1, m.v2) ++ (amtE (m.w, m.bits) ++ r) = X := by
  obtain ⟨e, h1⟩ := wit_k h hX
  obtain ⟨t, v1, v2, g1, g2, cs, cn, fl, w, bits⟩ := m
  simp only at e; subst e
  simp only [RightM, Int.reduceEq, false_and, false_or, or_false, true_and] at h
  simp only [hdB, midB, crB, Int.reduceEq, if_true, if_false, or_false, false_or, or_true, true_or, List.append_assoc, List.nil_append, List.append_nil] at h1
  exact ⟨h.1, h.2.2.2.2.2, h1⟩
theorem wit2 (hX : msgB m ++ r = 2 :: X) : nameK (m.v1, m.v2) ∧ TermOk m.cs ∧ PaidOk m.w m.bits ∧ nameE (m.v1, m.v2) ++ (termB m.cs ++ (amtE (m.w, m.bits) ++ r)) = X := by
  obtain ⟨e, h1⟩ := wit_k h hX
  obtain ⟨t, v1, v2, g1, g2, cs, cn, fl, w, bits⟩ := m
  simp only at e; subst e
  simp only [RightM, Int.reduceEq, false_and, false_or, or_false, true_and] at h
  simp only [hdB, midB, crB, Int.reduceEq, if_true, if_false, or_false, false_or, or_true, true_or, List.append_assoc, List.nil_append, List.append_nil] at h1
  exact ⟨h.1, h.2.2.1, h.2.2.2.2.2, h1⟩
theorem wit3 (hX : msgB m ++ r = 3 :: X) : nameK (m.g1, m.g2) ∧ TermOk m.cs ∧ PaidOk m.w m.bits ∧ nameE (m.g1, m.g2) ++ (termB m.cs ++ (amtE (m.w, m.bits) ++ r)) = X := by
  obtain ⟨e, h1⟩ := wit_k h hX
  obtain ⟨t, v1, v2, g1, g2, cs, cn, fl, w, bits⟩ := m
  simp only at e; subst e
  simp only [RightM, Int.reduceEq, false_and, false_or, or_false, true_and] at h
  simp only [hdB, midB, crB, Int.reduceEq, if_true, if_false, or_false, false_or, or_true, true_or, List.append_assoc, List.nil_append, List.append_nil] at h1
  exact ⟨h.2.1, h.2.2.1, h.2.2.2.2.2, h1⟩
theorem wit4 (hX : msgB m ++ r = 4 :: X) : nameK (m.v1, m.v2) ∧ numK 0 3 m.cn.toNat ∧ nameE (m.v1, m.v2) ++ (numB m.cn.toNat ++ r) = X := by
  obtain ⟨e, h1⟩ := wit_k h hX
  obtain ⟨t, v1, v2, g1, g2, cs, cn, fl, w, bits⟩ := m
  simp only at e; subst e
  simp only [RightM, Int.reduceEq, false_and, false_or, or_false, true_and] at h
  simp only [hdB, midB, crB, Int.reduceEq, if_true, if_false, or_false, false_or, or_true, true_or, List.append_assoc, List.nil_append, List.append_nil] at h1
  exact ⟨h.1, ⟨by omega, by have := h.2.2.2.1; simp only; omega⟩, h1⟩
theorem wit5 (hX : msgB m ++ r = 5 :: X) : nameK (m.v1, m.v2) ∧ numK 1 2147483647 m.cn.toNat ∧ nameE (m.v1, m.v2) ++ (numB m.cn.toNat ++ r) = X := by
  obtain ⟨e, h1⟩ := wit_k h hX
  obtain ⟨t, v1, v2, g1, g2, cs, cn, fl, w, bits⟩ := m
  simp only at e; subst e
  simp only [RightM, Int.reduceEq, false_and, false_or, or_false, true_and] at h
  simp only [hdB, midB, crB, Int.reduceEq, if_true, if_false, or_false, false_or, or_true, true_or, List.append_assoc, List.nil_append, List.append_nil] at h1
  exact ⟨h.1, ⟨by have := h.2.2.2.1; simp only; omega, by have := h.2.2.2.1; simp only; omega⟩, h1⟩
theorem wit6 (hX : msgB m ++ r = 6 :: X) : numK 0 2147483647 m.cn.toNat ∧ numK 0 3 m.fl.toNat ∧ PaidOk m.w m.bits ∧ numB m.cn.toNat ++ (numB m.fl.toNat ++ (amtE (m.w, m.bits) ++ r)) = X := by
  obtain ⟨e, h1⟩ := wit_k h hX
  obtain ⟨t, v1, v2, g1, g2, cs, cn, fl, w, bits⟩ := m
  simp only at e; subst e
  simp only [RightM, Int.reduceEq, false_and, false_or, or_false, true_and] at h
  simp only [hdB, midB, crB, Int.reduceEq, if_true, if_false, or_false, false_or, or_true, true_or, List.append_assoc, List.nil_append, List.append_nil] at h1
  exact ⟨⟨by omega, by have := h.2.2.2.1; simp only; omega⟩, ⟨by omega, by have := h.2.2.2.2.1; simp only; omega⟩, h.2.2.2.2.2, h1⟩
end
end Tree.W11

set_option autoImplicit false
set_option linter.unusedVariables false
set_option linter.unusedSimpArgs false
set_option linter.unusedSectionVars false
namespace Tree.W11
open Go
set_option maxHeartbeats 8000000
set_option maxRecDepth 100000
section
variable {b : List Int} {a id : Nat} {f : Int} {ob : Obs} {pb : Nat}
theorem msg_fin {m : M} {r bad3 : Bool} {ax a3 : Nat} {f3 : Int} (hg : Gives env11 500 [.optr id 0] (S ob id b a false f) pb (M.lv m 0 [] 0 [], endS ob id b ax a3 bad3 r f3)) (h1 : bad3 = false → r = true → MsgW b a m a3) (h2 : ∀ m' a', MsgW b a m' a' → bad3 = false ∧ r = true) : ∃ (m : M) (a' : Nat) (bad' : Bool) (f' : Int), Gives env11 500 [.optr id 0] (S ob id b a false f) pb (M.lv m 0 [] 0 [], S ob id b a' bad' f') ∧ (bad' = false → MsgW b a m a') ∧ (bad' = true → ∀ m' a', ¬ MsgW b a m' a') := by
  cases bad3 with
  | true => exact ⟨m, a3, true, f3, hg, fun h => (nomatch h), fun _ m' a' hW => by have := (h2 m' a' hW).1; cases this⟩
  | false =>
    cases r with
    | true => exact ⟨m, a3, false, f3, hg, fun _ => h1 rfl rfl, fun h => (nomatch h)⟩
    | false => exact ⟨m, a3, true, ax, hg, fun h => (nomatch h), fun _ m' a' hW => by have := (h2 m' a' hW).2; cases this⟩
variable (hid : id < ob.length) (hpb : pb ≤ id) (hb : ∀ c ∈ b, 0 ≤ c ∧ c < 256) (hlen : b.length ≤ 1048576)
include hid hpb hb hlen
theorem messageT (ha : a ≤ b.length) : ∃ (m : M) (a' : Nat) (bad' : Bool) (f' : Int), Gives env11 500 [.optr id 0] (S ob id b a false f) pb (M.lv m 0 [] 0 [], S ob id b a' bad' f') ∧ (bad' = false → MsgW b a m a') ∧ (bad' = true → ∀ m' a', ¬ MsgW b a m' a') := by
  obtain ⟨k, a1, bad1, f1, g1, hkb, h1, k1⟩ := oneT (a := a) (f := f) hid hpb hb hlen false (fun _ => ha)
  by_cases hk : k = 1 ∨ k = 2 ∨ k = 3 ∨ k = 4 ∨ k = 5 ∨ k = 6
  · have hb1 : bad1 = false := by
      cases bad1 with
      | false => rfl
      | true => have := (k1 rfl).1; omega
    subst hb1
    obtain ⟨_, rfl, j3, j4⟩ := h1 rfl
    have hW1 : ∀ m' a', MsgW b a m' a' → msgB m' ++ b.drop a' = k :: b.drop (a + 1) := fun m' a' hW => hW.2.2.trans j4
    rcases hk with rfl | rfl | rfl | rfl | rfl | rfl
    · obtain ⟨x, y, a2, bad2, f2, g2, st2⟩ := nameP (a := (a + 1)) (f := f1) hid hpb hb hlen  false (fun _ => j3)
      obtain ⟨w, bits, a3, bad3, f3, g3, hbl, st3⟩ := amtP (a := a2) (f := f2) hid hpb hb hlen  bad2 (fun h => (st2.A h).2.2.1)
      obtain ⟨r, hr⟩ := boolOf (PaidOk w bits)
      have gP := fun ob pb => paid_ok w bits 0 [] (by omega) ob pb r hr
      have hg := msg_w1 (f := f) (a4 := 0) (bad4 := false) (f4 := 0) hid hpb hb hlen g1 g2 g3 r gP
      refine msg_fin hg (fun h e => ?_) (fun m' a' hW => ?_)
      · obtain ⟨p1, p2, p3, p4⟩ := st3.A h
        obtain ⟨q1, q2, q3, q4⟩ := st2.A p1
        refine ⟨.inl ⟨rfl, q2, ⟨rfl, rfl⟩, rfl, rfl, rfl, hr.1 e⟩, p3, ?_⟩
        rw [j4, ← q4, ← p4]
        unfold msgB
        simp only [hdB, midB, crB, Int.reduceEq, if_true, if_false, or_false, false_or, or_true, true_or, List.append_assoc, List.nil_append, List.append_nil, List.cons_append, nameE, amtE, Int.toNat_natCast] <;> try rfl
      · obtain ⟨w1, w2, w3⟩ := wit1 hW.1 (hW1 m' a' hW)
        obtain ⟨v1, v2, v3, v4⟩ := st2.wit name_i j3 rfl w1 w3
        obtain ⟨u1, u2, u3, u4⟩ := st3.wit amt_i v4 v1 w2.1 v3
        injection u2 with u5 u6
        rw [u5, u6] at w2
        exact ⟨u1, hr.2 w2⟩
    · obtain ⟨x, y, a2, bad2, f2, g2, st2⟩ := nameP (a := (a + 1)) (f := f1) hid hpb hb hlen  false (fun _ => j3)
      obtain ⟨cs, a3, bad3, f3, g3, st3⟩ := termP (a := a2) (f := f2) hid hpb hb hlen  bad2 (fun h => (st2.A h).2.2.1)
      obtain ⟨w, bits, a4, bad4, f4, g4, hbl, st4⟩ := amtP (a := a3) (f := f3) hid hpb hb hlen  bad3 (fun h => (st3.A h).2.2.1)
      obtain ⟨r, hr⟩ := boolOf (PaidOk w bits)
      have gP := fun ob pb => paid_ok w bits 0 [] (by omega) ob pb r hr
      have hg := msg_w2 (f := f) hid hpb hb hlen g1 g2 g3 g4 r gP
      refine msg_fin hg (fun h e => ?_) (fun m' a' hW => ?_)
      · obtain ⟨p1, p2, p3, p4⟩ := st4.A h
        obtain ⟨q1, q2, q3, q4⟩ := st3.A p1
        obtain ⟨o1, o2, o3, o4⟩ := st2.A q1
        refine ⟨.inr (.inl ⟨rfl, o2, ⟨rfl, rfl⟩, q2, rfl, rfl, hr.1 e⟩), p3, ?_⟩
        rw [j4, ← o4, ← q4, ← p4]
        unfold msgB
        simp only [hdB, midB, crB, Int.reduceEq, if_true, if_false, or_false, false_or, or_true, true_or, List.append_assoc, List.nil_append, List.append_nil, List.cons_append, nameE, amtE, Int.toNat_natCast] <;> try rfl
      · obtain ⟨w1, w2, w4, w3⟩ := wit2 hW.1 (hW1 m' a' hW)
        obtain ⟨v1, v2, v3, v4⟩ := st2.wit name_i j3 rfl w1 w3
        obtain ⟨t1, t2, t3, t4⟩ := st3.wit term_i v4 v1 w2 v3
        obtain ⟨u1, u2, u3, u4⟩ := st4.wit amt_i t4 t1 w4.1 t3
        injection u2 with u5 u6
        rw [u5, u6] at w4
        exact ⟨u1, hr.2 w4⟩
    · obtain ⟨x, y, a2, bad2, f2, g2, st2⟩ := nameP (a := (a + 1)) (f := f1) hid hpb hb hlen  false (fun _ => j3)
      obtain ⟨cs, a3, bad3, f3, g3, st3⟩ := termP (a := a2) (f := f2) hid hpb hb hlen  bad2 (fun h => (st2.A h).2.2.1)
      obtain ⟨w, bits, a4, bad4, f4, g4, hbl, st4⟩ := amtP (a := a3) (f := f3) hid hpb hb hlen  bad3 (fun h => (st3.A h).2.2.1)
      obtain ⟨r, hr⟩ := boolOf (PaidOk w bits)
      have gP := fun ob pb => paid_ok w bits 0 [] (by omega) ob pb r hr
      have hg := msg_w3 (f := f) hid hpb hb hlen g1 g2 g3 g4 r gP
      refine msg_fin hg (fun h e => ?_) (fun m' a' hW => ?_)
      · obtain ⟨p1, p2, p3, p4⟩ := st4.A h
        obtain ⟨q1, q2, q3, q4⟩ := st3.A p1
        obtain ⟨o1, o2, o3, o4⟩ := st2.A q1
        refine ⟨.inr (.inr (.inl ⟨rfl, ⟨rfl, rfl⟩, o2, q2, rfl, rfl, hr.1 e⟩)), p3, ?_⟩
        rw [j4, ← o4, ← q4, ← p4]
        unfold msgB
        simp only [hdB, midB, crB, Int.reduceEq, if_true, if_false, or_false, false_or, or_true, true_or, List.append_assoc, List.nil_append, List.append_nil, List.cons_append, nameE, amtE, Int.toNat_natCast] <;> try rfl
      · obtain ⟨w1, w2, w4, w3⟩ := wit3 hW.1 (hW1 m' a' hW)
        obtain ⟨v1, v2, v3, v4⟩ := st2.wit name_i j3 rfl w1 w3
        obtain ⟨t1, t2, t3, t4⟩ := st3.wit term_i v4 v1 w2 v3
        obtain ⟨u1, u2, u3, u4⟩ := st4.wit amt_i t4 t1 w4.1 t3
        injection u2 with u5 u6
        rw [u5, u6] at w4
        exact ⟨u1, hr.2 w4⟩
    · obtain ⟨x, y, a2, bad2, f2, g2, st2⟩ := nameP (a := (a + 1)) (f := f1) hid hpb hb hlen  false (fun _ => j3)
      obtain ⟨n, a3, bad3, f3, g3, st3⟩ := numP (a := a2) (f := f2) hid hpb hb hlen 0 3 (by decide) bad2 (fun h => (st2.A h).2.2.1)
      have hg := msg_w4 (f := f) (a4 := 0) (bad4 := false) (f4 := 0) hid hpb hb hlen g1 g2 g3
      refine ⟨_, _, _, _, hg, fun h => ?_, fun h m' a' hW => ?_⟩
      · obtain ⟨q1, q2, q3, q4⟩ := st3.A h
        obtain ⟨o1, o2, o3, o4⟩ := st2.A q1
        refine ⟨.inr (.inr (.inr (.inl ⟨rfl, o2, ⟨rfl, rfl⟩, rfl, ⟨q2.1, by have := q2.2; show (n : Int) < 4; omega⟩, rfl, rfl, rfl⟩))), q3, ?_⟩
        rw [j4, ← o4, ← q4]
        unfold msgB
        simp only [hdB, midB, crB, Int.reduceEq, if_true, if_false, or_false, false_or, or_true, true_or, List.append_assoc, List.nil_append, List.append_nil, List.cons_append, nameE, amtE, Int.toNat_natCast] <;> try rfl
      · obtain ⟨w1, w2, w3⟩ := wit4 hW.1 (hW1 m' a' hW)
        obtain ⟨v1, v2, v3, v4⟩ := st2.wit name_i j3 rfl w1 w3
        obtain ⟨u1, u2, u3, u4⟩ := st3.wit (num_i 0 3) v4 v1 w2 v3
        rw [h] at u1; cases u1
    · obtain ⟨x, y, a2, bad2, f2, g2, st2⟩ := nameP (a := (a + 1)) (f := f1) hid hpb hb hlen  false (fun _ => j3)
      obtain ⟨n, a3, bad3, f3, g3, st3⟩ := numP (a := a2) (f := f2) hid hpb hb hlen 1 2147483647 (by decide) bad2 (fun h => (st2.A h).2.2.1)
      have hg := msg_w5 (f := f) (a4 := 0) (bad4 := false) (f4 := 0) hid hpb hb hlen g1 g2 g3
      refine ⟨_, _, _, _, hg, fun h => ?_, fun h m' a' hW => ?_⟩
      · obtain ⟨q1, q2, q3, q4⟩ := st3.A h
        obtain ⟨o1, o2, o3, o4⟩ := st2.A q1
        refine ⟨.inr (.inr (.inr (.inr (.inl ⟨rfl, o2, ⟨rfl, rfl⟩, rfl, ⟨q2.1, q2.2⟩, rfl, rfl, rfl⟩)))), q3, ?_⟩
        rw [j4, ← o4, ← q4]
        unfold msgB
        simp only [hdB, midB, crB, Int.reduceEq, if_true, if_false, or_false, false_or, or_true, true_or, List.append_assoc, List.nil_append, List.append_nil, List.cons_append, nameE, amtE, Int.toNat_natCast] <;> try rfl
      · obtain ⟨w1, w2, w3⟩ := wit5 hW.1 (hW1 m' a' hW)
        obtain ⟨v1, v2, v3, v4⟩ := st2.wit name_i j3 rfl w1 w3
        obtain ⟨u1, u2, u3, u4⟩ := st3.wit (num_i 1 2147483647) v4 v1 w2 v3
        rw [h] at u1; cases u1
    · obtain ⟨n, a2, bad2, f2, g2, st2⟩ := numP (a := (a + 1)) (f := f1) hid hpb hb hlen 0 2147483647 (by decide) false (fun _ => j3)
      obtain ⟨l, a3, bad3, f3, g3, st3⟩ := numP (a := a2) (f := f2) hid hpb hb hlen 0 3 (by decide) bad2 (fun h => (st2.A h).2.2.1)
      obtain ⟨w, bits, a4, bad4, f4, g4, hbl, st4⟩ := amtP (a := a3) (f := f3) hid hpb hb hlen  bad3 (fun h => (st3.A h).2.2.1)
      obtain ⟨r, hr⟩ := boolOf (PaidOk w bits)
      have gP := fun ob pb => paid_ok w bits 0 [] (by omega) ob pb r hr
      have hg := msg_w6 (f := f) hid hpb hb hlen g1 g2 g3 g4 r gP
      refine msg_fin hg (fun h e => ?_) (fun m' a' hW => ?_)
      · obtain ⟨p1, p2, p3, p4⟩ := st4.A h
        obtain ⟨q1, q2, q3, q4⟩ := st3.A p1
        obtain ⟨o1, o2, o3, o4⟩ := st2.A q1
        refine ⟨.inr (.inr (.inr (.inr (.inr ⟨rfl, ⟨rfl, rfl⟩, ⟨rfl, rfl⟩, rfl, ⟨o2.1, o2.2⟩, ⟨q2.1, q2.2⟩, hr.1 e⟩)))), p3, ?_⟩
        rw [j4, ← o4, ← q4, ← p4]
        unfold msgB
        simp only [hdB, midB, crB, Int.reduceEq, if_true, if_false, or_false, false_or, or_true, true_or, List.append_assoc, List.nil_append, List.append_nil, List.cons_append, nameE, amtE, Int.toNat_natCast] <;> try rfl
      · obtain ⟨w1, w2, w4, w3⟩ := wit6 hW.1 (hW1 m' a' hW)
        obtain ⟨v1, v2, v3, v4⟩ := st2.wit (num_i 0 2147483647) j3 rfl w1 w3
        obtain ⟨t1, t2, t3, t4⟩ := st3.wit (num_i 0 3) v4 v1 w2 v3
        obtain ⟨u1, u2, u3, u4⟩ := st4.wit amt_i t4 t1 w4.1 t3
        injection u2 with u5 u6
        rw [u5, u6] at w4
        exact ⟨u1, hr.2 w4⟩
  · obtain ⟨f2, gF⟩ := failT (b := b) (a := a1) (f := f1) hid hpb hb hlen bad1 (a : Int)
    obtain ⟨w, bits, a3, bad3, f3, g3, hbl, st3⟩ := amtP (a := a1) (f := f2) hid hpb hb hlen true (fun h => (nomatch h))
    have hb3 : bad3 = true := by
      cases bad3 with
      | true => rfl
      | false => have := (st3.A rfl).1; cases this
    subst hb3
    obtain ⟨r, hr⟩ := boolOf (PaidOk w bits)
    have gP := fun ob pb => paid_ok w bits 0 [] (by omega) ob pb r hr
    have hg := msg_w0 (f := f) (a4 := 0) (bad4 := false) (f4 := 0) hid hpb hb hlen (by omega) g1 gF g3 r gP
    refine ⟨_, _, _, _, hg, fun h => (nomatch h), fun _ m' a' hW => ?_⟩
    have h3 := hW.2.2
    cases bad1 with
    | true =>
      rcases (k1 rfl).2 with h4 | h4
      · cases h4
      · rw [h4] at h3; unfold msgB at h3; cases h3
    | false =>
      rw [(h1 rfl).2.2.2] at h3
      exact hk (wit_tg hW.1 h3)
end
end Tree.W11

set_option autoImplicit false
set_option linter.unusedVariables false
set_option linter.unusedSimpArgs false
set_option linter.unusedSectionVars false
namespace Tree.W11
open Go
set_option maxHeartbeats 8000000
set_option maxRecDepth 100000
theorem clip_ok (l : List Int) (hl : l.length ≤ 1048576) (o : Bool) (sp : List (List LV)) (ob : Obs) (pb : Nat) : Gives env11 499 [.sl o 0 1 (l.map brw) sp] ob pb (slB false l, ob) := by
  have h1 : (l.map brw).length = l.length := by simp
  have h2 : ((l.length : Nat) : Int).toNat = l.length := by omega
  refine gives_code (f := tf499) rfl ?_
  conv => whnf
  rw [h1]
  refine ⟨l.map brw, [], ⟨⟨by omega, by omega, by omega, by rw [List.length_append, h1]; omega⟩, ?_, ?_⟩, ?_⟩
  · simp [List.take_append, h1]
  · rw [List.drop_take]; simp
  conv => whnf
  exact ⟨rfl, rfl, rfl⟩
section
variable {b : List Int} {a id : Nat} {f : Int} {ob : Obs} {pb : Nat} (hid : id < ob.length) (hpb : pb ≤ id) (hlen : b.length ≤ 1048576)
include hid hpb hlen
theorem ended_ok (bad : Bool) (ha : bad = false → a ≤ b.length) : ∃ (e w : Int) (ob' : Obs), Gives env11 501 [.optr id 0] (S ob id b a bad f) pb (.tup [.int .i64 e, .int .i64 w], ob') ∧ (bad = false ∧ a = b.length → e = 0 ∧ w = 0) ∧ (bad = true ∨ a < b.length → e = 111) := by
  have hat := fun a' f' bad => S_at hid (v := rdO b a' bad f')
  have hbl : (b.map brw).length = b.length := by simp
  have hat0 := hat a f bad
  cases bad with
  | true =>
    refine ⟨111, f, ob.set id (rdO b a true f), ?_, fun h => (nomatch h.1), fun _ => rfl⟩
    unfold S at *
    generalize ob.set id (rdO b a true f) = O at *
    refine gives_code (f := tf501) rfl ?_
    conv => whnf
    refine ⟨_, _, ⟨hat0, rfl, rfl⟩, ?_⟩
    conv => whnf
    refine ⟨_, _, ⟨hat0, rfl, rfl⟩, ?_⟩
    conv => whnf
    refine ⟨_, _, ⟨hat0, rfl, rfl⟩, ?_⟩
    conv => whnf
    exact ⟨rfl, rfl, rfl⟩
  | false =>
    by_cases he : a < b.length
    · have gf := failS (b := b) (a := a) (f := f) hid hpb (a : Int)
      have hat1 := hat a a true
      refine ⟨111, a, ob.set id (rdO b a true a), ?_, fun h => absurd h.2 (by omega), fun _ => rfl⟩
      unfold S at *
      generalize ob.set id (rdO b a false f) = O at *
      generalize ob.set id (rdO b a true a) = O1 at *
      refine gives_code (f := tf501) rfl ?_
      conv => whnf
      refine ⟨_, _, ⟨hat0, rfl, rfl⟩, ?_⟩
      conv => whnf
      refine ⟨_, _, ⟨hat0, rfl, rfl⟩, ?_⟩
      conv => whnf
      refine ⟨_, _, ⟨hat0, rfl, rfl⟩, ?_⟩
      conv => whnf
      refine sel_t (by rw [hbl]; simp; omega) ?_
      conv => whnf
      refine ⟨_, _, ⟨hat0, rfl, rfl⟩, ?_⟩
      conv => whnf
      refine ⟨_, _, gf, fun h => (nomatch h), ?_⟩
      conv => whnf
      refine ⟨_, _, ⟨hat1, rfl, rfl⟩, ?_⟩
      conv => whnf
      refine ⟨_, _, ⟨hat1, rfl, rfl⟩, ?_⟩
      conv => whnf
      exact ⟨rfl, rfl, rfl⟩
    · refine ⟨0, 0, ob.set id (rdO b a false f), ?_, fun _ => ⟨rfl, rfl⟩, fun h => ?_⟩
      · unfold S at *
        generalize ob.set id (rdO b a false f) = O at *
        refine gives_code (f := tf501) rfl ?_
        conv => whnf
        refine ⟨_, _, ⟨hat0, rfl, rfl⟩, ?_⟩
        conv => whnf
        refine ⟨_, _, ⟨hat0, rfl, rfl⟩, ?_⟩
        conv => whnf
        refine ⟨_, _, ⟨hat0, rfl, rfl⟩, ?_⟩
        conv => whnf
        refine sel_f (by rw [hbl]; simp; omega) ?_
        conv => whnf
        refine ⟨_, _, ⟨hat0, rfl, rfl⟩, ?_⟩
        conv => whnf
        exact ⟨rfl, rfl, rfl⟩
      · rcases h with h | h
        · cases h
        · omega
end
end Tree.W11

set_option autoImplicit false
set_option linter.unusedVariables false
set_option linter.unusedSimpArgs false
set_option linter.unusedSectionVars false
namespace Tree.W11
open Go
set_option maxHeartbeats 8000000
set_option maxRecDepth 100000
end Tree.W11

set_option autoImplicit false
set_option linter.unusedVariables false
set_option linter.unusedSimpArgs false
set_option linter.unusedSectionVars false
namespace Tree.W11
open Go
set_option maxHeartbeats 8000000
set_option maxRecDepth 100000
theorem rightM_sizes {m : M} (h : RightM m) : m.cs.length ≤ 1048576 ∧ (∀ c ∈ m.cs, c.fine) ∧ m.bits.length ≤ 1048576 := by
  have hT : TermOk m.cs → m.cs.length ≤ 1048576 ∧ ∀ c ∈ m.cs, c.fine := fun h => by
    refine ⟨by have := h.1.1.2.1; omega, fun c hc => ?_⟩
    have h1 := h.1.1.2.2.2 c hc
    have h2 := ok_text h1
    have h3 := kinds h1
    exact ⟨by unfold maxLen; omega, by omega, by omega⟩
  have hP : PaidOk m.w m.bits → m.bits.length ≤ 1048576 := fun h => by have := upTo_len 0 _ (by decide) h.1.2; omega
  have hz : m.cs.length = 0 → m.cs.length ≤ 1048576 ∧ ∀ c ∈ m.cs, c.fine := fun h => by
    rw [List.length_eq_zero_iff.1 h]; exact ⟨by simp, by simp⟩
  rcases h with h | h | h | h | h | h
  · exact ⟨(hz h.2.2.2.1).1, (hz h.2.2.2.1).2, hP h.2.2.2.2.2.2⟩
  · exact ⟨(hT h.2.2.2.1).1, (hT h.2.2.2.1).2, hP h.2.2.2.2.2.2⟩
  · exact ⟨(hT h.2.2.2.1).1, (hT h.2.2.2.1).2, hP h.2.2.2.2.2.2⟩
  · exact ⟨(hz h.2.2.2.1).1, (hz h.2.2.2.1).2, by omega⟩
  · exact ⟨(hz h.2.2.2.1).1, (hz h.2.2.2.1).2, by omega⟩
  · exact ⟨(hz h.2.2.2.1).1, (hz h.2.2.2.1).2, hP h.2.2.2.2.2.2⟩
theorem numB_rng : ∀ n : Nat, ∀ c ∈ numB n, 0 ≤ c ∧ c < 256 := by
  intro n
  induction n using Nat.strongRecOn with
  | ind n ih =>
    intro c hc
    by_cases h : n < 128
    · rw [numB_lt h] at hc; have := List.mem_singleton.1 hc; omega
    · rw [numB_ge h] at hc
      rcases List.mem_cons.1 hc with rfl | hc
      · omega
      · exact ih _ (by omega) c hc
theorem bytesI_rng (s : ByteArray) : ∀ c ∈ bytesI s, 0 ≤ c ∧ c < 256 := by
  intro c hc
  unfold bytesI at hc
  obtain ⟨b, _, rfl⟩ := List.mem_map.1 hc
  have := b.toNat_lt
  omega
theorem wrap8_rng (n : Int) : 0 ≤ IntKind.u8.wrap n ∧ IntKind.u8.wrap n < 256 := by
  show 0 ≤ n % 256 ∧ n % 256 < 256
  omega
def Rng (l : List Int) : Prop := ∀ c ∈ l, 0 ≤ c ∧ c < 256
theorem rng_app {a b : List Int} (h : Rng a) (g : Rng b) : Rng (a ++ b) := fun c hc => (List.mem_append.1 hc).elim (h c) (g c)
theorem nameB_rng (x y : Int) : Rng (nameB x y) := fun c hc => by
  unfold nameB at hc
  rcases List.mem_cons.1 hc with rfl | hc
  · exact wrap8_rng x
  · exact numB_rng _ c hc
theorem strB_rng (s : ByteArray) : Rng (strB s) := rng_app (numB_rng _) (bytesI_rng s)
theorem cellB_rng {c : C} (h : okC c) : Rng (cellB c) := by
  have hk := kinds h
  intro d hd
  unfold cellB at hd
  rcases List.mem_cons.1 hd with rfl | hd
  · omega
  · unfold restB at hd
    split at hd
    · exact numB_rng _ d hd
    · split at hd
      · exact strB_rng _ d hd
      · split at hd
        · exact rng_app (strB_rng _) (fun e he => by rw [List.mem_singleton.1 he]; exact wrap8_rng _) d hd
        · split at hd
          · exact nameB_rng _ _ d hd
          · simp at hd
theorem termB_rng {cs : List C} (h : TermOk cs) : Rng (termB cs) := rng_app (numB_rng _) (fun d hd => by
  obtain ⟨c, hc, hd⟩ := List.mem_flatMap.1 hd
  exact cellB_rng (h.1.1.2.2.2 c hc) d hd)
theorem difB_rng : ∀ (l : Int) (bits : List Int), Rng (difB l bits)
  | l, [] => fun c hc => by simp [difB] at hc
  | l, x :: r => by unfold difB; exact rng_app (numB_rng _) (difB_rng x r)
theorem amtB_rng (w : Int) (bits : List Int) : Rng (amtB w bits) := rng_app (rng_app (numB_rng _) (numB_rng _)) (difB_rng _ _)
theorem msgB_rng {m : M} (h : RightM m) : Rng (msgB m) := by
  have h1 : Rng (hdB m) := by
    unfold hdB; split
    · exact nameB_rng _ _
    · split
      · exact fun c hc => by simp at hc
      · exact nameB_rng _ _
  have h2 : Rng (midB m) := by
    unfold midB; split
    · rename_i ht
      have : TermOk m.cs := by
        rcases h with g | g | g | g | g | g
        · omega
        · exact g.2.2.2.1
        · exact g.2.2.2.1
        · omega
        · omega
        · omega
      exact termB_rng this
    · split
      · exact numB_rng _
      · split
        · exact rng_app (numB_rng _) (numB_rng _)
        · exact fun c hc => by simp at hc
  have h3 : Rng (crB m) := by
    unfold crB; split
    · exact fun c hc => by simp at hc
    · exact amtB_rng _ _
  intro c hc
  unfold msgB at hc
  rcases List.mem_cons.1 hc with rfl | hc
  · rcases h with g | g | g | g | g | g <;> (have := g.1; omega)
  · exact rng_app (rng_app h1 h2) h3 c hc
end Tree.W11
