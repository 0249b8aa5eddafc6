/- Layer 11, WireMessages: what E answers. -/
import Derived.Test.YtoofpbdalgopgaaDoorL11E
import Derived.Test.YtoofpbdalgopgaaDoorTLb
import Derived.Test.YtoofpbdalgopgaaDoorTLg
set_option autoImplicit false
set_option linter.unusedVariables false
set_option linter.unusedSimpArgs false
namespace Tree.W11
open Go
set_option maxHeartbeats 8000000
set_option maxRecDepth 100000
def carr (m : M) : List NV := if m.tg = 2 ∨ m.tg = 3 then varsC [] m.cs else []
theorem carr_ok (m : M) (l1 : Nat) (s1 : List (List LV)) (l2 : Nat) (s2 : List (List LV)) (hc : m.cs.length ≤ 1048576) (ob : Obs) (pb : Nat) : Gives env11 492 [m.lv l1 s1 l2 s2] ob pb (sl2 true 0 (carr m) [], ob) := by
  obtain ⟨tg, v1, v2, g1, g2, cs, cn, fl, w, bits⟩ := m
  simp only at hc
  have g := fun pb => (vars_ok 0 [⟨l1, cs, s1⟩] [] (by simp) (by simpa using hc) ob pb).le le111
  have ev : varsT [] [⟨l1, cs, s1⟩] = varsC [] cs := rfl
  rw [ev] at g
  refine gives_code (f := tf492) rfl ?_
  by_cases h2 : tg = 2
  · subst h2
    conv => whnf
    refine ⟨_, _, g _, fun _ => noRef2 _ _ _ _, ?_⟩
    conv => whnf
    exact ⟨rfl, rfl, rfl⟩
  by_cases h3 : tg = 3
  · subst h3
    conv => whnf
    refine ⟨_, _, g _, fun _ => noRef2 _ _ _ _, ?_⟩
    conv => whnf
    exact ⟨rfl, rfl, rfl⟩
  · have e : carr ⟨tg, v1, v2, g1, g2, cs, cn, fl, w, bits⟩ = [] := by simp [carr, h2, h3]
    rw [e]
    conv => whnf
    refine sel_t (by simpa using h2) ?_
    conv => whnf
    refine sel_t (by simpa using h3) ?_
    conv => whnf
    exact ⟨rfl, rfl, rfl⟩
theorem refCarr_ok (m : M) (l1 : Nat) (s1 : List (List LV)) (l2 : Nat) (s2 : List (List LV)) (hc : m.cs.length ≤ 1048576) (ob : Obs) (pb : Nat) : Gives env11 493 [m.lv l1 s1 l2 s2] ob pb (sl2 true 0 (carr m) [], ob) := by
  obtain ⟨tg, v1, v2, g1, g2, cs, cn, fl, w, bits⟩ := m
  simp only at hc
  have g := fun pb => (varsOf_ok ⟨l1, cs, s1⟩ hc ob pb).le le111
  refine gives_code (f := tf493) rfl ?_
  by_cases h2 : tg = 2
  · subst h2
    conv => whnf
    refine ⟨_, _, g _, fun _ => noRef2 _ _ _ _, ?_⟩
    conv => whnf
    exact ⟨rfl, rfl, rfl⟩
  by_cases h3 : tg = 3
  · subst h3
    conv => whnf
    refine ⟨_, _, g _, fun _ => noRef2 _ _ _ _, ?_⟩
    conv => whnf
    exact ⟨rfl, rfl, rfl⟩
  · have e : carr ⟨tg, v1, v2, g1, g2, cs, cn, fl, w, bits⟩ = [] := by simp [carr, h2, h3]
    rw [e]
    conv => whnf
    refine sel_t (by simpa using h2) ?_
    conv => whnf
    refine sel_t (by simpa using h3) ?_
    conv => whnf
    exact ⟨rfl, rfl, rfl⟩
theorem sameM_ok (m : M) (l1 : Nat) (s1 : List (List LV)) (l2 : Nat) (s2 : List (List LV)) (k1 : Nat) (u1 : List (List LV)) (k2 : Nat) (u2 : List (List LV)) (hc : m.cs.length ≤ 1048576) (hb : m.bits.length ≤ 1048576) (ob : Obs) (pb : Nat) : Gives env11 485 [m.lv l1 s1 l2 s2, m.lv k1 u1 k2 u2] ob pb (.bool true, ob) := by
  obtain ⟨tg, v1, v2, g1, g2, cs, cn, fl, w, bits⟩ := m
  simp only at hc hb
  have hlb : (bits.map zr).length = bits.length := by simp
  have g := fun pb => (equal_ok l1 k1 cs cs s1 u1 (by omega) ob pb true (by simp)).le le111
  have hz : ∀ {i : Nat} {b : Int}, bits[i]? = some b → (bits.map zr)[i]? = some [.int .i64 b] := fun h => by rw [List.getElem?_map, h]; rfl
  refine gives_code (f := tf485) rfl ?_
  conv => whnf
  refine sel_f (by simp) ?_
  conv => whnf
  refine sel_f (by simp) ?_
  conv => whnf
  refine loop_v (V := fun i : Nat => [(5, .int .i64 i)]) (O := fun _ => ob) (m := fun i => bits.length - i) (P := fun i => i ≤ bits.length) ?_ 0 (Nat.zero_le _) rfl
  intro R i hi hN hE hR
  conv => whnf
  refine sel_split (fun h => ?_) (fun h => ?_)
  · conv => whnf
    have h := of_decide_eq_true h
    rw [hlb] at h
    obtain ⟨b, hbb⟩ : ∃ b, bits[i]? = some b := ⟨_, List.getElem?_eq_getElem (show i < bits.length by omega)⟩
    have e : IntKind.i64.wrap ((i : Int) + 1) = ((i + 1 : Nat) : Int) := by rw [wrap64] <;> omega
    refine ⟨_, ⟨by omega, hz hbb⟩, ?_⟩
    conv => whnf
    refine ⟨_, ⟨by omega, hz hbb⟩, ?_⟩
    conv => whnf
    refine sel_f (by simp) ?_
    conv => whnf
    refine hN (i + 1) _ (by omega) (by omega) ?_
    rw [← e]; rfl
  · conv => whnf
    refine hE _ _ ?_
    have e1 : (tg == tg) = true := by simp
    have e2 : (v1 == v1 && (v2 == v2 && true)) = true := by simp
    have e3 : (g1 == g1 && (g2 == g2 && true)) = true := by simp
    conv => whnf
    repeat' ((first | refine sel_t (by simp) ?_ | refine ⟨_, _, g _, fun _ => rfl, ?_⟩) <;> conv => whnf)
    refine ⟨rfl, ?_, rfl⟩
    simp
    rfl
theorem hand11_ok (l : List Int) (hl : l.length ≤ 1048576) (lab : Nat) (sp : List (List LV)) (hs : LV.noRefss 0 sp = true) (ob : Obs) (pb : Nat) : Gives env11 221 [zsB lab l sp] ob pb (zsB 0 l ((marks 9).map zr), ob) := by
  have hf : frzF env11r 221 [zsl false lab l sp] ob = some (handV l) := hand_frz (E := env11r) rfl l hl lab sp hs ob
  exact gives_ext (F := frzF env11r 221) rfl hf
theorem encM_noRef (b : Bool) (m : M) (n : Nat) : (encM b m).noRef n = true := by
  unfold encM
  split
  · split
    · rfl
    · simp only [LV.noRef, LV.noRefs, noRef_b, LV.noRefss, Bool.and_self]
  · rfl
def encP (r : Bool) (m : M) : List Int × Int := if r then (if (msgB m).length > 65536 then ([], 5) else (msgB m, 0)) else ([], 6)
theorem encM_eq (r : Bool) (m : M) : encM r m = .tup [slB false (encP r m).1, .int .i64 (encP r m).2] ∧ (encP r m).1.length ≤ 65536 := by
  unfold encM encP
  cases r with
  | false => exact ⟨rfl, by simp⟩
  | true =>
    simp only [if_true]
    split
    · exact ⟨rfl, by simp⟩
    · rename_i h; exact ⟨rfl, by simp only; omega⟩
theorem messages_law (m : M) (l1 : Nat) (s1 : List (List LV)) (l2 : Nat) (s2 : List (List LV)) (hc : m.cs.length ≤ 1048576) (hf : ∀ c ∈ m.cs, c.fine) (hb : m.bits.length ≤ 1048576) (hs1 : ∀ n, LV.noRefss n s1 = true) (hs2 : ∀ n, LV.noRefss n s2 = true) : ∃ ob', Gives env11 596 [m.lv l1 s1 l2 s2] [] 0 (.bool true, ob') := by
  obtain ⟨r, hr⟩ := boolOf (RightM m)
  have hz : ∀ n (l : List Int), LV.noRefss n (l.map zr) = true := by
    intro n l; induction l with
    | nil => rfl
    | cons a l ih => simp [LV.noRefss, zr, LV.noRefs, LV.noRef, ih]
  have hnil : ∀ n, LV.noRefss n ([] : List (List LV)) = true := fun n => rfl
  obtain ⟨ob1, g1⟩ := enc_ok m 0 [] 0 ((marks 9).map zr) hc hf hb [] 0 (Nat.le_refl _) r hr hnil (fun n => hz n _)
  have g2 := fun pb => refEnc_ok m l1 s1 l2 s2 hc hf hb [] pb r hr
  have g3 := fun pb => rightM_ok m 0 [] 0 ((marks 9).map zr) (by omega) hf (by omega) [] pb r hr hnil (fun n => hz n _)
  have g4 := fun pb => refRightM_ok m l1 s1 l2 s2 (by omega) hf (by omega) [] pb r hr
  have g5 := fun pb => carr_ok m 0 [] 0 ((marks 9).map zr) hc [] pb
  have g6 := fun pb => refCarr_ok m l1 s1 l2 s2 hc [] pb
  have g7 := fun pb => sameM_ok m 0 [] 0 ((marks 9).map zr) l1 s1 l2 s2 hc hb [] pb
  have g8 := fun pb => hand11_ok m.bits hb l2 s2 (hs2 0) [] pb
  have hcl : (carr m).length ≤ 1048576 := by
    unfold carr; split
    · have := varsC_len m.cs []; simp at this; omega
    · simp
  have g9 := fun pb => (sameNames_ok 0 0 (carr m) (carr m) [] [] (by omega) [] pb true (by simp)).le le111
  have n1 := encM_noRef r m
  obtain ⟨he, hel⟩ := encM_eq r m
  rw [he] at g1 g2 n1
  have g10 := fun pb => same_ok (encP r m).1 false false (by omega) [] pb
  have g11 := fun pb => live11_ok [] pb
  obtain ⟨tg, v1, v2, gg1, gg2, cs, cn, fl, w, bits⟩ := m
  simp only at hc hb
  have hlen : (cs.map C.row).length = cs.length := by simp
  refine ⟨[], gives_code (f := tf596) rfl ?_⟩
  conv => whnf
  refine ⟨cs.map C.row, ⟨.inl rfl, ?_, rfl⟩, ?_⟩
  · show (0 + (cs.map C.row).length) * 48 ≤ _
    rw [hlen]; omega
  conv => whnf
  refine ⟨_, _, g8 _, fun _ => ?_, ?_⟩
  · simp only [LV.noRef, hz, Bool.and_self]
  conv => whnf
  refine ⟨_, _, g1, fun _ => n1 _, ?_⟩
  conv => whnf
  refine ⟨_, _, g2 _, fun _ => n1 _, ?_⟩
  conv => whnf
  refine ⟨_, _, g11 _, fun _ => rfl, ?_⟩
  conv => whnf
  refine ⟨_, _, g10 _, fun _ => rfl, ?_⟩
  conv => whnf
  refine sel_t (by simp) ?_
  conv => whnf
  refine ⟨_, _, g3 _, fun _ => rfl, ?_⟩
  conv => whnf
  refine ⟨_, _, g4 _, fun _ => rfl, ?_⟩
  conv => whnf
  refine sel_t (by cases r <;> rfl) ?_
  conv => whnf
  refine ⟨_, _, g5 _, fun _ => noRef2 _ _ _ _, ?_⟩
  conv => whnf
  refine ⟨_, _, g6 _, fun _ => noRef2 _ _ _ _, ?_⟩
  conv => whnf
  refine ⟨_, _, g9 _, fun _ => rfl, ?_⟩
  conv => whnf
  refine ⟨_, _, g7 _, fun _ => rfl, ?_⟩
  conv => whnf
  exact ⟨rfl, rfl, rfl⟩
end Tree.W11
