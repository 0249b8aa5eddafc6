/- RefsSafe: the law's walk. -/
import Derived.Test.YtkeadnggllgphaaR16Z
set_option autoImplicit false
set_option linter.unusedVariables false
set_option linter.unusedSimpArgs false
namespace Tree.R16
open Go Tree
set_option maxHeartbeats 8000000
set_option maxRecDepth 100000
structure Mv where
  kind : Int
  f : Int
  t : Int
def Mv.row (m : Mv) : List LV := [.int .i64 m.kind, .int .i64 m.f, .int .i64 m.t]
theorem mrow {l : List Mv} {i : Nat} {x : Mv} (h : l[i]? = some x) : (l.map Mv.row)[((i : Nat) : Int).toNat]? = some x.row := by
  rw [List.getElem?_map]; show (l[i]?).map _ = _; rw [h]; rfl
theorem set_raw (v : LV) : ∀ (cs : List LV) (c : Nat), c < cs.length → cs.take c ++ [v] ++ cs.drop (c + 1) = cs.set c v
  | [], c, h => by simp at h
  | x :: r, 0, _ => by simp
  | x :: r, c + 1, h => by
    have ih := set_raw v r c (by simpa using h)
    simp only [List.take_succ_cons, List.drop_succ_cons, List.cons_append, List.set_cons_succ]
    rw [ih]
theorem set_off {cs : List LV} {c : Nat} (hc : c < cs.length) (v : LV) : splice cs c [v] = some (cs.set c v) := by
  unfold splice
  rw [if_pos (by simp; omega)]
  exact congrArg some (set_raw v cs c hc)
/-- The world while its tables are made. -/
structure WP (cs : List LV) (i : Nat) : Prop where
  len : cs.length = 20
  tab : ∀ j, j < i → cs[j]? = some (.optr (0 + 3 + 3 * j) 0)
  way : ∀ f t, f < 4 → t < 4 → cs[4 + 4 * f + t]? = some (.sl true 0 3 [] [])
  notM : isMapC cs = false
theorem WP.set {cs : List LV} {i : Nat} (h : WP cs i) (hi : i < 4) : WP (cs.set i (.optr (0 + 3 + 3 * i) 0)) (i + 1) := by
  refine ⟨by simp [h.len], fun j hj => ?_, fun f t hf ht => ?_, ?_⟩
  · by_cases e : j = i
    · subst e; rw [List.getElem?_set_self (by rw [h.len]; omega)]
    · rw [List.getElem?_set_ne (by omega)]; exact h.tab j (by omega)
  · rw [List.getElem?_set_ne (by omega)]; exact h.way f t hf ht
  · have hn := h.notM
    cases cs with
    | nil => rfl
    | cons x r => cases i with
      | zero => rfl
      | succ i => cases x <;> first | exact hn | rfl
def w0 : Ways := fun _ _ => []
def S0 : Ws := ⟨fun _ => 0, fun _ => 0, w0⟩
theorem WP.WC {cs : List LV} (h : WP cs 4) : WC cs 0 w0 := ⟨h.len, h.tab, h.way⟩
theorem good0 : Good S0 0 := by
  refine ⟨fun _ => [], 0, ⟨⟨fun i _ _ => rfl, fun i _ _ m hm => (nomatch hm), fun i _ => rfl, fun f t _ _ _ m hm => (nomatch hm), fun f _ _ m hm => (nomatch hm), fun f t => Nat.zero_le _⟩, fun j _ => rfl, fun i _ _ => ?_, fun i _ _ pre m post e hm => ?_, fun i => by show (0 : Int) ≤ 0 ∧ (0 : Int) ≤ _; omega, fun j => by show (0 : Int) ≤ _; omega⟩⟩
  · rfl
  · cases pre <;> simp at e
structure Mk (ob : Obs) (i : Nat) : Prop where
  len : ob.length = 1 + 3 * i
  cell : ∃ cs, ob[0]? = some cs ∧ WP cs i
  tab : ∀ j : Nat, j < i → TB (0 + 1 + 3 * j) j ob (fun _ => 0) (fun _ => 0) 0
theorem Mk.ws {ob : Obs} (h : Mk ob 4) (y : Int) : WS 0 y ob S0 0 := by
  obtain ⟨cs, h1, h2⟩ := h.cell
  refine ⟨⟨cs, h1, h2.WC⟩, ?_, fun i i1 i2 => ?_⟩
  · have := h.tab 0 (by omega)
    refine TB.congr this (fun k => ?_) fun _ => rfl
    unfold dE; split <;> rfl
  · refine TB.congr (h.tab i i2) (fun _ => rfl) fun k => ?_
    unfold dH; split <;> rfl
theorem Mk.next {ob ob' : Obs} {i : Nat} (h : Mk ob i) (hi : i < 4) (hT : TB ob.length (i : Nat) ob' (fun _ => 0) (fun _ => 0) 0) (hk : ∀ j, j < ob.length → ob'[j]? = ob[j]?) (hl : ob'.length = ob.length + 3) :
    ∃ cs, ob'[0]? = some cs ∧ WP cs i ∧ Mk (ob'.set 0 (cs.set i (.optr (0 + 3 + 3 * i) 0))) (i + 1) := by
  obtain ⟨cs, h1, h2⟩ := h.cell
  have hl0 := h.len
  have h3 : ob'[0]? = some cs := by rw [hk 0 (by omega)]; exact h1
  have hid : 0 < ob'.length := by omega
  refine ⟨cs, h3, h2, ⟨by rw [List.length_set]; omega, ⟨_, List.getElem?_set_self hid, h2.set hi⟩, fun j hj => ?_⟩⟩
  by_cases e : j = i
  · subst e
    have e2 : 0 + 1 + 3 * j = ob.length := by omega
    rw [e2]
    exact hT.frame fun k k1 k2 => List.getElem?_set_ne (by omega)
  · exact (h.tab j (by omega)).frame fun k k1 k2 => by rw [List.getElem?_set_ne (by omega)]; exact hk k (by omega)
theorem safe_law (x y : Int) (lab : Nat) (l : List Mv) (sp : List (List LV)) : ∃ ob', Gives env16z 664 [.agg (nr3 (x, y)), .sl false lab 3 (l.map Mv.row) sp] [] 0 (.bool true, ob') := by
  have hlen : (l.map Mv.row).length = l.length := by simp
  refine gives_codeE (f := tf664) rfl ?_
  conv => whnf
  refine ⟨_, _, live16_ok _ _, fun _ => rfl, ?_⟩
  conv => whnf
  refine loop_x (V := fun i : Nat × Obs => [(6, .val (.int .i64 i.1))]) (O := fun i => i.2) (m := fun i => 4 - i.1) (P := fun i => i.1 ≤ 4 ∧ Mk i.2 i.1) ?_ (0, _) ⟨Nat.zero_le _, ?_⟩ rfl
  rotate_left
  · refine ⟨rfl, ⟨_, rfl, ⟨rfl, fun j hj => (by have : j < 0 := hj; omega), fun f t hf ht => ?_, rfl⟩⟩, fun j hj => (by have : j < 0 := hj; omega)⟩
    have h1 : f = 0 ∨ f = 1 ∨ f = 2 ∨ f = 3 := by omega
    have h2 : t = 0 ∨ t = 1 ∨ t = 2 ∨ t = 3 := by omega
    rcases h1 with rfl | rfl | rfl | rfl <;> rcases h2 with rfl | rfl | rfl | rfl <;> rfl
  rintro R ⟨i, ob⟩ ⟨hi, hM⟩ hN hE hR
  dsimp only at hi hM
  have e : IntKind.i64.wrap ((i : Int) + 1) = ((i + 1 : Nat) : Int) := by rw [wrap64] <;> omega
  conv => whnf
  refine sel_split (fun hq => ?_) (fun hq => ?_)
  · conv => whnf
    have hq := of_decide_eq_true hq
    have hi4 : i < 4 := by omega
    obtain ⟨ob1, n1, n2, n3, n4⟩ := new_ok i (by unfold isB; rw [decide_eq_true (by omega : 0 ≤ (i : Int)), decide_eq_true (by omega : (i : Int) < 4)]; rfl) ob 0 (by omega)
    obtain ⟨cs, c1, c2, c3⟩ := hM.next hi4 n2 n3 n4
    refine ⟨_, _, n1, fun h => (nomatch h), ?_⟩
    conv => whnf
    refine ⟨by omega, ?_⟩
    conv => whnf
    have hl0 := hM.len
    refine ⟨cs, cs.set i (.optr (0 + 3 + 3 * i) 0), ⟨Nat.zero_le _, c1, c2.notM, ?_⟩, ?_⟩
    · show splice cs (0 + 0 + (i : Int).toNat * 1) [.optr (ob.length + 2) 0] = _
      rw [show 0 + 0 + (i : Int).toNat * 1 = i by omega, show ob.length + 2 = 0 + 3 + 3 * i by omega]
      exact set_off (by rw [c2.len]; omega) _
    conv => whnf
    refine hN (i + 1, ob1.set 0 (cs.set i (.optr (0 + 3 + 3 * i) 0))) _ ⟨by show i + 1 ≤ 4; omega, c3⟩ (by show 4 - (i + 1) < 4 - i; omega) ?_
    rw [← e]; rfl
  · conv => whnf
    have hq := of_decide_eq_false hq
    have : i = 4 := by omega
    subst this
    refine hE _ _ ?_
    conv => whnf
    clear hN hE hR R
    refine loop_x (V := fun i : Nat × Obs × Ws => [(9, .val (.int .i64 i.1))]) (O := fun i => i.2.1) (m := fun i => l.length - i.1) (P := fun i => i.1 ≤ l.length ∧ i.1 ≤ 5000 ∧ WS 0 y i.2.1 i.2.2 i.1 ∧ Good i.2.2 i.1) ?_ (0, ob, S0) ⟨Nat.zero_le _, Nat.zero_le _, hM.ws y, good0⟩ rfl
    rintro R ⟨i, ob1, S⟩ ⟨hi, hi5, hW, hG⟩ hN hE hR
    dsimp only at hi hi5 hW hG
    have e : IntKind.i64.wrap ((i : Int) + 1) = ((i + 1 : Nat) : Int) := by rw [wrap64] <;> omega
    conv => whnf
    refine sel_split (fun hq1 => ?_) (fun hq1 => ?_)
    · conv => whnf
      have hq1 := of_decide_eq_true hq1
      rw [hlen] at hq1
      refine sel_split (fun hq2 => ?_) (fun hq2 => ?_)
      · conv => whnf
        have hq2 := of_decide_eq_true hq2
        have hi5 : i < 5000 := by have : ((i : Nat) : Int) < 5000 := hq2; omega
        have hil : i < l.length := by have : ((i : Nat) : Int) < l.length := hq1; omega
        obtain ⟨m, hm⟩ : ∃ m, l[i]? = some m := ⟨_, List.getElem?_eq_getElem hil⟩
        have hrow := mrow hm
        unfold Mv.row at hrow
        obtain ⟨ob2, d1, d2, d3⟩ := do_ok hW (hG.ok (by omega)) m.kind m.f m.t 0 (Nat.le_refl _)
        have hG2 := hG.move m.kind (m4 m.f) (m4 m.t) (m4_lt _) (m4_lt _)
        generalize moveS S m.kind (m4 m.f) (m4 m.t) = S2 at d2 hG2
        obtain ⟨q, e1, e2⟩ := exp_ok d2 (by omega) (hG2.eb (by omega))
        obtain ⟨cs2, hob2, hc2⟩ := d2.cell
        have hn2 := hc2.notMap
        have htab2 : partE false (0 + 0 + Int.toNat 0 * 1) 1 cs2 = some (.optr (0 + 3 + 3 * 0) 0) := hc2.tab 0 (by omega)
        refine ⟨_, ⟨by omega, hrow⟩, ?_⟩
        conv => whnf
        refine ⟨_, _, d1, fun h => (nomatch h), ?_⟩
        conv => whnf
        refine ⟨by decide, ?_⟩
        conv => whnf
        refine ⟨_, _, ⟨hob2, hn2, htab2⟩, ?_⟩
        conv => whnf
        refine ⟨_, _, e1 _, fun _ => rfl, ?_⟩
        cases q with
        | true =>
          conv => whnf
          refine hN (i + 1, ob2, S2) _ ⟨by show i + 1 ≤ _; omega, by show i + 1 ≤ _; omega, d2, hG2⟩ (by show l.length - (i + 1) < l.length - i; omega) ?_
          rw [← e]; rfl
        | false =>
          conv => whnf
          have hF := hG2.safe (e2.1 rfl)
          refine ⟨_, _, held0_ok d2 (hG2.ok (by omega)).len hF _, fun _ => rfl, ?_⟩
          conv => whnf
          refine hN (i + 1, ob2, S2) _ ⟨by show i + 1 ≤ _; omega, by show i + 1 ≤ _; omega, d2, hG2⟩ (by show l.length - (i + 1) < l.length - i; omega) ?_
          rw [← e]; rfl
      · conv => whnf
        refine hE _ _ ?_
        conv => whnf
        clear hN hE hR R
        have hK0 : Kr 165000 0 S i := by
          refine ⟨hG, ?_, fun h => absurd h (by omega), fun h => absurd h (by omega)⟩
          obtain ⟨q, c, hv⟩ := hG
          have hb := hv.W.lb
          have b00 := hb 0 0; have b01 := hb 0 1; have b02 := hb 0 2; have b03 := hb 0 3
          have b10 := hb 1 0; have b11 := hb 1 1; have b12 := hb 1 2; have b13 := hb 1 3
          have b20 := hb 2 0; have b21 := hb 2 1; have b22 := hb 2 2; have b23 := hb 2 3
          have b30 := hb 3 0; have b31 := hb 3 1; have b32 := hb 3 2; have b33 := hb 3 3
          unfold Mw; omega
        refine loop_x (V := fun z : Nat × Obs × Ws × Nat => [(10, .val (.int .i64 z.1))]) (O := fun z => z.2.1) (m := fun z => 3 - z.1) (P := fun z => z.1 ≤ 3 ∧ WS 0 y z.2.1 z.2.2.1 z.2.2.2 ∧ Kr (165000 + 6 * z.1) z.1 z.2.2.1 z.2.2.2) ?_ (0, ob1, S, i) ⟨Nat.zero_le _, hW, hK0⟩ rfl
        clear hW hG hK0 hi hi5
        rintro R ⟨r, ob2, S2, n⟩ ⟨hr, hW, hK⟩ hN hE hR
        dsimp only at hr hW hK
        have er : IntKind.i64.wrap ((r : Int) + 1) = ((r + 1 : Nat) : Int) := by rw [wrap64] <;> omega
        conv => whnf
        refine sel_split (fun hq3 => ?_) (fun hq3 => ?_)
        · conv => whnf
          have hq3 : r < 3 := by have : ((r : Nat) : Int) < 3 := of_decide_eq_true hq3; omega
          refine loop_x (V := fun z : Nat × Obs × Ws × Nat => [(11, .val (.int .i64 z.1))]) (O := fun z => z.2.1) (m := fun z => 4 - z.1) (P := fun z => z.1 ≤ 4 ∧ WS 0 y z.2.1 z.2.2.1 z.2.2.2 ∧ Kr (165000 + 6 * r) r z.2.2.1 z.2.2.2 ∧ ∀ f t, f < z.1 → t < 4 → z.2.2.1.w f t = []) ?_ (0, ob2, S2, n) ⟨Nat.zero_le _, hW, hK, fun f t h => absurd h (Nat.not_lt_zero _)⟩ rfl
          clear hW hK
          rintro R2 ⟨f, ob3, S3, n3⟩ ⟨hf, hW, hK, hD⟩ hN2 hE2 hR2
          dsimp only at hf hW hK hD
          have ef : IntKind.i64.wrap ((f : Int) + 1) = ((f + 1 : Nat) : Int) := by rw [wrap64] <;> omega
          conv => whnf
          refine sel_split (fun hq4 => ?_) (fun hq4 => ?_)
          · conv => whnf
            have hf4 : f < 4 := by have : ((f : Nat) : Int) < 4 := of_decide_eq_true hq4; omega
            refine loop_x (V := fun z : Nat × Obs × Ws × Nat => [(12, .val (.int .i64 z.1))]) (O := fun z => z.2.1) (m := fun z => 4 - z.1) (P := fun z => z.1 ≤ 4 ∧ WS 0 y z.2.1 z.2.2.1 z.2.2.2 ∧ Kr (165000 + 6 * r) r z.2.2.1 z.2.2.2 ∧ (∀ f' t', f' < f → t' < 4 → z.2.2.1.w f' t' = []) ∧ ∀ t', t' < z.1 → z.2.2.1.w f t' = []) ?_ (0, ob3, S3, n3) ⟨Nat.zero_le _, hW, hK, hD, fun t h => absurd h (Nat.not_lt_zero _)⟩ rfl
            clear hW hK hD
            rintro R3 ⟨t, ob4, S4, n4⟩ ⟨ht, hW, hK, hD, hD2⟩ hN3 hE3 hR3
            dsimp only at ht hW hK hD hD2
            have et : IntKind.i64.wrap ((t : Int) + 1) = ((t + 1 : Nat) : Int) := by rw [wrap64] <;> omega
            conv => whnf
            refine sel_split (fun hq5 => ?_) (fun hq5 => ?_)
            · conv => whnf
              have ht4 : t < 4 := by have : ((t : Nat) : Int) < 4 := of_decide_eq_true hq5; omega
              refine loop_x (V := fun z : Obs × Ws × Nat => []) (O := fun z => z.1) (m := fun z => (z.2.1.w f t).length) (P := fun z => WS 0 y z.1 z.2.1 z.2.2 ∧ Kr (165000 + 6 * r) r z.2.1 z.2.2 ∧ (∀ f' t', f' < f → t' < 4 → z.2.1.w f' t' = []) ∧ ∀ t', t' < t → z.2.1.w f t' = []) ?_ (ob4, S4, n4) ⟨hW, hK, hD, hD2⟩ rfl
              clear hW hK hD hD2
              rintro R4 ⟨ob5, S5, n5⟩ ⟨hW, hK, hD, hD2⟩ hN4 hE4 hR4
              dsimp only at hW hK hD hD2
              have hnb : n5 ≤ 400000 := by have := hK.pot; omega
              have hOk := hK.good.ok hnb
              obtain ⟨cs5, hob5, hc5⟩ := hW.cell
              have hn5 := hc5.notMap
              have hway : partE false (0 + 4 + (f : Int).toNat * 4 + (t : Int).toNat * 1) 1 cs5 = some (.sl true 0 3 ((S5.w f t).map ntr) []) := by rw [off_eq f t]; exact hc5.way f t hf4 ht4
              have hwl : ((S5.w f t).map ntr).length = (S5.w f t).length := by simp
              conv => whnf
              refine ⟨by omega, ?_⟩
              conv => whnf
              refine ⟨by omega, ?_⟩
              conv => whnf
              refine ⟨_, _, ⟨hob5, hn5, hway⟩, ?_⟩
              conv => whnf
              refine sel_split (fun hq6 => ?_) (fun hq6 => ?_)
              · conv => whnf
                have hq6 := of_decide_eq_true hq6
                rw [hwl] at hq6
                have hne : S5.w f t ≠ [] := by intro e; rw [e] at hq6; exact absurd hq6 (by decide)
                have hft : f ≠ t := by
                  intro e; subst e
                  obtain ⟨q, c, hv⟩ := hK.good
                  exact hne (hv.W.dg f hf4)
                obtain ⟨ob6, u1, u2, u3⟩ := comesS_ok hW f t hf4 ht4 hft (hOk.note f t hf4 ht4 hft) 0 (Nat.le_refl _)
                obtain ⟨v1, v2, v3⟩ := hK.comes f t hf4 ht4 hne
                refine ⟨_, _, u1, fun h => (nomatch h), ?_⟩
                conv => whnf
                refine hN4 (ob6, comesS S5 f t, n5 + 1) _ ⟨u2, v1, fun f' t' g1 g2 => ?_, fun t' g1 => ?_⟩ (by show ((comesS S5 f t).w f t).length < (S5.w f t).length; omega) rfl
                · show (comesS S5 f t).w f' t' = []
                  rw [v2 f' t' (by omega)]; exact hD f' t' g1 g2
                · show (comesS S5 f t).w f t' = []
                  rw [v2 f t' (by omega)]; exact hD2 t' g1
              · conv => whnf
                have hq6 := of_decide_eq_false hq6
                rw [hwl] at hq6
                have hem : S5.w f t = [] := by
                  cases hw : S5.w f t with
                  | nil => rfl
                  | cons m r' => rw [hw] at hq6; exact absurd (show ((m :: r').length : Int) > 0 by simp only [List.length_cons]; omega) hq6
                refine hE4 _ _ ?_
                conv => whnf
                refine hN3 (t + 1, ob5, S5, n5) _ ⟨by show t + 1 ≤ 4; omega, hW, hK, hD, fun t' g1 => ?_⟩ (by show 4 - (t + 1) < 4 - t; omega) ?_
                · by_cases e : t' = t
                  · rw [e]; exact hem
                  · exact hD2 t' (by have : t' < t + 1 := g1; omega)
                · rw [← et]; rfl
            · conv => whnf
              have ht4 : t = 4 := by have : ¬ ((t : Nat) : Int) < 4 := of_decide_eq_false hq5; omega
              subst ht4
              refine hE3 _ _ ?_
              conv => whnf
              refine hN2 (f + 1, ob4, S4, n4) _ ⟨by show f + 1 ≤ 4; omega, hW, hK, fun f' t' g1 g2 => ?_⟩ (by show 4 - (f + 1) < 4 - f; omega) ?_
              · by_cases e : f' = f
                · rw [e]; exact hD2 t' g2
                · exact hD f' t' (by have : f' < f + 1 := g1; omega) g2
              · rw [← ef]; rfl
          · conv => whnf
            have hf4 : f = 4 := by have : ¬ ((f : Nat) : Int) < 4 := of_decide_eq_false hq4; omega
            subst hf4
            refine hE2 _ _ ?_
            conv => whnf
            clear hN2 hE2 hR2 R2
            refine loop_x (V := fun z : Nat × Obs × Ws × Nat => [(13, .val (.int .i64 z.1))]) (O := fun z => z.2.1) (m := fun z => 4 - z.1) (P := fun z => 1 ≤ z.1 ∧ z.1 ≤ 4 ∧ WS 0 y z.2.1 z.2.2.1 z.2.2.2 ∧ Kr (165000 + 6 * r + 2 * (z.1 - 1)) r z.2.2.1 z.2.2.2 ∧ Rl z.1 r z.2.2.1) ?_ (1, ob3, S3, n3) ⟨Nat.le_refl _, by show 1 ≤ 4; omega, hW, hK, Rl.start fun f t f4 t4 => hD f t f4 t4⟩ rfl
            clear hW hK hD
            rintro R5 ⟨g, ob6, S6, n6⟩ ⟨hg1, hg, hW, hK, hL⟩ hN5 hE5 hR5
            dsimp only at hg1 hg hW hK hL
            have eg : IntKind.i64.wrap ((g : Int) + 1) = ((g + 1 : Nat) : Int) := by rw [wrap64] <;> omega
            conv => whnf
            refine sel_split (fun hq7 => ?_) (fun hq7 => ?_)
            · conv => whnf
              have hg4 : g < 4 := by have : ((g : Nat) : Int) < 4 := of_decide_eq_true hq7; omega
              have hnb : n6 ≤ 400000 := by have := hK.pot; omega
              obtain ⟨ob7, d1, d2, d3⟩ := do_ok hW (hK.good.ok hnb) 1 g 0 0 (Nat.le_refl _)
              obtain ⟨k1, k2⟩ := hK.free hL hg1 hg4
              have em : m4 (g : Int) = g := by unfold m4; omega
              have em0 : m4 0 = 0 := rfl
              rw [em, em0] at d2
              refine ⟨_, _, d1, fun h => (nomatch h), ?_⟩
              conv => whnf
              refine hN5 (g + 1, ob7, moveS S6 1 g 0, n6 + 1) _ ⟨by show 1 ≤ g + 1; omega, by show g + 1 ≤ 4; omega, d2, ?_, k2⟩ (by show 4 - (g + 1) < 4 - g; omega) ?_
              · have e9 : 165000 + 6 * r + 2 * (g + 1 - 1) = 165000 + 6 * r + 2 * (g - 1) + 2 := by omega
                show Kr (165000 + 6 * r + 2 * (g + 1 - 1)) r (moveS S6 1 g 0) (n6 + 1)
                rw [e9]; exact k1
              · rw [← eg]; rfl
            · conv => whnf
              have hg4 : g = 4 := by have : ¬ ((g : Nat) : Int) < 4 := of_decide_eq_false hq7; omega
              subst hg4
              refine hE5 _ _ ?_
              conv => whnf
              refine hN (r + 1, ob6, S6, n6) _ ⟨by show r + 1 ≤ 3; omega, hW, ?_⟩ (by show 3 - (r + 1) < 3 - r; omega) ?_
              · have e9 : 165000 + 6 * (r + 1) = 165000 + 6 * r + 2 * (4 - 1) := by omega
                show Kr (165000 + 6 * (r + 1)) (r + 1) S6 n6
                rw [e9]; exact hK.next hL
              · rw [← er]; rfl
        · conv => whnf
          have hr3 : r = 3 := by have : ¬ ((r : Nat) : Int) < 3 := of_decide_eq_false hq3; omega
          subst hr3
          have hnb : n ≤ 400000 := by have := hK.pot; omega
          obtain ⟨hE0, hF⟩ := hK.end
          obtain ⟨q, e1, e2⟩ := exp_ok hW (by omega) (hK.good.eb hnb)
          have hq := e2.2 hE0
          subst hq
          obtain ⟨cs2, hob2, hc2⟩ := hW.cell
          have hn2 := hc2.notMap
          have htab2 : partE false (0 + 0 + Int.toNat 0 * 1) 1 cs2 = some (.optr (0 + 3 + 3 * 0) 0) := hc2.tab 0 (by omega)
          refine hE _ _ ?_
          conv => whnf
          refine ⟨by decide, ?_⟩
          conv => whnf
          refine ⟨_, _, ⟨hob2, hn2, htab2⟩, ?_⟩
          conv => whnf
          refine ⟨_, _, e1 _, fun _ => rfl, ?_⟩
          conv => whnf
          refine ⟨_, _, held0_ok hW (hK.good.ok hnb).len hF _, fun _ => rfl, ?_⟩
          conv => whnf
          exact ⟨rfl, rfl⟩
    · conv => whnf
      refine hE _ _ ?_
      conv => whnf
      clear hN hE hR R
      have hK0 : Kr 165000 0 S i := by
        refine ⟨hG, ?_, fun h => absurd h (by omega), fun h => absurd h (by omega)⟩
        obtain ⟨q, c, hv⟩ := hG
        have hb := hv.W.lb
        have b00 := hb 0 0; have b01 := hb 0 1; have b02 := hb 0 2; have b03 := hb 0 3
        have b10 := hb 1 0; have b11 := hb 1 1; have b12 := hb 1 2; have b13 := hb 1 3
        have b20 := hb 2 0; have b21 := hb 2 1; have b22 := hb 2 2; have b23 := hb 2 3
        have b30 := hb 3 0; have b31 := hb 3 1; have b32 := hb 3 2; have b33 := hb 3 3
        unfold Mw; omega
      refine loop_x (V := fun z : Nat × Obs × Ws × Nat => [(10, .val (.int .i64 z.1))]) (O := fun z => z.2.1) (m := fun z => 3 - z.1) (P := fun z => z.1 ≤ 3 ∧ WS 0 y z.2.1 z.2.2.1 z.2.2.2 ∧ Kr (165000 + 6 * z.1) z.1 z.2.2.1 z.2.2.2) ?_ (0, ob1, S, i) ⟨Nat.zero_le _, hW, hK0⟩ rfl
      clear hW hG hK0 hi hi5
      rintro R ⟨r, ob2, S2, n⟩ ⟨hr, hW, hK⟩ hN hE hR
      dsimp only at hr hW hK
      have er : IntKind.i64.wrap ((r : Int) + 1) = ((r + 1 : Nat) : Int) := by rw [wrap64] <;> omega
      conv => whnf
      refine sel_split (fun hq3 => ?_) (fun hq3 => ?_)
      · conv => whnf
        have hq3 : r < 3 := by have : ((r : Nat) : Int) < 3 := of_decide_eq_true hq3; omega
        refine loop_x (V := fun z : Nat × Obs × Ws × Nat => [(11, .val (.int .i64 z.1))]) (O := fun z => z.2.1) (m := fun z => 4 - z.1) (P := fun z => z.1 ≤ 4 ∧ WS 0 y z.2.1 z.2.2.1 z.2.2.2 ∧ Kr (165000 + 6 * r) r z.2.2.1 z.2.2.2 ∧ ∀ f t, f < z.1 → t < 4 → z.2.2.1.w f t = []) ?_ (0, ob2, S2, n) ⟨Nat.zero_le _, hW, hK, fun f t h => absurd h (Nat.not_lt_zero _)⟩ rfl
        clear hW hK
        rintro R2 ⟨f, ob3, S3, n3⟩ ⟨hf, hW, hK, hD⟩ hN2 hE2 hR2
        dsimp only at hf hW hK hD
        have ef : IntKind.i64.wrap ((f : Int) + 1) = ((f + 1 : Nat) : Int) := by rw [wrap64] <;> omega
        conv => whnf
        refine sel_split (fun hq4 => ?_) (fun hq4 => ?_)
        · conv => whnf
          have hf4 : f < 4 := by have : ((f : Nat) : Int) < 4 := of_decide_eq_true hq4; omega
          refine loop_x (V := fun z : Nat × Obs × Ws × Nat => [(12, .val (.int .i64 z.1))]) (O := fun z => z.2.1) (m := fun z => 4 - z.1) (P := fun z => z.1 ≤ 4 ∧ WS 0 y z.2.1 z.2.2.1 z.2.2.2 ∧ Kr (165000 + 6 * r) r z.2.2.1 z.2.2.2 ∧ (∀ f' t', f' < f → t' < 4 → z.2.2.1.w f' t' = []) ∧ ∀ t', t' < z.1 → z.2.2.1.w f t' = []) ?_ (0, ob3, S3, n3) ⟨Nat.zero_le _, hW, hK, hD, fun t h => absurd h (Nat.not_lt_zero _)⟩ rfl
          clear hW hK hD
          rintro R3 ⟨t, ob4, S4, n4⟩ ⟨ht, hW, hK, hD, hD2⟩ hN3 hE3 hR3
          dsimp only at ht hW hK hD hD2
          have et : IntKind.i64.wrap ((t : Int) + 1) = ((t + 1 : Nat) : Int) := by rw [wrap64] <;> omega
          conv => whnf
          refine sel_split (fun hq5 => ?_) (fun hq5 => ?_)
          · conv => whnf
            have ht4 : t < 4 := by have : ((t : Nat) : Int) < 4 := of_decide_eq_true hq5; omega
            refine loop_x (V := fun z : Obs × Ws × Nat => []) (O := fun z => z.1) (m := fun z => (z.2.1.w f t).length) (P := fun z => WS 0 y z.1 z.2.1 z.2.2 ∧ Kr (165000 + 6 * r) r z.2.1 z.2.2 ∧ (∀ f' t', f' < f → t' < 4 → z.2.1.w f' t' = []) ∧ ∀ t', t' < t → z.2.1.w f t' = []) ?_ (ob4, S4, n4) ⟨hW, hK, hD, hD2⟩ rfl
            clear hW hK hD hD2
            rintro R4 ⟨ob5, S5, n5⟩ ⟨hW, hK, hD, hD2⟩ hN4 hE4 hR4
            dsimp only at hW hK hD hD2
            have hnb : n5 ≤ 400000 := by have := hK.pot; omega
            have hOk := hK.good.ok hnb
            obtain ⟨cs5, hob5, hc5⟩ := hW.cell
            have hn5 := hc5.notMap
            have hway : partE false (0 + 4 + (f : Int).toNat * 4 + (t : Int).toNat * 1) 1 cs5 = some (.sl true 0 3 ((S5.w f t).map ntr) []) := by rw [off_eq f t]; exact hc5.way f t hf4 ht4
            have hwl : ((S5.w f t).map ntr).length = (S5.w f t).length := by simp
            conv => whnf
            refine ⟨by omega, ?_⟩
            conv => whnf
            refine ⟨by omega, ?_⟩
            conv => whnf
            refine ⟨_, _, ⟨hob5, hn5, hway⟩, ?_⟩
            conv => whnf
            refine sel_split (fun hq6 => ?_) (fun hq6 => ?_)
            · conv => whnf
              have hq6 := of_decide_eq_true hq6
              rw [hwl] at hq6
              have hne : S5.w f t ≠ [] := by intro e; rw [e] at hq6; exact absurd hq6 (by decide)
              have hft : f ≠ t := by
                intro e; subst e
                obtain ⟨q, c, hv⟩ := hK.good
                exact hne (hv.W.dg f hf4)
              obtain ⟨ob6, u1, u2, u3⟩ := comesS_ok hW f t hf4 ht4 hft (hOk.note f t hf4 ht4 hft) 0 (Nat.le_refl _)
              obtain ⟨v1, v2, v3⟩ := hK.comes f t hf4 ht4 hne
              refine ⟨_, _, u1, fun h => (nomatch h), ?_⟩
              conv => whnf
              refine hN4 (ob6, comesS S5 f t, n5 + 1) _ ⟨u2, v1, fun f' t' g1 g2 => ?_, fun t' g1 => ?_⟩ (by show ((comesS S5 f t).w f t).length < (S5.w f t).length; omega) rfl
              · show (comesS S5 f t).w f' t' = []
                rw [v2 f' t' (by omega)]; exact hD f' t' g1 g2
              · show (comesS S5 f t).w f t' = []
                rw [v2 f t' (by omega)]; exact hD2 t' g1
            · conv => whnf
              have hq6 := of_decide_eq_false hq6
              rw [hwl] at hq6
              have hem : S5.w f t = [] := by
                cases hw : S5.w f t with
                | nil => rfl
                | cons m r' => rw [hw] at hq6; exact absurd (show ((m :: r').length : Int) > 0 by simp only [List.length_cons]; omega) hq6
              refine hE4 _ _ ?_
              conv => whnf
              refine hN3 (t + 1, ob5, S5, n5) _ ⟨by show t + 1 ≤ 4; omega, hW, hK, hD, fun t' g1 => ?_⟩ (by show 4 - (t + 1) < 4 - t; omega) ?_
              · by_cases e : t' = t
                · rw [e]; exact hem
                · exact hD2 t' (by have : t' < t + 1 := g1; omega)
              · rw [← et]; rfl
          · conv => whnf
            have ht4 : t = 4 := by have : ¬ ((t : Nat) : Int) < 4 := of_decide_eq_false hq5; omega
            subst ht4
            refine hE3 _ _ ?_
            conv => whnf
            refine hN2 (f + 1, ob4, S4, n4) _ ⟨by show f + 1 ≤ 4; omega, hW, hK, fun f' t' g1 g2 => ?_⟩ (by show 4 - (f + 1) < 4 - f; omega) ?_
            · by_cases e : f' = f
              · rw [e]; exact hD2 t' g2
              · exact hD f' t' (by have : f' < f + 1 := g1; omega) g2
            · rw [← ef]; rfl
        · conv => whnf
          have hf4 : f = 4 := by have : ¬ ((f : Nat) : Int) < 4 := of_decide_eq_false hq4; omega
          subst hf4
          refine hE2 _ _ ?_
          conv => whnf
          clear hN2 hE2 hR2 R2
          refine loop_x (V := fun z : Nat × Obs × Ws × Nat => [(13, .val (.int .i64 z.1))]) (O := fun z => z.2.1) (m := fun z => 4 - z.1) (P := fun z => 1 ≤ z.1 ∧ z.1 ≤ 4 ∧ WS 0 y z.2.1 z.2.2.1 z.2.2.2 ∧ Kr (165000 + 6 * r + 2 * (z.1 - 1)) r z.2.2.1 z.2.2.2 ∧ Rl z.1 r z.2.2.1) ?_ (1, ob3, S3, n3) ⟨Nat.le_refl _, by show 1 ≤ 4; omega, hW, hK, Rl.start fun f t f4 t4 => hD f t f4 t4⟩ rfl
          clear hW hK hD
          rintro R5 ⟨g, ob6, S6, n6⟩ ⟨hg1, hg, hW, hK, hL⟩ hN5 hE5 hR5
          dsimp only at hg1 hg hW hK hL
          have eg : IntKind.i64.wrap ((g : Int) + 1) = ((g + 1 : Nat) : Int) := by rw [wrap64] <;> omega
          conv => whnf
          refine sel_split (fun hq7 => ?_) (fun hq7 => ?_)
          · conv => whnf
            have hg4 : g < 4 := by have : ((g : Nat) : Int) < 4 := of_decide_eq_true hq7; omega
            have hnb : n6 ≤ 400000 := by have := hK.pot; omega
            obtain ⟨ob7, d1, d2, d3⟩ := do_ok hW (hK.good.ok hnb) 1 g 0 0 (Nat.le_refl _)
            obtain ⟨k1, k2⟩ := hK.free hL hg1 hg4
            have em : m4 (g : Int) = g := by unfold m4; omega
            have em0 : m4 0 = 0 := rfl
            rw [em, em0] at d2
            refine ⟨_, _, d1, fun h => (nomatch h), ?_⟩
            conv => whnf
            refine hN5 (g + 1, ob7, moveS S6 1 g 0, n6 + 1) _ ⟨by show 1 ≤ g + 1; omega, by show g + 1 ≤ 4; omega, d2, ?_, k2⟩ (by show 4 - (g + 1) < 4 - g; omega) ?_
            · have e9 : 165000 + 6 * r + 2 * (g + 1 - 1) = 165000 + 6 * r + 2 * (g - 1) + 2 := by omega
              show Kr (165000 + 6 * r + 2 * (g + 1 - 1)) r (moveS S6 1 g 0) (n6 + 1)
              rw [e9]; exact k1
            · rw [← eg]; rfl
          · conv => whnf
            have hg4 : g = 4 := by have : ¬ ((g : Nat) : Int) < 4 := of_decide_eq_false hq7; omega
            subst hg4
            refine hE5 _ _ ?_
            conv => whnf
            refine hN (r + 1, ob6, S6, n6) _ ⟨by show r + 1 ≤ 3; omega, hW, ?_⟩ (by show 3 - (r + 1) < 3 - r; omega) ?_
            · have e9 : 165000 + 6 * (r + 1) = 165000 + 6 * r + 2 * (4 - 1) := by omega
              show Kr (165000 + 6 * (r + 1)) (r + 1) S6 n6
              rw [e9]; exact hK.next hL
            · rw [← er]; rfl
      · conv => whnf
        have hr3 : r = 3 := by have : ¬ ((r : Nat) : Int) < 3 := of_decide_eq_false hq3; omega
        subst hr3
        have hnb : n ≤ 400000 := by have := hK.pot; omega
        obtain ⟨hE0, hF⟩ := hK.end
        obtain ⟨q, e1, e2⟩ := exp_ok hW (by omega) (hK.good.eb hnb)
        have hq := e2.2 hE0
        subst hq
        obtain ⟨cs2, hob2, hc2⟩ := hW.cell
        have hn2 := hc2.notMap
        have htab2 : partE false (0 + 0 + Int.toNat 0 * 1) 1 cs2 = some (.optr (0 + 3 + 3 * 0) 0) := hc2.tab 0 (by omega)
        refine hE _ _ ?_
        conv => whnf
        refine ⟨by decide, ?_⟩
        conv => whnf
        refine ⟨_, _, ⟨hob2, hn2, htab2⟩, ?_⟩
        conv => whnf
        refine ⟨_, _, e1 _, fun _ => rfl, ?_⟩
        conv => whnf
        refine ⟨_, _, held0_ok hW (hK.good.ok hnb).len hF _, fun _ => rfl, ?_⟩
        conv => whnf
        exact ⟨rfl, rfl⟩
end Tree.R16
