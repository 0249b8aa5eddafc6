/- Layer 2: the document's next token. -/
import Derived.Test.YtkbpkiebcghghaaDoorL2E
set_option autoImplicit false
set_option linter.unusedVariables false
set_option linter.unusedSimpArgs false
namespace Tree.X02
open Go
set_option maxHeartbeats 8000000
set_option maxRecDepth 100000
theorem nextR_ok (s : ByteArray) (hs : s.size ≤ 281474976710656) (a : Nat) (ha : a ≤ s.size) (ob : Obs) (pb : Nat) : Gives env2 340 [.str s, .int .i64 a] ob pb (Nx.lv .i64 (nextN s a), ob) := by
  have hlen := len_eq s
  have g1 := fun ob pb => begin_ok s (by omega) a ob pb
  have q1 := skip_le (l := s.data.toList) (i := a) (by omega)
  obtain ⟨r, hr⟩ : ∃ r, r = nextN s a := ⟨_, rfl⟩
  rw [← hr]
  unfold nextN at hr
  dsimp only at hr
  generalize skipL s.data.toList a = b at g1 q1 hr
  have g2 := fun (h : b < s.size) ob pb => globR_ok s hs b h ob pb
  have g3 := fun (h : b ≤ s.size) ob pb => digits_ok s (by omega) b h ob pb
  have q3 := span_le (p := dig) (l := s.data.toList) (i := b)
  have q4 := span_le (p := wrd) (l := s.data.toList) (i := b)
  generalize spanL dig s.data.toList b = jd at g3 q3 hr
  generalize hjw : spanL wrd s.data.toList b = jw at q4 hr
  have e1 : IntKind.i64.wrap ((jw : Int) - b) = ((jw - b : Nat) : Int) := by rw [wrap64] <;> omega
  by_cases hb0 : b = s.size
  · rw [List.getElem?_eq_none (by omega)] at hr
    dsimp only at hr
    subst hr
    refine gives_code (f := tf340) rfl ?_
    conv => whnf
    refine sel_f (by simp; omega) ?_
    conv => whnf
    refine ⟨_, _, g1 _ _, fun _ => rfl, ?_⟩
    conv => whnf
    refine sel_t (by simp; omega) ?_
    conv => whnf
    exact ⟨rfl, rfl, rfl⟩
  have hb1 : b < s.size := by omega
  obtain ⟨c, hc⟩ : ∃ c, s.data.toList[b]? = some c := ⟨_, List.getElem?_eq_getElem (show b < s.data.toList.length by omega)⟩
  rw [hc] at hr
  dsimp only at hr
  have d1 := fun ob pb => digR_ok c ob pb
  have d2 := fun ob pb => capR_ok c ob pb
  have d3 := fun ob pb => smlR_ok c ob pb
  have x63 : c.toNat = 63 → dig c = false ∧ cap c = false ∧ sml c = false := fun h => by simp [dig, cap, sml, h]
  have xdg : dig c = true → cap c = false ∧ sml c = false := fun h => by
    have := dig_iff.1 h
    constructor
    · cases hq : cap c with
      | false => rfl
      | true => have := cap_iff.1 hq; omega
    · cases hq : sml c with
      | false => rfl
      | true => have := sml_iff.1 hq; omega
  have xcs : cap c = true → sml c = false := fun h => by
    have := cap_iff.1 h
    cases hq : sml c with
    | false => rfl
    | true => have := sml_iff.1 hq; omega
  generalize dig c = xd at hr d1 x63 xdg
  generalize cap c = xc at hr d2 x63 xdg xcs
  generalize sml c = xs at hr d3 x63 xdg xcs
  have g3 := g3 (by omega)
  generalize okD (digs s.data.toList b) = ok at hr g3
  generalize capV 0 (digs s.data.toList b) = vv at hr g3
  have g2 := g2 hb1
  generalize globS s b = gg at g2 hr
  generalize hsg : sgnS s b = sg at hr
  -- words
  have h18 : sgL.length = 18 := rfl
  refine gives_code (f := tf340) rfl ?_
  conv => whnf
  refine sel_f (by simp; omega) ?_
  conv => whnf
  refine ⟨_, _, g1 _ _, fun _ => rfl, ?_⟩
  conv => whnf
  refine sel_f (by simp; omega) ?_
  conv => whnf
  refine ⟨c, ⟨by omega, hc⟩, ?_⟩
  conv => whnf
  refine ⟨_, _, d3 _ _, fun _ => rfl, ?_⟩
  cases xs with
  | true =>
    obtain rfl : xc = false := by
      cases xc with
      | false => rfl
      | true => exact absurd (xcs rfl) (by simp)
    obtain rfl : xd = false := by
      cases xd with
      | false => rfl
      | true => exact absurd (xdg rfl).2 (by simp)
    rw [if_neg (by intro h; have := x63 h; simp at this), if_neg (by simp), if_neg (by simp), if_pos rfl] at hr
    conv => whnf
    refine loop_v (V := fun i : Nat => [(8, .int .i64 i)]) (O := fun _ => ob) (m := fun i => s.size - i) (P := fun i => spanL wrd s.data.toList b = spanL wrd s.data.toList i) ?_ b rfl rfl
    intro R i hi hN hE hR
    have hfin : spanL wrd s.data.toList i = i → jw = i := fun h => by rw [← hjw, hi, h]
    conv => whnf
    refine sel_split (fun h => ?_) (fun h => ?_)
    · conv => whnf
      have h := of_decide_eq_true h
      obtain ⟨d, hd⟩ : ∃ b, s.data.toList[i]? = some b := ⟨_, List.getElem?_eq_getElem (show i < s.data.toList.length by omega)⟩
      have e : IntKind.i64.wrap ((i : Int) + 1) = ((i + 1 : Nat) : Int) := by rw [wrap64] <;> omega
      have w1 := fun ob pb => digR_ok d ob pb
      have w2 := fun ob pb => capR_ok d ob pb
      have w3 := fun ob pb => smlR_ok d ob pb
      have hw : wrd d = (sml d || cap d || dig d) := rfl
      have hstop : wrd d = false → jw = i := fun h => hfin (span_stop fun c hc => by rw [hd] at hc; cases hc; exact h)
      have hgo : wrd d = true → spanL wrd s.data.toList b = spanL wrd s.data.toList (i + 1) := fun h => by rw [hi]; exact span_step hd h
      generalize wrd d = xw at hw hstop hgo
      generalize dig d = yd at w1 hw
      generalize cap d = yc at w2 hw
      generalize sml d = ys at w3 hw
      refine ⟨d, ⟨by omega, hd⟩, ?_⟩
      conv => whnf
      refine ⟨_, _, w3 _ _, fun _ => rfl, ?_⟩
      cases ys with
      | true =>
        conv => whnf
        refine hN (i + 1) _ (hgo hw) (by omega) ?_
        rw [← e]; rfl
      | false =>
        conv => whnf
        refine ⟨d, ⟨by omega, hd⟩, ?_⟩
        conv => whnf
        refine ⟨_, _, w2 _ _, fun _ => rfl, ?_⟩
        cases yc with
        | true =>
          conv => whnf
          refine hN (i + 1) _ (hgo hw) (by omega) ?_
          rw [← e]; rfl
        | false =>
          conv => whnf
          refine ⟨d, ⟨by omega, hd⟩, ?_⟩
          conv => whnf
          refine ⟨_, _, w1 _ _, fun _ => rfl, ?_⟩
          cases yd with
          | true =>
            conv => whnf
            refine hN (i + 1) _ (hgo hw) (by omega) ?_
            rw [← e]; rfl
          | false =>
            conv => whnf
            refine hE _ _ ?_
            have hj := hstop hw
            subst hj
            clear hN hE hR hgo hstop hfin
            conv => whnf
            rw [e1]
            refine sel_split (fun h => ?_) (fun h => ?_)
            · conv => whnf
              rw [if_pos (by simp at h; omega)] at hr; subst hr
              exact ⟨rfl, rfl, rfl⟩
            · conv => whnf
              rw [if_neg (by simp at h; omega)] at hr; subst hr
              refine ⟨_, _, d2 _ _, fun _ => rfl, ?_⟩
              conv => whnf
              refine ⟨s.extract b jw, ⟨⟨by omega, by omega, by omega⟩, rfl⟩, ?_⟩
              conv => whnf
              exact ⟨rfl, rfl, rfl⟩
    · conv => whnf
      have h := of_decide_eq_false h
      refine hE _ _ ?_
      have hj := hfin (span_stop (fun c hc => by have := (List.getElem?_eq_some_iff.1 hc).1; omega))
      subst hj
      clear hN hE hR hfin
      conv => whnf
      rw [e1]
      refine sel_split (fun h => ?_) (fun h => ?_)
      · conv => whnf
        rw [if_pos (by simp at h; omega)] at hr; subst hr
        exact ⟨rfl, rfl, rfl⟩
      · conv => whnf
        rw [if_neg (by simp at h; omega)] at hr; subst hr
        refine ⟨_, _, d2 _ _, fun _ => rfl, ?_⟩
        conv => whnf
        refine ⟨s.extract b jw, ⟨⟨by omega, by omega, by omega⟩, rfl⟩, ?_⟩
        conv => whnf
        exact ⟨rfl, rfl, rfl⟩
  | false =>
    conv => whnf
    refine ⟨_, _, d2 _ _, fun _ => rfl, ?_⟩
    cases xc with
    | true =>
      obtain rfl : xd = false := by
        cases xd with
        | false => rfl
        | true => exact absurd (xdg rfl).1 (by simp)
      rw [if_neg (by intro h; have := x63 h; simp at this), if_neg (by simp), if_pos rfl] at hr
      conv => whnf
      refine loop_v (V := fun i : Nat => [(8, .int .i64 i)]) (O := fun _ => ob) (m := fun i => s.size - i) (P := fun i => spanL wrd s.data.toList b = spanL wrd s.data.toList i) ?_ b rfl rfl
      intro R i hi hN hE hR
      have hfin : spanL wrd s.data.toList i = i → jw = i := fun h => by rw [← hjw, hi, h]
      conv => whnf
      refine sel_split (fun h => ?_) (fun h => ?_)
      · conv => whnf
        have h := of_decide_eq_true h
        obtain ⟨d, hd⟩ : ∃ b, s.data.toList[i]? = some b := ⟨_, List.getElem?_eq_getElem (show i < s.data.toList.length by omega)⟩
        have e : IntKind.i64.wrap ((i : Int) + 1) = ((i + 1 : Nat) : Int) := by rw [wrap64] <;> omega
        have w1 := fun ob pb => digR_ok d ob pb
        have w2 := fun ob pb => capR_ok d ob pb
        have w3 := fun ob pb => smlR_ok d ob pb
        have hw : wrd d = (sml d || cap d || dig d) := rfl
        have hstop : wrd d = false → jw = i := fun h => hfin (span_stop fun c hc => by rw [hd] at hc; cases hc; exact h)
        have hgo : wrd d = true → spanL wrd s.data.toList b = spanL wrd s.data.toList (i + 1) := fun h => by rw [hi]; exact span_step hd h
        generalize wrd d = xw at hw hstop hgo
        generalize dig d = yd at w1 hw
        generalize cap d = yc at w2 hw
        generalize sml d = ys at w3 hw
        refine ⟨d, ⟨by omega, hd⟩, ?_⟩
        conv => whnf
        refine ⟨_, _, w3 _ _, fun _ => rfl, ?_⟩
        cases ys with
        | true =>
          conv => whnf
          refine hN (i + 1) _ (hgo hw) (by omega) ?_
          rw [← e]; rfl
        | false =>
          conv => whnf
          refine ⟨d, ⟨by omega, hd⟩, ?_⟩
          conv => whnf
          refine ⟨_, _, w2 _ _, fun _ => rfl, ?_⟩
          cases yc with
          | true =>
            conv => whnf
            refine hN (i + 1) _ (hgo hw) (by omega) ?_
            rw [← e]; rfl
          | false =>
            conv => whnf
            refine ⟨d, ⟨by omega, hd⟩, ?_⟩
            conv => whnf
            refine ⟨_, _, w1 _ _, fun _ => rfl, ?_⟩
            cases yd with
            | true =>
              conv => whnf
              refine hN (i + 1) _ (hgo hw) (by omega) ?_
              rw [← e]; rfl
            | false =>
              conv => whnf
              refine hE _ _ ?_
              have hj := hstop hw
              subst hj
              clear hN hE hR hgo hstop hfin
              conv => whnf
              rw [e1]
              refine sel_split (fun h => ?_) (fun h => ?_)
              · conv => whnf
                rw [if_pos (by simp at h; omega)] at hr; subst hr
                exact ⟨rfl, rfl, rfl⟩
              · conv => whnf
                rw [if_neg (by simp at h; omega)] at hr; subst hr
                refine ⟨_, _, d2 _ _, fun _ => rfl, ?_⟩
                conv => whnf
                refine ⟨s.extract b jw, ⟨⟨by omega, by omega, by omega⟩, rfl⟩, ?_⟩
                conv => whnf
                exact ⟨rfl, rfl, rfl⟩
      · conv => whnf
        have h := of_decide_eq_false h
        refine hE _ _ ?_
        have hj := hfin (span_stop (fun c hc => by have := (List.getElem?_eq_some_iff.1 hc).1; omega))
        subst hj
        clear hN hE hR hfin
        conv => whnf
        rw [e1]
        refine sel_split (fun h => ?_) (fun h => ?_)
        · conv => whnf
          rw [if_pos (by simp at h; omega)] at hr; subst hr
          exact ⟨rfl, rfl, rfl⟩
        · conv => whnf
          rw [if_neg (by simp at h; omega)] at hr; subst hr
          refine ⟨_, _, d2 _ _, fun _ => rfl, ?_⟩
          conv => whnf
          refine ⟨s.extract b jw, ⟨⟨by omega, by omega, by omega⟩, rfl⟩, ?_⟩
          conv => whnf
          exact ⟨rfl, rfl, rfl⟩
    | false =>
      conv => whnf
      refine ⟨_, _, d1 _ _, fun _ => rfl, ?_⟩
      cases xd with
      | true =>
        conv => whnf
        rw [if_neg (by intro h; have := x63 h; simp at this), if_pos rfl] at hr
        refine ⟨_, _, g3 _ _, fun _ => rfl, ?_⟩
        cases ok with
        | false =>
          conv => whnf
          rw [if_neg (by simp)] at hr; subst hr
          exact ⟨rfl, rfl, rfl⟩
        | true =>
          conv => whnf
          rw [if_pos rfl] at hr; subst hr
          refine ⟨s.extract b jd, ⟨⟨by omega, by omega, by omega⟩, rfl⟩, ?_⟩
          conv => whnf
          exact ⟨rfl, rfl, rfl⟩
      | false =>
        conv => whnf
        refine sel_split (fun h => ?_) (fun h => ?_)
        · conv => whnf
          rw [if_pos (by simp at h; omega)] at hr
          subst hr
          refine ⟨_, _, g2 _ _, fun _ => rfl, ?_⟩
          conv => whnf
          exact ⟨rfl, rfl, rfl⟩
        conv => whnf
        rw [if_neg (by simp at h; omega), if_neg (by simp), if_neg (by simp), if_neg (by simp)] at hr
        subst hr
        unfold sgnS at hsg
        clear d1 d2 d3 g2 g3 x63 xdg xcs
        refine ⟨_, _, signs_ok _ _, fun _ => rfl, ?_⟩
        conv => whnf
        refine loop_v (V := fun i : Nat => [(14, .int .i64 i)]) (O := fun _ => ob) (m := fun i => 18 - i) (P := fun i => i ≤ 18 ∧ ∀ (j : Nat) u, j < i → sgL[j]? = some u → preB s b u = false) ?_ 0 ⟨by omega, fun j u hj => absurd hj (Nat.not_lt_zero _)⟩ rfl
        rintro R i ⟨hi, hP⟩ hN hE hR
        conv => whnf
        refine sel_split (fun h => ?_) (fun h => ?_)
        · conv => whnf
          have h : i < 18 := by simp at h; omega
          obtain ⟨t, ht⟩ : ∃ t, sgL[i]? = some t := ⟨_, List.getElem?_eq_getElem (show i < sgL.length from h)⟩
          have htm := sg_small t (List.mem_of_getElem? ht)
          have hrow : (sgL.map rw1)[((i : Nat) : Int).toNat]? = some [.str t] := by
            show (sgL.map rw1)[i]? = _
            rw [List.getElem?_map, ht]; rfl
          have e2 : IntKind.i64.wrap ((b : Int) + t.size) = ((b + t.size : Nat) : Int) := by rw [wrap64] <;> omega
          have hpr : preB s b t = (decide (b + t.size ≤ s.size) && ((s.extract b (b + t.size)).toList == t.toList)) := rfl
          refine ⟨_, ⟨by omega, hrow⟩, ?_⟩
          conv => whnf
          rw [e2]
          refine sel_split (fun h1 => ?_) (fun h1 => ?_)
          · conv => whnf
            have h1 : b + t.size ≤ s.size := by simp at h1; omega
            rw [decide_eq_true h1, Bool.true_and] at hpr
            refine ⟨_, ⟨by omega, hrow⟩, ?_⟩
            conv => whnf
            rw [e2]
            refine ⟨s.extract b (b + t.size), ⟨⟨by omega, by omega, by omega⟩, rfl⟩, ?_⟩
            conv => whnf
            refine ⟨_, ⟨by omega, hrow⟩, ?_⟩
            conv => whnf
            refine sel_split (fun h2 => ?_) (fun h2 => ?_)
            · conv => whnf
              rw [find_take hP ht (by rw [hpr]; exact h2)] at hsg
              dsimp only at hsg
              refine ⟨_, ⟨by omega, hrow⟩, ?_⟩
              conv => whnf
              refine ⟨_, ⟨by omega, hrow⟩, ?_⟩
              conv => whnf
              refine hR _ ?_
              conv => whnf
              rw [e2]
              subst hsg
              exact ⟨rfl, rfl, rfl⟩
            · conv => whnf
              have e : IntKind.i64.wrap ((i : Int) + 1) = ((i + 1 : Nat) : Int) := by rw [wrap64] <;> omega
              refine hN (i + 1) _ ⟨by omega, fun j u hj hu => ?_⟩ (by omega) ?_
              · by_cases hji : j = i
                · subst hji; rw [ht] at hu; cases hu; rw [hpr]; exact h2
                · exact hP j u (by omega) hu
              · rw [← e]; rfl
          · conv => whnf
            have h1 : ¬ b + t.size ≤ s.size := by simp at h1; omega
            rw [decide_eq_false h1, Bool.false_and] at hpr
            have e : IntKind.i64.wrap ((i : Int) + 1) = ((i + 1 : Nat) : Int) := by rw [wrap64] <;> omega
            refine hN (i + 1) _ ⟨by omega, fun j u hj hu => ?_⟩ (by omega) ?_
            · by_cases hji : j = i
              · subst hji; rw [ht] at hu; cases hu; exact hpr
              · exact hP j u (by omega) hu
            · rw [← e]; rfl
        · conv => whnf
          have h : i = 18 := by simp at h; omega
          subst h
          rw [find_none hP] at hsg
          dsimp only at hsg
          refine hE _ _ ?_
          conv => whnf
          subst hsg
          exact ⟨rfl, rfl, rfl⟩
end Tree.X02
