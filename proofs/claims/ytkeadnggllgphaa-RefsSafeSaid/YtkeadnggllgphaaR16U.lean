/- RefsSafe: a message comes. -/
import Derived.Test.YtkeadnggllgphaaR16T
set_option autoImplicit false
set_option linter.unusedVariables false
set_option linter.unusedSimpArgs false
namespace Tree.R16
open Go Tree
set_option maxHeartbeats 8000000
set_option maxRecDepth 100000
def dE (y : Int) (E : Int → Int) : K3 → Int := fun k => if k.1 = 0 ∧ k.2.1 = y then E k.2.2 else 0
def dH (y h : Int) : K3 → Int := fun k => if k = (0, y, 0) then h else 0
theorem TB.congr {n : Nat} {me : Int} {ob : Obs} {D G D' G' : K3 → Int} {L : Nat} (h : TB n me ob D G L) (h1 : ∀ k, D k = D' k) (h2 : ∀ k, G k = G' k) : TB n me ob D' G' L := by
  have e1 : D = D' := funext h1
  have e2 : G = G' := funext h2
  rw [← e1, ← e2]; exact h
theorem TB.frame {n : Nat} {me : Int} {ob ob' : Obs} {D G : K3 → Int} {L : Nat} (h : TB n me ob D G L) (hf : ∀ j, n ≤ j → j ≤ n + 2 → ob'[j]? = ob[j]?) : TB n me ob' D G L := by
  obtain ⟨c, es, ci, is, h1, h2, h3, h4⟩ := h
  exact ⟨c, es, ci, is, by rw [hf n (by omega) (by omega)]; exact h1, by rw [hf (n + 1) (by omega) (by omega)]; exact h2, by rw [hf (n + 2) (by omega) (by omega)]; exact h3, h4⟩
/-- Four nodes and their ways in the objects at a. -/
structure WI (a : Nat) (y : Int) (ob : Obs) (E : Int → Int) (H : Nat → Int) (w : Ways) (L : Nat) : Prop where
  cell : ∃ cs, ob[a]? = some cs ∧ WC cs a w
  t0 : TB (a + 1) 0 ob (dE y E) (fun _ => 0) L
  ti : ∀ i : Nat, 1 ≤ i → i < 4 → TB (a + 1 + 3 * i) i ob (fun _ => 0) (dH y (H i)) L
theorem WI.mono {a : Nat} {y : Int} {ob : Obs} {E : Int → Int} {H : Nat → Int} {w : Ways} {L L' : Nat} (h : WI a y ob E H w L) (hl : L ≤ L') : WI a y ob E H w L' :=
  ⟨h.cell, h.t0.mono hl, fun i h1 h2 => (h.ti i h1 h2).mono hl⟩
theorem WI.setW {a : Nat} {y : Int} {ob : Obs} {E : Int → Int} {H : Nat → Int} {w w' : Ways} {L : Nat} (h : WI a y ob E H w L) {cs : List LV} (hc : WC cs a w') : WI a y (ob.set a cs) E H w' L := by
  obtain ⟨cs0, h1, _⟩ := h.cell
  have hid : a < ob.length := (List.getElem?_eq_some_iff.1 h1).1
  exact ⟨⟨cs, List.getElem?_set_self hid, hc⟩, h.t0.frame fun j h1 h2 => List.getElem?_set_ne (by omega), fun i h1 h2 => (h.ti i h1 h2).frame fun j h3 h4 => List.getElem?_set_ne (by omega)⟩
theorem WI.set0 {a : Nat} {y : Int} {ob ob' : Obs} {E E' : Int → Int} {H : Nat → Int} {w : Ways} {L L' : Nat} (h : WI a y ob E H w L) (hl : L ≤ L') (hk : Keep (a + 1) ob ob') (ht : TB (a + 1) 0 ob' (dE y E') (fun _ => 0) L') : WI a y ob' E' H w L' := by
  obtain ⟨cs, h1, h2⟩ := h.cell
  exact ⟨⟨cs, by rw [hk.2 a (by omega) (by omega)]; exact h1, h2⟩, ht, fun i h3 h4 => ((h.ti i h3 h4).frame fun j h5 h6 => hk.2 j (by omega) (by omega)).mono hl⟩
def upH (H : Nat → Int) (i : Nat) (h : Int) : Nat → Int := fun i' => if i' = i then h else H i'
theorem WI.setI {a : Nat} {y : Int} {ob ob' : Obs} {E : Int → Int} {H : Nat → Int} {w : Ways} {L L' : Nat} (h : WI a y ob E H w L) (hl : L ≤ L') (i : Nat) (hi : 1 ≤ i) (hi4 : i < 4) (v : Int) (hk : Keep (a + 1 + 3 * i) ob ob') (ht : TB (a + 1 + 3 * i) i ob' (fun _ => 0) (dH y v) L') : WI a y ob' E (upH H i v) w L' := by
  obtain ⟨cs, h1, h2⟩ := h.cell
  refine ⟨⟨cs, by rw [hk.2 a (by omega) (by omega)]; exact h1, h2⟩, (h.t0.frame fun j h5 h6 => hk.2 j (by omega) (by omega)).mono hl, fun i' h3 h4 => ?_⟩
  unfold upH
  by_cases e : i' = i
  · subst e; rw [if_pos rfl]; exact ht
  · rw [if_neg e]; exact ((h.ti i' h3 h4).frame fun j h5 h6 => hk.2 j (by omega) (by omega)).mono hl
def upE (E : Int → Int) (j by_ : Int) : Int → Int := fun j' => if j' = j then E j' + by_ else E j'
theorem dE_up (y : Int) (E : Int → Int) (j by_ : Int) (k : K3) : upD (dE y E) (0, y, j) by_ k = dE y (upE E j by_) k := by
  obtain ⟨k1, k2, k3⟩ := k
  unfold upD dE upE
  simp only [Prod.mk.injEq]
  by_cases h1 : k1 = 0 ∧ k2 = y
  · rw [if_pos h1, if_pos h1]
    by_cases h2 : k3 = j
    · rw [if_pos ⟨h1.1, h1.2, h2⟩, if_pos h2]
    · rw [if_neg (fun q => h2 q.2.2), if_neg h2]; omega
  · rw [if_neg h1, if_neg h1, if_neg (fun q => h1 ⟨q.1, q.2.1⟩)]; omega
theorem dH_up (y h by_ : Int) (k : K3) : upD (dH y h) (0, y, 0) by_ k = dH y (h + by_) k := by
  unfold upD dH
  by_cases h1 : k = (0, y, 0)
  · rw [if_pos h1, if_pos h1, if_pos h1]
  · rw [if_neg h1, if_neg h1, if_neg h1]; omega
theorem dH_off (y h : Int) (k : K3) : offD (dH y h) (0, y, 0) k = dH y 0 k := by
  unfold offD dH
  by_cases h1 : k = (0, y, 0)
  · rw [if_pos h1, if_pos h1]
  · rw [if_neg h1, if_neg h1, if_neg h1]
/-- What a message makes. -/
def cE (E : Int → Int) (f t : Nat) (m : Nte) : Int → Int := if m.1 = 1 then upE E m.2.1 1 else if m.1 = 2 then upE E f (-m.2.2) else E
def cH (H : Nat → Int) (f t : Nat) (m : Nte) : Nat → Int := if m.1 = 0 ∧ t ≠ 0 then upH H t (H t + 1) else H
/-- A message that may be on a way. -/
def okN (f t : Nat) (m : Nte) : Prop := m.1 = 0 ∨ (t = 0 ∧ m.1 = 1 ∧ 1 ≤ m.2.1 ∧ m.2.1 < 4) ∨ (t = 0 ∧ f ≠ 0 ∧ m.1 = 2 ∧ 1 ≤ m.2.2 ∧ m.2.2 ≤ 2147483647)
theorem drop1 (m : Nte) (r : List Nte) : (((m :: r).map ntr ++ []).take ((m :: r).map ntr).length).drop 1 = r.map ntr := by
  rw [List.append_nil, List.take_length]; rfl
theorem drop2 (m : Nte) (r : List Nte) : ((m :: r).map ntr ++ []).drop ((m :: r).map ntr).length = [] := by
  simp
theorem comes0_ok {a : Nat} {y : Int} {ob : Obs} {E : Int → Int} {H : Nat → Int} {w : Ways} {L : Nat} (h : WI a y ob E H w L) (f t : Nat) (hf : f < 4) (ht : t < 4) (he : w f t = []) (pb : Nat) :
    Gives env16z 403 [.optr a 0, .agg (nr3 (0, y)), .int .i64 f, .int .i64 t] ob pb (.tup [], ob) := by
  obtain ⟨cs, hob, hc⟩ := h.cell
  have hn := hc.notMap
  have hw := hc.way f t hf ht
  have eo := off_eq f t
  have hp : partE false (0 + 4 + (f : Int).toNat * 4 + (t : Int).toNat * 1) 1 cs = some (.sl true 0 3 [] []) := by rw [eo]; rw [he] at hw; exact hw
  refine gives_code (f := tf403) rfl ?_
  conv => whnf
  refine ⟨by omega, ?_⟩
  conv => whnf
  refine ⟨by omega, ?_⟩
  conv => whnf
  refine ⟨_, _, ⟨hob, hn, hp⟩, ?_⟩
  conv => whnf
  exact ⟨rfl, rfl, rfl⟩
theorem comes_ok {a : Nat} {y : Int} {ob : Obs} {E : Int → Int} {H : Nat → Int} {w : Ways} {L : Nat} (h : WI a y ob E H w L) (f t : Nat) (hf : f < 4) (ht : t < 4) (m : Nte) (r : List Nte) (he : w f t = m :: r) (hm : okN f t m) (hft : f ≠ t) (pb : Nat) (hpb : pb ≤ a) :
    ∃ ob', Gives env16z 403 [.optr a 0, .agg (nr3 (0, y)), .int .i64 f, .int .i64 t] ob pb (.tup [], ob') ∧ WI a y ob' (cE E f t m) (cH H f t m) (upW w f t r) (L + 1) ∧ ob'.length = ob.length := by
  obtain ⟨cs, hob, hc⟩ := h.cell
  have hn := hc.notMap
  have hw := hc.way f t hf ht
  have eo := off_eq f t
  have hid : a < ob.length := (List.getElem?_eq_some_iff.1 hob).1
  have hg1 : ∀ c : List LV, (ob.set a c)[a]? = some c := fun c => List.getElem?_set_self hid
  have hp : partE false (0 + 4 + (f : Int).toNat * 4 + (t : Int).toNat * 1) 1 cs = some (.sl true 0 3 ((m :: r).map ntr) []) := by rw [eo]; rw [he] at hw; exact hw
  have hs := fun v => put_off (cs := cs) (c := 4 + 4 * f + t) (by rw [hc.len]; omega) v
  rw [← eo] at hs
  have hnm : isMapC (cs.modify (0 + 4 + (f : Int).toNat * 4 + (t : Int).toNat * 1) LV.bare1) = false := notMap_mod (by omega) hn
  have hc2 := hc.put f t hf ht r
  have h2 := h.setW hc2
  rw [← eo] at h2
  have hn2 := hc2.notMap
  rw [← eo] at hc2 hn2
  have htab : partE false (0 + 0 + (t : Int).toNat * 1) 1 (cs.set (0 + 4 + (f : Int).toNat * 4 + (t : Int).toNat * 1) (.sl true 0 3 (r.map ntr) [])) = some (.optr (a + 3 + 3 * t) 0) := by
    have : 0 + 0 + (t : Int).toNat * 1 = t := by omega
    rw [this]; exact hc2.tab t ht
  have hd1 := drop1 m r
  have hd2 := drop2 m r
  have key : ∃ r0 ob', (r0 = .tup [] ∧ WI a y ob' (cE E f t m) (cH H f t m) (upW w f t r) (L + 1) ∧ ob'.length = ob.length) ∧ Gives env16z 403 [.optr a 0, .agg (nr3 (0, y)), .int .i64 f, .int .i64 t] ob pb (r0, ob') := by
    refine gives_codeQ (f := tf403) rfl ?_
    conv => whnf
    refine ⟨by omega, ?_⟩
    conv => whnf
    refine ⟨by omega, ?_⟩
    conv => whnf
    refine ⟨_, _, ⟨hob, hn, hp⟩, ?_⟩
    conv => whnf
    refine ⟨by omega, ?_⟩
    conv => whnf
    refine ⟨by omega, ?_⟩
    conv => whnf
    refine ⟨_, _, ⟨hob, hn, hp⟩, ?_⟩
    conv => whnf
    refine ⟨_, ⟨by decide, rfl⟩, ?_⟩
    conv => whnf
    refine ⟨by omega, ?_⟩
    conv => whnf
    refine ⟨by omega, ?_⟩
    conv => whnf
    refine ⟨_, _, ⟨hob, hn, hp⟩, ?_⟩
    conv => whnf
    refine ⟨r.map ntr, [], ⟨⟨by omega, ?_, ?_⟩, hd1.symm, hd2.symm⟩, ?_⟩
    · simp; omega
    · simp
    conv => whnf
    refine ⟨by omega, ?_⟩
    conv => whnf
    refine ⟨by omega, ?_⟩
    conv => whnf
    refine .inl ⟨_, _, _, _, ⟨hpb, hob, hp⟩, ?_⟩
    conv => whnf
    refine ⟨_, _, ⟨hpb, hg1 _, hnm, hs _⟩, ?_⟩
    conv => whnf
    rw [List.set_set]
    have hob1 := hg1 (cs.set (0 + 4 + (f : Int).toNat * 4 + (t : Int).toNat * 1) (.sl true 0 3 (r.map ntr) []))
    have hlen1 : (ob.set a (cs.set (0 + 4 + (f : Int).toNat * 4 + (t : Int).toNat * 1) (.sl true 0 3 (r.map ntr) []))).length = ob.length := by simp
    generalize ob.set a (cs.set (0 + 4 + (f : Int).toNat * 4 + (t : Int).toNat * 1) (.sl true 0 3 (r.map ntr) [])) = ob1 at h2 hob1 hlen1
    rcases hm with hk | ⟨rfl, hk, hh1, hh2⟩ | ⟨rfl, hf0, hk, hh1, hh2⟩
    · refine sel_t (by rw [hk]; rfl) ?_
      conv => whnf
      refine ⟨by omega, ?_⟩
      conv => whnf
      refine ⟨_, _, ⟨hob1, hn2, htab⟩, ?_⟩
      conv => whnf
      by_cases t0 : t = 0
      · subst t0
        obtain ⟨ob2, z, s1, s2, s3⟩ := got_ok h2.t0 0 false [(0, y)] [] (by show 1 ≤ 1099511627776; omega) pb (by omega)
        refine ⟨_, _, s1, fun h => (nomatch h), ?_⟩
        conv => whnf
        refine ⟨rfl, rfl, ?_, by rw [s3.1, hlen1]⟩
        have e1 : cE E f 0 m = E := by unfold cE; rw [if_neg (by omega), if_neg (by omega)]
        have e2 : cH H f 0 m = H := by unfold cH; rw [if_neg (by omega)]
        rw [e1, e2]
        exact h2.set0 (by omega) s3 s2
      · obtain ⟨ob2, z, s1, s2, s3⟩ := got_ok (h2.ti t (by omega) ht) 0 false [(0, y)] [] (by show 1 ≤ 1099511627776; omega) pb (by omega)
        have ea : a + 3 + 3 * t = a + 1 + 3 * t + 2 := by omega
        rw [ea]
        refine ⟨_, _, s1, fun h => (nomatch h), ?_⟩
        conv => whnf
        refine ⟨rfl, rfl, ?_, by rw [s3.1, hlen1]⟩
        have e1 : cE E f t m = E := by unfold cE; rw [if_neg (by omega), if_neg (by omega)]
        have e2 : cH H f t m = upH H t (H t + 1) := by unfold cH; rw [if_pos ⟨hk, t0⟩]
        rw [e1, e2]
        refine h2.setI (by omega) t (by omega) ht _ s3 (s2.congr (fun _ => rfl) fun k => ?_)
        have e3 : ([(0, y)].any fun x : NV3 => !isB 4 x.1) = false := rfl
        rw [e3, if_neg (by decide)]
        show (if (0 : Int) = (t : Int) then dH y (H t) else upD (dH y (H t)) (0, y, 0) 1) k = _
        rw [if_neg (by omega), dH_up]
    · refine sel_f (by rw [hk]; rfl) ?_
      conv => whnf
      refine sel_t (by rw [hk]; rfl) ?_
      conv => whnf
      refine ⟨by omega, ?_⟩
      conv => whnf
      refine ⟨_, _, ⟨hob1, hn2, htab⟩, ?_⟩
      conv => whnf
      obtain ⟨ob2, s1, s2, s3⟩ := added_ok h2.t0 (0, y) m.2.1 pb (by omega)
      refine ⟨_, _, s1, fun h => (nomatch h), ?_⟩
      conv => whnf
      refine ⟨rfl, rfl, ?_, by rw [s3.1, hlen1]⟩
      have e1 : cE E f 0 m = upE E m.2.1 1 := by unfold cE; rw [if_pos hk]
      have e2 : cH H f 0 m = H := by unfold cH; rw [if_neg (by omega)]
      rw [e1, e2]
      have e3 : eAdded 0 (0, y) m.2.1 = 0 := by
        unfold eAdded isB
        rw [decide_eq_true (by omega : 0 ≤ m.2.1), decide_eq_true (by omega : m.2.1 < 4)]; rfl
      rw [e3, if_pos ⟨rfl, by omega⟩] at s2
      exact h2.set0 (by omega) s3 (s2.congr (fun k => dE_up y E _ _ k) fun _ => rfl)
    · refine sel_f (by rw [hk]; rfl) ?_
      conv => whnf
      refine sel_f (by rw [hk]; rfl) ?_
      conv => whnf
      refine sel_t (by rw [hk]; rfl) ?_
      conv => whnf
      refine ⟨by omega, ?_⟩
      conv => whnf
      refine ⟨_, _, ⟨hob1, hn2, htab⟩, ?_⟩
      conv => whnf
      obtain ⟨ob2, s1, s2, s3⟩ := released_ok h2.t0 (0, y) f m.2.2 pb (by omega)
      refine ⟨_, _, s1, fun h => (nomatch h), ?_⟩
      conv => whnf
      refine ⟨rfl, rfl, ?_, by rw [s3.1, hlen1]⟩
      have e1 : cE E f 0 m = upE E f (-m.2.2) := by unfold cE; rw [if_neg (by omega), if_pos hk]
      have e2 : cH H f 0 m = H := by unfold cH; rw [if_neg (by omega)]
      rw [e1, e2]
      have e3 : eRel 0 (0, y) f m.2.2 = 0 := by
        unfold eRel otherB isB
        rw [decide_eq_true (by omega : 0 ≤ (f : Int)), decide_eq_true (by omega : (f : Int) < 4), decide_eq_false (by omega : ¬ m.2.2 < 1), decide_eq_false (by omega : ¬ m.2.2 > 2147483647), show ((f : Int) != 0) = true from by simp; omega]; rfl
      rw [e3, if_pos rfl] at s2
      exact h2.set0 (by omega) s3 (s2.congr (fun k => dE_up y E _ _ k) fun _ => rfl)
  obtain ⟨r0, ob', ⟨rfl, h5, h6⟩, h7⟩ := key
  exact ⟨ob', h7, h5, h6⟩
end Tree.R16
