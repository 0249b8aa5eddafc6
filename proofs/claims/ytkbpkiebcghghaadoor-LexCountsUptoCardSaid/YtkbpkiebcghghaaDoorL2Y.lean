/- Layer 2: tokens joined with a blank between are these tokens. -/
import Derived.Test.YtkbpkiebcghghaaDoorL2X
import Derived.Lib.Join
set_option autoImplicit false
set_option linter.unusedVariables false
set_option linter.unusedSimpArgs false
namespace Tree.X02
open Go
set_option maxHeartbeats 4000000
set_option maxRecDepth 100000
section
variable {s s' : ByteArray} {b D : Nat} (h : s'.data.toList.drop (b + D) = s.data.toList.drop b)
include h
theorem glob_err {x : Nat} (hx : b ≤ x) : (globS s' (x + D)).2.2 = (globS s x).2.2 := by
  unfold globS
  dsimp only
  have z1 := span_le (p := dig) (l := s.data.toList) (i := x + 1)
  have e0 : x + D + 1 = (x + 1) + D := by omega
  rw [e0, span_shift h dig (by omega)]
  have e1 : spanL dig s.data.toList (x + 1) + D + 1 = (spanL dig s.data.toList (x + 1) + 1) + D := by omega
  rw [e1, span_shift h dig (by omega), digs_shift h (by omega), digs_shift h (by omega), get_shift h (by omega)]
  by_cases c1 : spanL dig s.data.toList (x + 1) = x + 1 ∨ (s.data.toList[spanL dig s.data.toList (x + 1)]?.map (·.toNat)) ≠ some 95
  · rw [if_pos c1, if_pos (by rcases c1 with c1 | c1; exact .inl (by omega); exact .inr c1)]
  · rw [if_neg c1, if_neg (by intro hc; apply c1; rcases hc with hc | hc; exact .inl (by omega); exact .inr hc)]
    by_cases c2 : spanL dig s.data.toList (spanL dig s.data.toList (x + 1) + 1) = spanL dig s.data.toList (x + 1) + 1
    · rw [if_pos c2, if_pos (by omega)]
    · rw [if_neg c2, if_neg (by omega)]
      by_cases c3 : ¬ (okD (digs s.data.toList (x + 1)) = true ∧ okD (digs s.data.toList (spanL dig s.data.toList (x + 1) + 1)) = true)
      · rw [if_pos c3, if_pos c3]
      · rw [if_neg c3, if_neg c3]
theorem next_err (hb : b ≤ s.size) (hb' : b + D ≤ s'.size) {x y : Nat} (hy : b ≤ skipL s.data.toList x) (hyx : skipL s'.data.toList y = skipL s.data.toList x + D) : (nextN s' y).2.2 = (nextN s x).2.2 := by
  unfold nextN
  dsimp only
  rw [hyx]
  generalize skipL s.data.toList x = z at hy ⊢
  rw [get_shift h hy, span_shift h dig hy, span_shift h wrd hy, digs_shift h hy]
  have e1 : spanL wrd s.data.toList z + D - (z + D) = spanL wrd s.data.toList z - z := by omega
  rw [e1]
  cases hc : s.data.toList[z]? with
  | none => rfl
  | some c =>
    dsimp only
    by_cases c1 : c.toNat = 63
    · rw [if_pos c1, if_pos c1]; exact glob_err h hy
    · rw [if_neg c1, if_neg c1]
      by_cases c2 : dig c = true
      · rw [if_pos c2, if_pos c2]; by_cases c3 : okD (digs s.data.toList z) = true
        · rw [if_pos c3, if_pos c3]
        · rw [if_neg c3, if_neg c3]
      · rw [if_neg c2, if_neg c2]
        by_cases c3 : cap c = true
        · rw [if_pos c3, if_pos c3]; by_cases c4 : 16 < spanL wrd s.data.toList z - z
          · rw [if_pos c4, if_pos c4]
          · rw [if_neg c4, if_neg c4]
        · rw [if_neg c3, if_neg c3]
          by_cases c5 : sml c = true
          · rw [if_pos c5, if_pos c5]; by_cases c4 : 16 < spanL wrd s.data.toList z - z
            · rw [if_pos c4, if_pos c4]
            · rw [if_neg c4, if_neg c4]
          · rw [if_neg c5, if_neg c5]
            unfold sgnS
            have ef : sgL.find? (preB s' (z + D)) = sgL.find? (preB s z) := by
              congr 1; funext t; exact pre_shift h hb hb' hy t
            rw [ef]
            cases sgL.find? (preB s z) <;> rfl
end
/-- The same token, but for its place. -/
def atT (p : Int) (t : Tk) : Tk := { t with at_ := p }
/-- Alike texts from two places on have alike tokens there. -/
theorem next_same {s s' : ByteArray} {a p q : Nat} (ha : a ≤ s.size) (hd : s'.data.toList.drop q = s.data.toList.drop (skipL s.data.toList a)) (hp : skipL s'.data.toList p = q) (hq : q ≤ s'.size) (he : (nextN s a).2.2 = 0) :
    nextN s' p = (atT q (nextN s a).1, q + ((nextN s a).2.1 - skipL s.data.toList a), 0) := by
  have hf := next_facts s a ha he
  have hx : skipL s.data.toList a ≤ s.size := by rw [← len_eq]; exact (skip_le (l := s.data.toList) (i := a) (by rw [len_eq]; exact ha)).2
  generalize hxg : skipL s.data.toList a = x at hf hx hd ⊢
  -- a third text in which it stands far behind
  let N := x + q
  let w : ByteArray := ⟨(List.replicate N 0 ++ s.data.toList.drop x).toArray⟩
  have hw : w.data.toList = List.replicate N 0 ++ s.data.toList.drop x := rfl
  have hwd : w.data.toList.drop N = s.data.toList.drop x := by rw [hw, List.drop_left' (by simp)]
  have hws : N ≤ w.size := by rw [← len_eq, hw]; simp
  have hskw : skipL w.data.toList N = N := by
    unfold skipL
    rw [hwd]
    have : skipS false (s.data.toList.drop x) = 0 := by
      have := skip_idem (s.data.toList.drop a) false
      have hn : skipS false (s.data.toList.drop a) = x - a := by unfold skipL at hxg; omega
      rw [hn, List.drop_drop] at this
      rwa [show a + (x - a) = x by unfold skipL at hxg; omega] at this
    omega
  have h1 : w.data.toList.drop (x + q) = s.data.toList.drop x := hwd
  have h2 : w.data.toList.drop (q + x) = s'.data.toList.drop q := by rw [hd, Nat.add_comm q x]; exact hwd
  have n1 := next_shift (s := s) (s' := w) (b := x) (D := q) h1 hx hws (x := a) (y := N) (by rw [hxg]; exact Nat.le_refl _) (by rw [hxg]; exact hskw) he
  have e2 := next_err (s := s') (s' := w) (b := q) (D := x) h2 hq (by rw [Nat.add_comm]; exact hws) (x := p) (y := N) (by rw [hp]; exact Nat.le_refl _) (by rw [hp, Nat.add_comm]; exact hskw)
  rw [n1] at e2
  have n2 := next_shift (s := s') (s' := w) (b := q) (D := x) h2 hq (by rw [Nat.add_comm]; exact hws) (x := p) (y := N) (by rw [hp]; exact Nat.le_refl _) (by rw [hp, Nat.add_comm]; exact hskw) e2.symm
  rw [n1] at n2
  have e3 := e2.symm
  generalize nextN s' p = r at n2 e3 ⊢
  obtain ⟨t, k, e⟩ := r
  generalize hr : nextN s a = r0 at n2 hf ⊢
  obtain ⟨t0, k0, e0⟩ := r0
  dsimp only at n2 hf e3 ⊢
  injection n2 with m1 m2
  injection m2 with m2 m3
  obtain ⟨a1, a2, a3, a4, a5⟩ := t
  obtain ⟨b1, b2, b3, b4, b5⟩ := t0
  unfold shT at m1
  dsimp only at m1 hf
  injection m1 with m4 m5 m6 m7 m8
  subst m4; subst m5; subst m6; subst m7
  unfold atT
  dsimp only
  have hk : k = q + (k0 - x) := by omega
  have h5 : a5 = (q : Int) := by omega
  subst h5
  rw [hk]
  have he0 : e = 0 := e3
  rw [he0]
/-- The texts of tokens. -/
def txt (ts : List Tk) : List (List UInt8) := (ts.map fun t => t.text.data.toList).filter (!·.isEmpty)
def jn (xs : List (List UInt8)) : List UInt8 := Lib.join xs [32]
theorem txt_get {s : ByteArray} {a : Nat} (ha : a ≤ s.size) (he : (nextN s a).2.2 = 0) (hk : (nextN s a).1.k ≠ 0) : (nextN s a).1.text.data.toList = (s.data.toList.drop (skipL s.data.toList a)).take ((nextN s a).2.1 - skipL s.data.toList a) ∧ (nextN s a).1.text.data.toList ≠ [] := by
  have hf := next_facts s a ha he
  have hg := next_gt s a ha he hk
  have hp := next_prog s a ha he
  rw [← hf.2.2.1, ext_list]
  refine ⟨rfl, ?_⟩
  intro h
  have := congrArg List.length h
  rw [List.length_take, List.length_drop, len_eq, List.length_nil] at this
  omega
theorem end_text {s : ByteArray} {a : Nat} (he : (nextN s a).2.2 = 0) (hk : (nextN s a).1.k = 0) : (nextN s a).1 = ⟨0, ⟨#[]⟩, 0, 0, (skipL s.data.toList a : Nat)⟩ := by
  obtain ⟨r, hr⟩ : ∃ r, r = nextN s a := ⟨_, rfl⟩
  rw [← hr] at he hk ⊢
  unfold nextN at hr
  dsimp only at hr
  generalize skipL s.data.toList a = b at hr ⊢
  split at hr
  · subst hr; rfl
  · split at hr
    · unfold globS at hr
      dsimp only at hr
      (repeat' split at hr) <;> subst hr <;> first | (exfalso; simp at he; done) | (exfalso; simp at hk; done)
    · split at hr
      · split at hr <;> subst hr <;> first | (exfalso; simp at he; done) | (exfalso; simp at hk; done)
      · split at hr
        · split at hr <;> subst hr <;> first | (exfalso; simp at he; done) | (exfalso; simp at hk; done)
        · split at hr
          · split at hr <;> subst hr <;> first | (exfalso; simp at he; done) | (exfalso; simp at hk; done)
          · unfold sgnS at hr
            split at hr <;> subst hr <;> first | (exfalso; simp at he; done) | (exfalso; simp at hk; done)
theorem txt_cons (t : Tk) (ts : List Tk) (h : t.text.data.toList ≠ []) : txt (t :: ts) = t.text.data.toList :: txt ts := by
  unfold txt
  rw [List.map_cons, List.filter_cons]
  have : (!t.text.data.toList.isEmpty) = true := by cases hq : t.text.data.toList <;> simp_all
  rw [if_pos this]
theorem txt_end (t : Tk) (ts : List Tk) (h : t.text.data.toList = []) : txt (t :: ts) = txt ts := by
  unfold txt
  rw [List.map_cons, List.filter_cons, h]
  rfl
/-- Alike but for the places. -/
def alikeT (t u : Tk) : Prop := u.k = t.k ∧ u.text = t.text ∧ u.n = t.n ∧ u.node = t.node
theorem back_lx {s : ByteArray} {a : Nat} {ts : List Tk} {e p : Nat} (hL : Lx s a ts e p) : ∀ {y : ByteArray} {q : Nat}, e = 0 → a ≤ s.size → q ≤ y.size → (y.data.toList.drop q = jn (txt ts) ∨ (txt ts ≠ [] ∧ y.data.toList.drop q = 32 :: jn (txt ts))) →
    ∃ us, Lx y q us 0 0 ∧ us.length = ts.length ∧ ∀ (j : Nat) t, ts[j]? = some t → ∃ u, us[j]? = some u ∧ alikeT t u := by
  induction hL with
  | bad _ he => intro y q h0; exact absurd h0 he
  | @stop a r hn he hk =>
    intro y q _ ha hq hd
    have het : r.1 = ⟨0, ⟨#[]⟩, 0, 0, (skipL s.data.toList a : Nat)⟩ := by rw [← hn]; exact end_text (by rw [hn]; exact he) (by rw [hn]; exact hk)
    have ht : txt [r.1] = [] := txt_end _ _ (by rw [het])
    rw [ht] at hd
    have hd : y.data.toList.drop q = [] := by
      rcases hd with hd | ⟨hd, _⟩
      · exact hd
      · exact absurd rfl hd
    have hqs : q = y.size := by
      have := congrArg List.length hd
      rw [List.length_drop, len_eq, List.length_nil] at this; omega
    have hsk : skipL y.data.toList q = q := skip_stop fun c hc => by
      rw [List.getElem?_eq_none (by rw [len_eq]; omega)] at hc; cases hc
    have hy : nextN y q = (⟨0, ⟨#[]⟩, 0, 0, q⟩, q, 0) := by
      unfold nextN
      dsimp only
      rw [hsk, List.getElem?_eq_none (by rw [len_eq]; omega)]
    refine ⟨_, .stop hy rfl rfl, rfl, fun j t hj => ?_⟩
    cases j with
    | zero =>
      simp only [List.getElem?_cons_zero, Option.some.injEq] at hj
      subst hj
      rw [het]
      exact ⟨_, rfl, rfl, rfl, rfl, rfl⟩
    | succ j => simp at hj
  | @go a r ts' e p hn he hk ht ih =>
    intro y q h0 ha hq hd
    have he' : (nextN s a).2.2 = 0 := by rw [hn]; exact he
    have hk' : (nextN s a).1.k ≠ 0 := by rw [hn]; exact hk
    obtain ⟨t1, t2⟩ := txt_get ha he' hk'
    have hf := next_facts s a ha he'
    have hg := next_gt s a ha he' hk'
    have hpr := next_prog s a ha he'
    rw [hn] at t1 t2 hf hg hpr
    have htx := txt_cons r.1 ts' t2
    rw [htx] at hd
    -- what stands behind the token
    obtain ⟨Z, hZ, hZ2⟩ : ∃ Z, jn (r.1.text.data.toList :: txt ts') = r.1.text.data.toList ++ Z ∧ (Z = jn (txt ts') ∧ txt ts' = [] ∨ (txt ts' ≠ [] ∧ Z = 32 :: jn (txt ts'))) := by
      cases hx : txt ts' with
      | nil => exact ⟨[], by rw [jn, Lib.join_one, List.append_nil], .inl ⟨rfl, rfl⟩⟩
      | cons x xs => exact ⟨32 :: jn (x :: xs), by rw [jn, jn, Lib.join_cons, Lib.join_cons]; simp [Lib.joinTail], .inr ⟨by simp, rfl⟩⟩
    rw [hZ] at hd
    generalize hxg : skipL s.data.toList a = x at t1 hf hg
    have hxs : x ≤ s.size := by omega
    -- the token's text, and Z behind it
    let v : ByteArray := ⟨(s.data.toList.take r.2.1 ++ Z).toArray⟩
    have hv : v.data.toList = s.data.toList.take r.2.1 ++ Z := rfl
    have htl : (s.data.toList.take r.2.1).length = r.2.1 := by rw [List.length_take, len_eq]; omega
    have hvs : v.size = r.2.1 + Z.length := by rw [← len_eq, hv, List.length_append, htl]
    have hvt : s.data.toList.take r.2.1 = v.data.toList.take r.2.1 := by rw [hv, List.take_left' htl]
    have hvb : ∀ c, v.data.toList[r.2.1]? = some c → c = 32 := by
      intro c hc
      rw [hv, List.getElem?_append_right (by omega), htl, Nat.sub_self] at hc
      rcases hZ2 with ⟨h1, h2⟩ | ⟨_, h1⟩
      · rw [h1, h2] at hc; simp [jn, Lib.join_nil] at hc
      · rw [h1] at hc; simpa using hc.symm
    have hax : a ≤ x := by unfold skipL at hxg; omega
    have hl := next_local hvt hvb a (by omega) hpr.1 he' hk' (by rw [hn]; exact Nat.le_refl _)
    rw [hn] at hl
    have hskv : skipL v.data.toList a = x := by rw [skip_local hvt r.2.1 a (by omega) (by omega) (by rw [hxg]; exact hg), hxg]
    have hvd : v.data.toList.drop x = r.1.text.data.toList ++ Z := by
      rw [hv, List.drop_append_of_le_length (by omega), List.drop_take, t1]
    -- where it stands in y
    have hz0 : skipS false (r.1.text.data.toList ++ Z) = 0 := by
      rw [← hvd]
      have := skip_idem (v.data.toList.drop a) false
      have hn : skipS false (v.data.toList.drop a) = x - a := by unfold skipL at hskv; omega
      rw [hn, List.drop_drop] at this
      rwa [show a + (x - a) = x by omega] at this
    obtain ⟨q', hq1, hq2, hq3⟩ : ∃ q', y.data.toList.drop q' = r.1.text.data.toList ++ Z ∧ skipL y.data.toList q = q' ∧ q' ≤ y.size := by
      rcases hd with hd | ⟨_, hd⟩
      · refine ⟨q, hd, ?_, hq⟩
        unfold skipL; rw [hd, hz0, Nat.add_zero]
      · have hlen := congrArg List.length hd
        rw [List.length_drop, len_eq, List.length_cons] at hlen
        refine ⟨q + 1, ?_, ?_, by omega⟩
        · rw [← List.drop_drop, hd]; rfl
        · have hb : blk 32 = true := by decide
          unfold skipL; rw [hd, skipS, if_pos hb, hz0]
    have hys := congrArg List.length hq1
    rw [List.length_drop, len_eq, List.length_append, len_eq] at hys
    have n1 := next_same (s := v) (s' := y) (a := a) (p := q) (q := q') (by omega) (by rw [hskv, hvd]; exact hq1) hq2 hq3 (by rw [hl]; exact he)
    rw [hl, hskv] at n1
    have hsz : r.2.1 - x = r.1.text.size := by omega
    obtain ⟨us, u1, u2, u3⟩ := ih (y := y) (q := q' + (r.2.1 - x)) h0 hpr.1 (by omega) (by
      have hdd : y.data.toList.drop (q' + (r.2.1 - x)) = Z := by
        rw [← List.drop_drop, hq1, List.drop_left' (by rw [len_eq]; omega)]
      rw [hdd]
      rcases hZ2 with ⟨h1, h2⟩ | h1
      · exact .inl h1
      · exact .inr h1)
    refine ⟨atT q' r.1 :: us, .go n1 rfl hk u1, by rw [List.length_cons, List.length_cons, u2], fun j t hj => ?_⟩
    cases j with
    | zero =>
      simp only [List.getElem?_cons_zero, Option.some.injEq] at hj
      subst hj
      exact ⟨_, rfl, rfl, rfl, rfl, rfl⟩
    | succ j => exact u3 j t hj
end Tree.X02
