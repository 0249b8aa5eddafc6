/- Layer 2: signs; the next token, by both. -/
import Derived.Test.YtlfifgganibjiaaDoorL2D
set_option autoImplicit false
set_option linter.unusedVariables false
set_option linter.unusedSimpArgs false
namespace Tree.X02
open Go
set_option maxHeartbeats 8000000
set_option maxRecDepth 100000
def sgL : List ByteArray := [⟨#[61, 58, 61]⟩, ⟨#[61, 92, 61]⟩, ⟨#[58, 45]⟩, ⟨#[58, 61]⟩, ⟨#[61, 60]⟩, ⟨#[62, 61]⟩, ⟨#[40]⟩, ⟨#[41]⟩, ⟨#[44]⟩, ⟨#[46]⟩, ⟨#[124]⟩, ⟨#[64]⟩, ⟨#[61]⟩, ⟨#[43]⟩, ⟨#[45]⟩, ⟨#[42]⟩, ⟨#[60]⟩, ⟨#[62]⟩]
theorem sg_small : ∀ t ∈ sgL, 1 ≤ t.size ∧ t.size ≤ 3 := by decide
/-- A sign stands at a place. -/
def preB (s : ByteArray) (a : Nat) (t : ByteArray) : Bool := decide (a + t.size ≤ s.size) && ((s.extract a (a + t.size)).toList == t.toList)
def sgnS (s : ByteArray) (a : Nat) : Nx := match sgL.find? (preB s a) with
  | some t => (⟨5, t, 0, 0, a⟩, a + t.size, 0)
  | none => (tk0, a, 20)
def nextN (s : ByteArray) (a : Nat) : Nx :=
  let l := s.data.toList
  let b := skipL l a
  match l[b]? with
  | none => (⟨0, ⟨#[]⟩, 0, 0, b⟩, b, 0)
  | some c =>
    if c.toNat = 63 then globS s b else
    if dig c = true then (if okD (digs l b) = true then (⟨3, s.extract b (spanL dig l b), capV 0 (digs l b), 0, b⟩, spanL dig l b, 0) else (tk0, b, 21)) else
    if cap c = true then (if 16 < spanL wrd l b - b then (tk0, b, 5) else (⟨2, s.extract b (spanL wrd l b), 0, 0, b⟩, spanL wrd l b, 0)) else
    if sml c = true then (if 16 < spanL wrd l b - b then (tk0, b, 5) else (⟨1, s.extract b (spanL wrd l b), 0, 0, b⟩, spanL wrd l b, 0)) else
    sgnS s b
theorem ba_ext {a b : ByteArray} (h : a.data.toList = b.data.toList) : a = b := by
  obtain ⟨⟨x⟩⟩ := a; obtain ⟨⟨y⟩⟩ := b
  simp only at h; subst h; rfl
theorem ext_ext (s : ByteArray) (a k : Nat) (h : a + k ≤ s.size) : (s.extract a s.size).extract 0 k = s.extract a (a + k) := by
  apply ba_ext
  rw [ext_list, ext_list, ext_list, List.drop_zero, List.take_take]
  congr 1
  omega
theorem ext_size (s : ByteArray) (a : Nat) : (s.extract a s.size).size = s.size - a := by
  rw [← len_eq, ext_list, List.length_take, List.length_drop, len_eq]; omega
theorem prefix_ok (u t : ByteArray) (ob : Obs) (pb : Nat) : Gives env2 608 [.str u, .str t] ob pb (.bool (decide (t.size ≤ u.size) && ((u.extract 0 t.size).toList == t.toList)), ob) := by
  have key : ∀ ob pb, Gives env2 369 [.str u, .str t] ob pb (.bool (decide (t.size ≤ u.size) && ((u.extract 0 t.size).toList == t.toList)), ob) := by
    intro ob pb
    refine gives_code (f := tf369) rfl ?_
    conv => whnf
    refine sel_split (fun h => ?_) (fun h => ?_)
    · conv => whnf
      have h : t.size ≤ u.size := by simp at h; omega
      refine ⟨u.extract 0 t.size, ⟨⟨by omega, by omega, by omega⟩, rfl⟩, ?_⟩
      conv => whnf
      rw [decide_eq_true h]
      exact ⟨rfl, rfl, rfl⟩
    · conv => whnf
      have h : ¬ t.size ≤ u.size := by simp at h; omega
      rw [decide_eq_false h]
      exact ⟨rfl, rfl, rfl⟩
  refine gives_code (f := tf608) rfl ?_
  conv => whnf
  refine ⟨_, _, key _ _, fun _ => rfl, ?_⟩
  conv => whnf
  exact ⟨rfl, rfl, rfl⟩
theorem pre_at (s t : ByteArray) (a : Nat) (ha : a ≤ s.size) : (decide (t.size ≤ (s.extract a s.size).size) && (((s.extract a s.size).extract 0 t.size).toList == t.toList)) = preB s a t := by
  unfold preB
  rw [ext_size]
  by_cases h : a + t.size ≤ s.size
  · rw [decide_eq_true (by omega), decide_eq_true h, ext_ext s a _ h]
  · rw [decide_eq_false (by omega), decide_eq_false h]; rfl
theorem find_take {s : ByteArray} {a i : Nat} {t : ByteArray} (hN : ∀ (j : Nat) u, j < i → sgL[j]? = some u → preB s a u = false) (ht : sgL[i]? = some t) (h : preB s a t = true) : sgL.find? (preB s a) = some t := by
  rw [List.find?_eq_some_iff_getElem]
  obtain ⟨hi, e⟩ := List.getElem?_eq_some_iff.1 ht
  refine ⟨h, i, hi, e, fun j hj => ?_⟩
  rw [hN j _ hj (List.getElem?_eq_getElem (by omega))]; rfl
theorem find_none {s : ByteArray} {a : Nat} (hN : ∀ (j : Nat) u, j < 18 → sgL[j]? = some u → preB s a u = false) : sgL.find? (preB s a) = none := by
  rw [List.find?_eq_none]
  intro t ht
  obtain ⟨j, hj⟩ := List.mem_iff_getElem?.1 ht
  have : j < 18 := (List.getElem?_eq_some_iff.1 hj).1
  rw [hN j t this hj]; simp
theorem next_ok (s : ByteArray) (hs : s.size ≤ 281474976710656) (a : Nat) (ha : a ≤ s.size) (ob : Obs) (pb : Nat) : Gives env2 339 [.str s, .int .i64 a] ob pb (Nx.lv .u8 (nextN s a), ob) := by
  have hlen := len_eq s
  have g1 := fun ob pb => skip_ok s (by omega) a ob pb
  have q1 := skip_le (l := s.data.toList) (i := a) (by omega)
  obtain ⟨r, hr⟩ : ∃ r, r = nextN s a := ⟨_, rfl⟩
  rw [← hr]
  unfold nextN at hr
  dsimp only at hr
  generalize skipL s.data.toList a = b at g1 q1 hr
  have g2 := fun (h : b < s.size) ob pb => glob_ok s hs b h ob pb
  have g3 := fun ob pb => span_ok 348 dig dig_ok s (by omega) b ob pb
  have g4 := fun ob pb => span_ok 354 wrd wrd_ok s (by omega) b ob pb
  have g5 := numAt s hs b
  have q3 := span_le (p := dig) (l := s.data.toList) (i := b)
  have q4 := span_le (p := wrd) (l := s.data.toList) (i := b)
  have hstep : ∀ c, s.data.toList[b]? = some c → dig c = true → spanL dig s.data.toList b ≠ b := fun c hc hd => by
    rw [span_step hc hd]; have := span_le (p := dig) (l := s.data.toList) (i := b + 1); omega
  generalize spanL dig s.data.toList b = jd at g3 q3 g5 hr hstep
  generalize spanL wrd s.data.toList b = jw at g4 q4 hr
  have e1 : IntKind.i64.wrap ((jw : Int) - b) = ((jw - b : Nat) : Int) := by rw [wrap64] <;> omega
  by_cases hb0 : b = s.size
  · rw [List.getElem?_eq_none (by omega)] at hr
    dsimp only at hr
    subst hr
    refine gives_code (f := tf339) rfl ?_
    conv => whnf
    refine sel_f (by simp; omega) ?_
    conv => whnf
    refine ⟨_, _, g1 _ _, fun _ => rfl, ?_⟩
    conv => whnf
    refine sel_t (by simp; omega) ?_
    conv => whnf
    exact ⟨rfl, rfl, rfl⟩
  have hb1 : b < s.size := by omega
  obtain ⟨c, hc⟩ : ∃ c, s.data.toList[b]? = some c := ⟨_, List.getElem?_eq_getElem (show b < s.data.toList.length by omega)⟩
  rw [hc] at hr
  dsimp only at hr
  have hstep := hstep c hc
  have d1 := fun ob pb => dig_ok c ob pb
  have d2 := fun ob pb => cap_ok c ob pb
  have d3 := fun ob pb => sml_ok c ob pb
  generalize dig c = xd at hr hstep d1
  generalize cap c = xc at hr d2
  generalize sml c = xs at hr d3
  generalize okD (digs s.data.toList b) = ok at hr g5
  have g2 := g2 hb1
  generalize globS s b = gg at g2 hr
  generalize hsg : sgnS s b = sg at hr
  refine gives_code (f := tf339) rfl ?_
  conv => whnf
  refine sel_f (by simp; omega) ?_
  conv => whnf
  refine ⟨_, _, g1 _ _, fun _ => rfl, ?_⟩
  conv => whnf
  refine sel_f (by simp; omega) ?_
  conv => whnf
  refine ⟨c, ⟨by omega, hc⟩, ?_⟩
  conv => whnf
  refine sel_split (fun h => ?_) (fun h => ?_)
  · conv => whnf
    rw [if_pos (by simp at h; omega)] at hr
    subst hr
    refine ⟨_, _, g2 _ _, fun _ => rfl, ?_⟩
    conv => whnf
    exact ⟨rfl, rfl, rfl⟩
  conv => whnf
  rw [if_neg (by simp at h; omega)] at hr
  clear h
  refine ⟨_, _, d1 _ _, fun _ => rfl, ?_⟩
  cases xd with
  | true =>
    conv => whnf
    rw [if_pos rfl] at hr
    refine ⟨_, _, g3 _ _, fun _ => rfl, ?_⟩
    conv => whnf
    obtain ⟨n, m1, gn⟩ := g5 (hstep rfl)
    refine ⟨s.extract b jd, ⟨⟨by omega, by omega, by omega⟩, rfl⟩, ?_⟩
    conv => whnf
    refine ⟨_, _, gn _ _, fun _ => rfl, ?_⟩
    cases ok with
    | false =>
      conv => whnf
      rw [if_neg (by simp)] at hr; subst hr
      exact ⟨rfl, rfl, rfl⟩
    | true =>
      conv => whnf
      rw [if_pos rfl] at hr; subst hr
      refine ⟨s.extract b jd, ⟨⟨by omega, by omega, by omega⟩, rfl⟩, ?_⟩
      have m1 := m1 rfl
      subst m1
      conv => whnf
      exact ⟨rfl, rfl, rfl⟩
  | false =>
    conv => whnf
    rw [if_neg (by simp)] at hr
    refine ⟨_, _, d2 _ _, fun _ => rfl, ?_⟩
    cases xc with
    | true =>
      conv => whnf
      rw [if_pos rfl] at hr
      refine ⟨_, _, g4 _ _, fun _ => rfl, ?_⟩
      conv => whnf
      rw [e1]
      refine sel_split (fun h => ?_) (fun h => ?_)
      · conv => whnf
        rw [if_pos (by simp at h; omega)] at hr; subst hr
        exact ⟨rfl, rfl, rfl⟩
      · conv => whnf
        rw [if_neg (by simp at h; omega)] at hr; subst hr
        refine ⟨s.extract b jw, ⟨⟨by omega, by omega, by omega⟩, rfl⟩, ?_⟩
        conv => whnf
        exact ⟨rfl, rfl, rfl⟩
    | false =>
      conv => whnf
      rw [if_neg (by simp)] at hr
      refine ⟨_, _, d3 _ _, fun _ => rfl, ?_⟩
      cases xs with
      | true =>
        conv => whnf
        rw [if_pos rfl] at hr
        refine ⟨_, _, g4 _ _, fun _ => rfl, ?_⟩
        conv => whnf
        rw [e1]
        refine sel_split (fun h => ?_) (fun h => ?_)
        · conv => whnf
          rw [if_pos (by simp at h; omega)] at hr; subst hr
          exact ⟨rfl, rfl, rfl⟩
        · conv => whnf
          rw [if_neg (by simp at h; omega)] at hr; subst hr
          refine ⟨s.extract b jw, ⟨⟨by omega, by omega, by omega⟩, rfl⟩, ?_⟩
          conv => whnf
          exact ⟨rfl, rfl, rfl⟩
      | false =>
        conv => whnf
        rw [if_neg (by simp)] at hr
        subst hr
        unfold sgnS at hsg
        clear d1 d2 d3 g2 g3 g4 g5 hstep
        refine loop_v (V := fun i : Nat => [(96, .int .i64 i)]) (O := fun _ => ob) (m := fun i => 18 - i) (P := fun i => i ≤ 18 ∧ ∀ (j : Nat) u, j < i → sgL[j]? = some u → preB s b u = false) ?_ 0 ⟨by omega, fun j u hj => absurd hj (Nat.not_lt_zero _)⟩ rfl
        rintro R i ⟨hi, hP⟩ hN hE hR
        conv => whnf
        refine sel_split (fun h => ?_) (fun h => ?_)
        · conv => whnf
          have h : i < 18 := by simp at h; omega
          obtain ⟨t, ht⟩ : ∃ t, sgL[i]? = some t := ⟨_, List.getElem?_eq_getElem (show i < sgL.length from h)⟩
          have htm := sg_small t (List.mem_of_getElem? ht)
          have hpt : partE false (i * 1) 1 (sgL.map LV.str) = some (.str t) := by
            show (sgL.map LV.str)[i * 1]? = _
            rw [Nat.mul_one, List.getElem?_map, ht]; rfl
          have gpx := fun ob pb => prefix_ok (s.extract b s.size) t ob pb
          rw [pre_at s t b (by omega)] at gpx
          generalize hpr : preB s b t = px at gpx
          refine ⟨.str t, ⟨⟨by omega, by omega⟩, hpt⟩, ?_⟩
          conv => whnf
          refine ⟨s.extract b s.size, ⟨⟨by omega, by omega, by omega⟩, rfl⟩, ?_⟩
          conv => whnf
          refine ⟨_, _, gpx _ _, fun _ => rfl, ?_⟩
          cases px with
          | true =>
            have e2 : IntKind.i64.wrap ((b : Int) + t.size) = ((b + t.size : Nat) : Int) := by rw [wrap64] <;> omega
            rw [find_take hP ht hpr] at hsg
            dsimp only at hsg
            conv => whnf
            refine hR _ ?_
            conv => whnf
            rw [e2]
            subst hsg
            exact ⟨rfl, rfl, rfl⟩
          | false =>
            conv => whnf
            have e : IntKind.i64.wrap ((i : Int) + 1) = ((i + 1 : Nat) : Int) := by rw [wrap64] <;> omega
            refine hN (i + 1) _ ⟨by omega, fun j u hj hu => ?_⟩ (by omega) ?_
            · by_cases hji : j = i
              · subst hji; rw [ht] at hu; cases hu; exact hpr
              · exact hP j u (by omega) hu
            · rw [← e]; rfl
        · conv => whnf
          have h : i = 18 := by simp at h; omega
          subst h
          rw [find_none hP] at hsg
          dsimp only at hsg
          refine hE _ _ ?_
          conv => whnf
          subst hsg
          exact ⟨rfl, rfl, rfl⟩
end Tree.X02
