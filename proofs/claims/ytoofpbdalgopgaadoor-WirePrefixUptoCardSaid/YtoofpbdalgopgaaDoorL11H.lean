/- Layer 11, WirePrefix: what E answers. -/
import Derived.Test.YtoofpbdalgopgaaDoorL11F
import Derived.Test.YtoofpbdalgopgaaDoorL11G
set_option autoImplicit false
set_option linter.unusedVariables false
set_option linter.unusedSimpArgs false
namespace Tree.W11
open Go
set_option maxHeartbeats 8000000
set_option maxRecDepth 100000
theorem take_snoc {us vs : List Int} {i : Nat} {b : Int} (hu : us[i]? = some b) (hv : vs[i]? = some b) (h : us.take i = vs.take i) : us.take (i + 1) = vs.take (i + 1) := by
  rw [List.take_add_one, List.take_add_one, hu, hv, h]
theorem sameB_ok (us vs : List Int) (o1 : Bool) (sp : List (List LV)) (hl : us.length ≤ 4611686018427387904) (hl2 : vs.length ≤ 4611686018427387904) (ob : Obs) (pb : Nat) (r : Bool) (hr : r = true ↔ us = vs) : Gives env11 120 [slB o1 us, .sl false 0 1 (vs.map brw) sp] ob pb (.bool r, ob) := by
  have hlu : (us.map brw).length = us.length := by simp
  have hlv : (vs.map brw).length = vs.length := by simp
  have hb : ∀ {l : List Int} {i : Nat} {b : Int}, l[i]? = some b → (l.map brw)[i]? = some [.int .u8 b] := fun h => by rw [List.getElem?_map, h]; rfl
  refine gives_code (f := tf120) rfl ?_
  conv => whnf
  by_cases hlen : us.length = vs.length
  · refine sel_f (by simp [hlen]) ?_
    conv => whnf
    refine loop_v (V := fun i : Nat => [(5, .int .i64 i)]) (O := fun _ => ob) (m := fun i => us.length - i) (P := fun i => i ≤ us.length ∧ us.take i = vs.take i) ?_ 0 ⟨Nat.zero_le _, rfl⟩ rfl
    rintro R i ⟨hi, hP⟩ hN hE hR
    conv => whnf
    refine sel_split (fun h => ?_) (fun h => ?_)
    · conv => whnf
      have h := of_decide_eq_true h
      rw [hlu] at h
      obtain ⟨v, hv⟩ : ∃ v, us[i]? = some v := ⟨_, List.getElem?_eq_getElem (show i < us.length by omega)⟩
      obtain ⟨u, hu⟩ : ∃ v, vs[i]? = some v := ⟨_, List.getElem?_eq_getElem (show i < vs.length by omega)⟩
      have e : IntKind.i64.wrap ((i : Int) + 1) = ((i + 1 : Nat) : Int) := by rw [wrap64] <;> omega
      refine ⟨_, ⟨by omega, hb hv⟩, ?_⟩
      conv => whnf
      refine ⟨_, ⟨by omega, hb hu⟩, ?_⟩
      conv => whnf
      by_cases hvu : v = u
      · subst hvu
        refine sel_f (by simp) ?_
        conv => whnf
        refine hN (i + 1) _ ⟨by omega, take_snoc hv hu hP⟩ (by omega) ?_
        rw [← e]; rfl
      · refine sel_t (by simpa using hvu) ?_
        conv => whnf
        refine hR _ ?_
        conv => whnf
        refine ⟨rfl, bool_of hr ⟨fun e => (nomatch e), fun h => ?_⟩, rfl⟩
        rw [h, hu] at hv; injection hv with hv; exact absurd hv.symm hvu
    · conv => whnf
      have h := of_decide_eq_false h
      rw [hlu] at h
      have : i = us.length := by omega
      subst this
      rw [List.take_length, hlen, List.take_length] at hP
      refine hE _ _ ?_
      conv => whnf
      exact ⟨rfl, bool_of hr ⟨fun _ => hP, fun _ => rfl⟩, rfl⟩
  · refine sel_t (by simp only [bne_iff_ne, hlu, hlv, ne_eq]; omega) ?_
    conv => whnf
    exact ⟨rfl, bool_of hr ⟨fun e => (nomatch e), fun h => absurd (congrArg List.length h) hlen⟩, rfl⟩
theorem encP_ok {r : Bool} {m : M} (h : (encP r m).2 = 0) : r = true ∧ (encP r m).1 = msgB m := by
  unfold encP at h ⊢
  cases r with
  | false => simp at h
  | true =>
    simp only [if_true] at h ⊢
    split at h
    · simp at h
    · rename_i hh; rw [if_neg hh]; exact ⟨trivial, rfl⟩
theorem prefix_law (m : M) (l1 : Nat) (s1 : List (List LV)) (l2 : Nat) (s2 : List (List LV)) (hc : m.cs.length ≤ 1048576) (hf : ∀ c ∈ m.cs, c.fine) (hb : m.bits.length ≤ 1048576) (hs1 : ∀ n, LV.noRefss n s1 = true) (hs2 : ∀ n, LV.noRefss n s2 = true)
    (n : M) (k1 : Nat) (u1 : List (List LV)) (k2 : Nat) (u2 : List (List LV)) (hc' : n.cs.length ≤ 1048576) (hf' : ∀ c ∈ n.cs, c.fine) (hb' : n.bits.length ≤ 1048576) (hu1 : ∀ n, LV.noRefss n u1 = true) (hu2 : ∀ n, LV.noRefss n u2 = true) : ∃ ob', Gives env11 594 [m.lv l1 s1 l2 s2, n.lv k1 u1 k2 u2] [] 0 (.bool true, ob') := by
  obtain ⟨r, hr⟩ := boolOf (RightM m)
  obtain ⟨q, hq⟩ := boolOf (RightM n)
  obtain ⟨ob1, g1⟩ := enc_ok m l1 s1 l2 s2 hc hf hb [] 0 (Nat.le_refl _) r hr hs1 hs2
  obtain ⟨ob2, g2⟩ := enc_ok n k1 u1 k2 u2 hc' hf' hb' [] 0 (Nat.le_refl _) q hq hu1 hu2
  have n1 := encM_noRef r m
  have n2 := encM_noRef q n
  obtain ⟨he, hel⟩ := encM_eq r m
  obtain ⟨he2, hel2⟩ := encM_eq q n
  rw [he] at g1 n1
  rw [he2] at g2 n2
  have g11 := fun pb => live11_ok [] pb
  obtain ⟨x, ex, hx⟩ : ∃ x ex, encP r m = (x, ex) := ⟨_, _, rfl⟩
  obtain ⟨y, ey, hy⟩ : ∃ y ey, encP q n = (y, ey) := ⟨_, _, rfl⟩
  rw [hx] at g1 n1 hel
  rw [hy] at g2 n2 hel2
  have kx := encP_ok (r := r) (m := m)
  have ky := encP_ok (r := q) (m := n)
  rw [hx] at kx
  rw [hy] at ky
  simp only at g1 n1 hel g2 n2 hel2 kx ky
  have hlx : (x.map brw).length = x.length := by simp
  have hly : (y.map brw).length = y.length := by simp
  obtain ⟨p, hp⟩ := boolOf (x = y.take x.length)
  have g12 := fun pb => sameB_ok x (y.take x.length) false ((y.drop x.length).map brw) (by omega) (by rw [List.length_take]; omega) [] pb p hp
  have g13 : p = true → ex = 0 → ey = 0 → ∀ pb, Gives env11 485 [m.lv l1 s1 l2 s2, n.lv k1 u1 k2 u2] [] pb (.bool true, []) := by
    intro h1 h2 h3 pb
    obtain ⟨a1, a2⟩ := kx h2
    obtain ⟨b1, b2⟩ := ky h3
    have h4 : msgB m ++ y.drop x.length = msgB n ++ [] := by
      rw [List.append_nil, ← a2, ← b2, hp.1 h1]
      rw [List.length_take]
      have : min x.length y.length = x.length := by
        have := congrArg List.length (hp.1 h1); rw [List.length_take] at this; omega
      rw [this, List.take_append_drop]
    obtain ⟨h5, _⟩ := msgB_inj (hr.1 a1) (hq.1 b1) h4
    subst h5
    exact sameM_ok m l1 s1 l2 s2 k1 u1 k2 u2 hc hb [] pb
  obtain ⟨tg, v1, v2, gg1, gg2, cs, cn, fl, w, bits⟩ := m
  obtain ⟨tg', v1', v2', gg1', gg2', cs', cn', fl', w', bits'⟩ := n
  refine ⟨[], gives_code (f := tf594) rfl ?_⟩
  conv => whnf
  refine ⟨_, _, g1, fun _ => n1 _, ?_⟩
  conv => whnf
  refine ⟨_, _, g2, fun _ => n2 _, ?_⟩
  conv => whnf
  refine sel_split (fun h => ?_) (fun hex => ?_)
  · conv => whnf
    refine ⟨_, _, g11 _, fun _ => rfl, ?_⟩
    conv => whnf
    exact ⟨rfl, rfl, rfl⟩
  conv => whnf
  refine sel_split (fun h => ?_) (fun hey => ?_)
  · conv => whnf
    refine ⟨_, _, g11 _, fun _ => rfl, ?_⟩
    conv => whnf
    exact ⟨rfl, rfl, rfl⟩
  conv => whnf
  refine sel_split (fun h => ?_) (fun hle => ?_)
  · conv => whnf
    refine ⟨_, _, g11 _, fun _ => rfl, ?_⟩
    conv => whnf
    exact ⟨rfl, rfl, rfl⟩
  have hle := of_decide_eq_false hle
  rw [hlx, hly] at hle
  have hex : ex = 0 := by simpa using hex
  have hey : ey = 0 := by simpa using hey
  conv => whnf
  refine ⟨_, _, g11 _, fun _ => rfl, ?_⟩
  conv => whnf
  refine ⟨(y.take x.length).map brw, (y.drop x.length).map brw, ⟨⟨by omega, by omega, ?_⟩, ?_, ?_⟩, ?_⟩
  · rw [List.append_nil, hlx, hly]; omega
  · rw [List.append_nil, hlx]; simp [List.map_take]
  · rw [List.append_nil, hlx]; simp [List.map_drop]
  conv => whnf
  refine ⟨_, _, g12 _, fun _ => rfl, ?_⟩
  cases p with
  | false =>
    conv => whnf
    exact ⟨rfl, rfl, rfl⟩
  | true =>
    have g14 := g13 rfl hex hey
    conv => whnf
    refine ⟨_, _, g14 _, fun _ => rfl, ?_⟩
    conv => whnf
    exact ⟨rfl, rfl, rfl⟩
end Tree.W11
