/- purlinlaw02.LexCounts: how many tokens; the law. -/
import Derived.Test.YtkbpkiebcghghaaDoorL2CO
set_option autoImplicit false
set_option linter.unusedVariables false
set_option linter.unusedSimpArgs false
namespace Tree.X02
open Go
set_option maxHeartbeats 8000000
set_option maxRecDepth 100000
def u8r (x : Int) : List LV := [.int .u8 x]
def i64r (x : Int) : List LV := [.int .i64 x]
def idxG : List Int → Int → Nat → Int
  | [], _, _ => -1
  | x :: r, k, i => if k == x then (i : Int) else idxG r k (i + 1)
theorem idxG_ge : ∀ (l : List Int) (k : Int) (i : Nat), decide (idxG l k i ≥ 0) = l.any (fun x => k == x)
  | [], k, i => rfl
  | x :: r, k, i => by
    rw [idxG, List.any_cons]
    cases hq : (k == x)
    · rw [if_neg (by simp), Bool.false_or]; exact idxG_ge r k (i + 1)
    · rw [if_pos rfl, Bool.true_or]; exact decide_eq_true (by omega)
theorem row_u8 {l : List Int} {i : Nat} {x : Int} (h : l[i]? = some x) : (l.map u8r)[((i : Nat) : Int).toNat]? = some [.int .u8 x] := by
  show (l.map u8r)[i]? = _
  rw [List.getElem?_map, h]; rfl
theorem row_i64 {l : List Int} {i : Nat} {x : Int} (h : l[i]? = some x) : (l.map i64r)[((i : Nat) : Int).toNat]? = some [.int .i64 x] := by
  show (l.map i64r)[i]? = _
  rw [List.getElem?_map, h]; rfl
theorem idx_ok (l : List Int) (hl : l.length ≤ 1099511627776) (k : Int) (o : Bool) (sp : List (List LV)) (ob : Obs) (pb : Nat) : Gives env2s 374 [.sl o 0 1 (l.map u8r) sp, .int .u8 k] ob pb (.int .i64 (idxG l k 0), ob) := by
  have hl1 : (l.map u8r).length = l.length := by simp
  refine gives_code (f := tf374) rfl ?_
  conv => whnf
  refine loop_v (V := fun i : Nat => [(8, .int .i64 i)]) (O := fun _ => ob) (m := fun i => l.length - i) (P := fun i => i ≤ l.length ∧ idxG (l.drop i) k i = idxG l k 0) ?_ 0 ⟨Nat.zero_le _, rfl⟩ rfl
  rintro R i ⟨hi, hg⟩ hN hE hR
  conv => whnf
  refine sel_split (fun h => ?_) (fun h => ?_)
  · conv => whnf
    have h := of_decide_eq_true h
    rw [hl1] at h
    have hlt : i < l.length := by omega
    obtain ⟨x, hx⟩ : ∃ x, l[i]? = some x := ⟨_, List.getElem?_eq_getElem hlt⟩
    have hd : l.drop i = x :: l.drop (i + 1) := by rw [List.drop_eq_getElem_cons hlt, (List.getElem?_eq_some_iff.1 hx).2]
    rw [hd, idxG] at hg
    have e1 : IntKind.i64.wrap ((i : Int) + 1) = ((i + 1 : Nat) : Int) := by rw [wrap64] <;> omega
    refine ⟨_, ⟨by omega, row_u8 hx⟩, ?_⟩
    conv => whnf
    refine sel_split (fun h2 => ?_) (fun h2 => ?_)
    · conv => whnf
      rw [if_pos h2] at hg
      refine hR _ ?_
      conv => whnf
      refine ⟨rfl, ?_, rfl⟩
      rw [← hg]; rfl
    · conv => whnf
      rw [if_neg (by rw [h2]; simp)] at hg
      refine hN (i + 1) _ ⟨by omega, hg⟩ (by omega) ?_
      rw [← e1]; rfl
  · conv => whnf
    have hil : i = l.length := by simp at h; omega
    rw [hil, List.drop_length, idxG] at hg
    refine hE _ _ ?_
    conv => whnf
    refine ⟨rfl, ?_, rfl⟩
    rw [← hg]; rfl
theorem has_ok (l : List Int) (hl : l.length ≤ 1099511627776) (k : Int) (o : Bool) (sp : List (List LV)) (ob : Obs) (pb : Nat) : Gives env2s 365 [.sl o 0 1 (l.map u8r) sp, .int .u8 k] ob pb (.bool (l.any fun x => k == x), ob) := by
  have g := fun o ob pb => idx_ok l hl k o sp ob pb
  have hg := idxG_ge l k 0
  generalize idxG l k 0 = r at g hg
  refine gives_code (f := tf365) rfl ?_
  conv => whnf
  refine ⟨_, _, g _ _ _, fun _ => rfl, ?_⟩
  conv => whnf
  refine ⟨rfl, ?_, rfl⟩
  show LV.bool (decide (r ≥ 0)) = _
  rw [hg]
/-- How many tokens are of some kinds. -/
def cnt (ts : List Tk) (l : List Int) : Nat := (ts.filter fun t => l.any fun x => (t.k : Int) == x).length
theorem cnt_take {ts : List Tk} {l : List Int} {i : Nat} {t : Tk} (h : ts[i]? = some t) : cnt (ts.take (i + 1)) l = cnt (ts.take i) l + (if (l.any fun x => (t.k : Int) == x) = true then 1 else 0) := by
  unfold cnt
  rw [List.take_add_one, h, List.filter_append, List.length_append]
  congr 1
  show (List.filter _ [t]).length = _
  rw [List.filter_cons]
  split <;> rfl
theorem cnt_le (ts : List Tk) (l : List Int) (i : Nat) : cnt (ts.take i) l ≤ i := by
  unfold cnt
  have := List.length_filter_le (fun t : Tk => l.any fun x => (t.k : Int) == x) (ts.take i)
  rw [List.length_take] at this; omega
theorem count_ok (s : ByteArray) (hs : s.size ≤ 1048576) (ts : List Tk) (e p : Nat) (hL : Lx s 0 ts e p) (l : List Int) (hl : l.length ≤ 1099511627776) (o : Bool) (ob : Obs) (pb : Nat) : Gives env2s 345 [.str s, .sl o 0 1 (l.map u8r) []] ob pb (.int .i64 (cnt (if e = 0 then ts else []) l), ob) := by
  have g1 := fun ob pb => (allZ_ok s (by omega) ts e p hL ob pb).le le2zs
  obtain ⟨k1, k2⟩ := lx_kinds hL (Nat.zero_le _)
  have n1 := resA_noRef .u8 ts e p
  unfold resA at g1 n1
  obtain ⟨us, hus⟩ : ∃ us, us = (if e = 0 then ts else []) := ⟨_, rfl⟩
  rw [← hus] at g1 n1 ⊢
  have hul : us.length ≤ 1048577 := by
    rw [hus]; split
    · omega
    · simp
  clear hus k1 k2 hL
  have hl1 : (us.map (Tk.cells .u8)).length = us.length := by simp
  refine gives_code (f := tf345) rfl ?_
  conv => whnf
  refine ⟨_, _, g1 _ _, fun _ => n1 _, ?_⟩
  conv => whnf
  refine loop_v (V := fun i : Nat => [(8, .int .i64 (cnt (us.take i) l : Nat)), (19, .int .i64 i)]) (O := fun _ => ob) (m := fun i => us.length - i) (P := fun i => i ≤ us.length) ?_ 0 (Nat.zero_le _) rfl
  intro R i hi hN hE hR
  have hc := cnt_le us l i
  conv => whnf
  refine sel_split (fun h => ?_) (fun h => ?_)
  · conv => whnf
    have h := of_decide_eq_true h
    rw [hl1] at h
    obtain ⟨t, ht⟩ : ∃ t, us[i]? = some t := ⟨_, List.getElem?_eq_getElem (show i < us.length by omega)⟩
    have e1 : IntKind.i64.wrap ((i : Int) + 1) = ((i + 1 : Nat) : Int) := by rw [wrap64] <;> omega
    have e2 : IntKind.i64.wrap ((cnt (us.take i) l : Nat) + 1 : Int) = ((cnt (us.take i) l + 1 : Nat) : Int) := by rw [wrap64] <;> omega
    have hct := cnt_take (l := l) ht
    have gh := fun o ob pb => has_ok l hl t.k o [] ob pb
    refine ⟨_, ⟨by omega, row_cs ht⟩, ?_⟩
    conv => whnf
    refine ⟨_, _, gh _ _ _, fun _ => rfl, ?_⟩
    conv => whnf
    refine sel_split (fun h2 => ?_) (fun h2 => ?_)
    · conv => whnf
      rw [if_pos h2] at hct
      refine hN (i + 1) _ (by omega) (by omega) ?_
      rw [hct, ← e2, ← e1]; rfl
    · conv => whnf
      rw [if_neg (by rw [h2]; simp), Nat.add_zero] at hct
      refine hN (i + 1) _ (by omega) (by omega) ?_
      rw [hct, ← e1]; rfl
  · conv => whnf
    have hil : i = us.length := by simp at h; omega
    refine hE _ _ ?_
    conv => whnf
    refine ⟨rfl, ?_, rfl⟩
    rw [hil, List.take_length]; rfl
theorem countR_ok (s : ByteArray) (hs : s.size ≤ 1048576) (ts : List Tk) (e p : Nat) (hL : Lx s 0 ts e p) (l : List Int) (hl : l.length ≤ 1099511627776) (o : Bool) (ob : Obs) (pb : Nat) : Gives env2s 346 [.str s, .sl o 0 1 (l.map i64r) []] ob pb (.int .i64 (cnt (if e = 0 then ts else []) l), ob) := by
  have g1 := fun ob pb => ((allR_ok s (by omega) ts e p hL ob pb).le le22).le le2zs
  obtain ⟨k1, k2⟩ := lx_kinds hL (Nat.zero_le _)
  have n1 := resA_noRef .i64 ts e p
  unfold resA at g1 n1
  obtain ⟨us, hus⟩ : ∃ us, us = (if e = 0 then ts else []) := ⟨_, rfl⟩
  rw [← hus] at g1 n1 ⊢
  have hul : us.length ≤ 1048577 := by
    rw [hus]; split
    · omega
    · simp
  clear hus k1 k2 hL
  have hl1 : (us.map (Tk.cells .i64)).length = us.length := by simp
  have hl2 : (l.map i64r).length = l.length := by simp
  refine gives_code (f := tf346) rfl ?_
  conv => whnf
  refine ⟨_, _, g1 _ _, fun _ => n1 _, ?_⟩
  conv => whnf
  refine loop_v (V := fun i : Nat => [(8, .int .i64 (cnt (us.take i) l : Nat)), (9, .int .i64 i)]) (O := fun _ => ob) (m := fun i => us.length - i) (P := fun i => i ≤ us.length) ?_ 0 (Nat.zero_le _) rfl
  intro R i hi hN hE hR
  have hc := cnt_le us l i
  conv => whnf
  refine sel_split (fun h => ?_) (fun h => ?_)
  · conv => whnf
    have h := of_decide_eq_true h
    rw [hl1] at h
    obtain ⟨t, ht⟩ : ∃ t, us[i]? = some t := ⟨_, List.getElem?_eq_getElem (show i < us.length by omega)⟩
    have e1 : IntKind.i64.wrap ((i : Int) + 1) = ((i + 1 : Nat) : Int) := by rw [wrap64] <;> omega
    have e2 : IntKind.i64.wrap ((cnt (us.take i) l : Nat) + 1 : Int) = ((cnt (us.take i) l + 1 : Nat) : Int) := by rw [wrap64] <;> omega
    have hct := cnt_take (l := l) ht
    have hN1 := hN (i + 1)
    refine loop_v (V := fun j : Nat => [(10, .int .i64 j)]) (O := fun _ => ob) (m := fun j => l.length - j) (P := fun j => j ≤ l.length ∧ (l.any fun x => (t.k : Int) == x) = (l.drop j).any fun x => (t.k : Int) == x) ?_ 0 ⟨Nat.zero_le _, rfl⟩ rfl
    rintro R2 j ⟨hj, hg⟩ hN2 hE2 hR2
    conv => whnf
    refine sel_split (fun h3 => ?_) (fun h3 => ?_)
    · conv => whnf
      have h3 := of_decide_eq_true h3
      rw [hl2] at h3
      have hlt : j < l.length := by omega
      obtain ⟨x, hx⟩ : ∃ x, l[j]? = some x := ⟨_, List.getElem?_eq_getElem hlt⟩
      have hd : l.drop j = x :: l.drop (j + 1) := by rw [List.drop_eq_getElem_cons hlt, (List.getElem?_eq_some_iff.1 hx).2]
      rw [hd, List.any_cons] at hg
      have e3 : IntKind.i64.wrap ((j : Int) + 1) = ((j + 1 : Nat) : Int) := by rw [wrap64] <;> omega
      refine ⟨_, ⟨by omega, row_i64 hx⟩, ?_⟩
      conv => whnf
      refine ⟨_, ⟨by omega, row_cs ht⟩, ?_⟩
      conv => whnf
      refine sel_split (fun h4 => ?_) (fun h4 => ?_)
      · conv => whnf
        have h5 : ((t.k : Int) == x) = true := by simp at h4 ⊢; omega
        rw [h5, Bool.true_or] at hg
        rw [if_pos hg] at hct
        refine hE2 _ _ ?_
        conv => whnf
        refine hN1 _ (by omega) (by omega) ?_
        rw [hct, ← e2, ← e1]; rfl
      · conv => whnf
        have h5 : ((t.k : Int) == x) = false := by simp at h4 ⊢; omega
        rw [h5, Bool.false_or] at hg
        refine hN2 (j + 1) _ ⟨by omega, hg⟩ (by omega) ?_
        rw [← e3]; rfl
    · conv => whnf
      have hil : j = l.length := by simp at h3; omega
      rw [hil, List.drop_length, List.any_nil] at hg
      rw [if_neg (by rw [hg]; simp), Nat.add_zero] at hct
      refine hE2 _ _ ?_
      conv => whnf
      refine hN1 _ (by omega) (by omega) ?_
      rw [hct, ← e1]; rfl
  · conv => whnf
    have hil : i = us.length := by simp at h; omega
    refine hE _ _ ?_
    conv => whnf
    refine ⟨rfl, ?_, rfl⟩
    rw [hil, List.take_length]; rfl
theorem counts_law (s : ByteArray) (a : Int) (ha : -9223372036854775808 ≤ a ∧ a ≤ 9223372036854775807) (l : List Int) (hx : ∀ x ∈ l, 0 ≤ x ∧ x ≤ 255) (sp : List (List LV)) (hs : s.size + l.length ≤ 1048576) : Gives env2s 606 [.str s, .int .i64 a, .sl false 0 1 (l.map u8r) sp] [] 0 (.bool true, []) := by
  obtain ⟨ts, e, p, hL⟩ := lx_ex s s.size 0 (Nat.zero_le _) (by omega)
  have gv := fun ob pb => (live2_ok ob pb).le le2zs
  have g1 := fun ob pb => line_ok s (by omega) a ha ob pb
  have g2 := fun ob pb => lineR_ok s (by omega) a ha ob pb
  have g3 := fun o ob pb => count_ok s (by omega) ts e p hL l (by omega) o ob pb
  have g4 := fun o ob pb => countR_ok s (by omega) ts e p hL l (by omega) o ob pb
  generalize cnt (if e = 0 then ts else []) l = c at g3 g4
  generalize lnO s (place s a) = x1 at g1 g2
  generalize coO s (place s a) = x2 at g1 g2
  have hl1 : (l.map u8r).length = l.length := by simp
  refine gives_code (f := tf606) rfl ?_
  conv => whnf
  refine ⟨_, _, g1 _ _, fun _ => rfl, ?_⟩
  conv => whnf
  refine ⟨_, _, g2 _ _, fun _ => rfl, ?_⟩
  conv => whnf
  refine loop_v (V := fun i : Nat => [(11, .sl true 0 1 ((l.take i).map u8r) []), (12, .sl true 0 1 ((l.take i).map i64r) []), (13, .int .i64 i)]) (O := fun _ => []) (m := fun i => l.length - i) (P := fun i => i ≤ l.length) ?_ 0 (Nat.zero_le _) rfl
  intro R i hi hN hE hR
  conv => whnf
  refine sel_split (fun h => ?_) (fun h => ?_)
  · conv => whnf
    have h := of_decide_eq_true h
    rw [hl1] at h
    have hlt : i < l.length := by omega
    obtain ⟨x, hx'⟩ : ∃ x, l[i]? = some x := ⟨_, List.getElem?_eq_getElem hlt⟩
    have hxr := hx x (List.mem_of_getElem? hx')
    have e1 : IntKind.i64.wrap ((i : Int) + 1) = ((i + 1 : Nat) : Int) := by rw [wrap64] <;> omega
    have e2 : IntKind.i64.wrap x = x := by rw [wrap64] <;> omega
    have ht : l.take (i + 1) = l.take i ++ [x] := by rw [List.take_add_one, hx']; rfl
    have hz1 : ((l.take i).map u8r).length = i := by rw [List.length_map, List.length_take]; omega
    have hz2 : ((l.take i).map i64r).length = i := by rw [List.length_map, List.length_take]; omega
    refine ⟨_, ⟨by omega, row_u8 hx'⟩, ?_⟩
    conv => whnf
    refine ⟨(l.take (i + 1)).map u8r, ⟨.inl rfl, by rw [hz1]; show (i + 1) * 1 ≤ _; omega, by rw [ht, List.map_append]; rfl⟩, ?_⟩
    conv => whnf
    refine ⟨_, ⟨by omega, row_u8 hx'⟩, ?_⟩
    conv => whnf
    rw [e2]
    refine ⟨(l.take (i + 1)).map i64r, ⟨.inl rfl, by rw [hz2]; show (i + 1) * 8 ≤ _; omega, by rw [ht, List.map_append]; rfl⟩, ?_⟩
    conv => whnf
    refine hN (i + 1) _ (by omega) (by omega) ?_
    rw [← e1]; rfl
  · conv => whnf
    have hil : i = l.length := by simp at h; omega
    rw [hil, List.take_length]
    refine hE _ _ ?_
    conv => whnf
    refine ⟨_, _, gv _ _, fun _ => rfl, ?_⟩
    conv => whnf
    refine sel_t (by simp) ?_
    conv => whnf
    refine sel_t (by simp) ?_
    conv => whnf
    refine ⟨_, _, g3 _ _ _, fun _ => rfl, ?_⟩
    conv => whnf
    refine ⟨_, _, g4 _ _ _, fun _ => rfl, ?_⟩
    conv => whnf
    refine ⟨rfl, ?_, rfl⟩
    show LV.bool _ = LV.bool true
    congr 1
    simp
end Tree.X02
