/- purlinlaw02.LexBack and LexJoins: what E answers. -/
import Derived.Test.YtkbpkiebcghghaaDoorL2Z
set_option autoImplicit false
set_option linter.unusedVariables false
set_option linter.unusedSimpArgs false
namespace Tree.X02
open Go
set_option maxHeartbeats 8000000
set_option maxRecDepth 100000
theorem lx_jn {s : ByteArray} {a : Nat} {ts : List Tk} {e p : Nat} (hL : Lx s a ts e p) : e = 0 → a ≤ s.size → ((txt ts).map fun x => x.length + 1).sum ≤ 2 * (s.size - a) := by
  induction hL with
  | bad _ he => intro h0; exact absurd h0 he
  | @stop a r hn he hk =>
    intro _ ha
    have het : r.1 = ⟨0, ⟨#[]⟩, 0, 0, (skipL s.data.toList a : Nat)⟩ := by rw [← hn]; exact end_text (by rw [hn]; exact he) (by rw [hn]; exact hk)
    have ht : txt [r.1] = [] := txt_end _ _ (by rw [het])
    rw [ht]; simp
  | @go a r ts' e p hn he hk ht ih =>
    intro h0 ha
    have he' : (nextN s a).2.2 = 0 := by rw [hn]; exact he
    have hk' : (nextN s a).1.k ≠ 0 := by rw [hn]; exact hk
    obtain ⟨t1, t2⟩ := txt_get ha he' hk'
    have hg := next_gt s a ha he' hk'
    have hpr := next_prog s a ha he'
    have hsk : a ≤ skipL s.data.toList a := by unfold skipL; omega
    rw [hn] at t1 t2 hg hpr
    have hlen := congrArg List.length t1
    rw [List.length_take, List.length_drop, len_eq s] at hlen
    have := ih h0 hpr.1
    rw [txt_cons r.1 ts' t2, List.map_cons, List.sum_cons]
    omega
theorem lx_wt {s : ByteArray} {a : Nat} {ts : List Tk} {e p : Nat} (hL : Lx s a ts e p) : e = 0 → a ≤ s.size → wt ts ≤ 2 * (s.size - a) + 1 := by
  induction hL with
  | bad _ he => intro h0; exact absurd h0 he
  | @stop a r hn he hk =>
    intro _ ha
    have het : r.1 = ⟨0, ⟨#[]⟩, 0, 0, (skipL s.data.toList a : Nat)⟩ := by rw [← hn]; exact end_text (by rw [hn]; exact he) (by rw [hn]; exact hk)
    rw [het]; simp [wt]
    exact Nat.zero_le _
  | @go a r ts' e p hn he hk ht ih =>
    intro h0 ha
    have he' : (nextN s a).2.2 = 0 := by rw [hn]; exact he
    have hk' : (nextN s a).1.k ≠ 0 := by rw [hn]; exact hk
    obtain ⟨t1, t2⟩ := txt_get ha he' hk'
    have hg := next_gt s a ha he' hk'
    have hpr := next_prog s a ha he'
    have hsk : a ≤ skipL s.data.toList a := by unfold skipL; omega
    rw [hn] at t1 t2 hg hpr
    have hlen := congrArg List.length t1
    rw [List.length_take, List.length_drop, len_eq s, len_eq r.1.text] at hlen
    have := ih h0 hpr.1
    have e : wt (r.1 :: ts') = (r.1.text.size + 1) + wt ts' := by unfold wt; rw [List.map_cons, List.sum_cons]
    rw [e]
    omega
theorem back_law (s : ByteArray) (hs : s.size ≤ 1048576) : Gives env2s 605 [.str s] [] 0 (.bool true, []) := by
  obtain ⟨ts, e, p, hL⟩ := lx_ex s s.size 0 (Nat.zero_le _) (by omega)
  have g1 := fun ob pb => (allZ_ok s (by omega) ts e p hL ob pb).le le2zs
  have gv := fun ob pb => (live2_ok ob pb).le le2zs
  obtain ⟨k1, k2⟩ := lx_kinds hL (Nat.zero_le _)
  have n1 := resA_noRef .u8 ts e p
  unfold resA at g1 n1
  by_cases he : e ≠ 0
  · rw [if_neg he] at g1 n1
    refine gives_code (f := tf605) rfl ?_
    conv => whnf
    refine ⟨_, _, g1 _ _, fun _ => n1 _, ?_⟩
    conv => whnf
    refine sel_t (by simp; omega) ?_
    conv => whnf
    refine ⟨_, _, gv _ _, fun _ => rfl, ?_⟩
    conv => whnf
    refine ⟨rfl, ?_, rfl⟩
    rfl
  · have he : e = 0 := by omega
    subst he
    obtain rfl := lx_e hL rfl
    rw [if_pos rfl] at g1 n1
    have hl1 : (ts.map (Tk.cells .u8)).length = ts.length := by simp
    have hw := lx_wt hL rfl (Nat.zero_le _)
    have hj := jn_len (txt ts)
    have hj2 := lx_jn hL rfl (Nat.zero_le _)
    obtain ⟨y, hy⟩ : ∃ y : ByteArray, y = ⟨(jn (txt ts)).toArray⟩ := ⟨_, rfl⟩
    have hyl : y.data.toList = jn (txt ts) := by rw [hy]
    have hys : y.size ≤ 2097152 := by rw [← len_eq, hyl]; omega
    obtain ⟨us, u1, u2, u3⟩ := back_lx hL (y := y) (q := 0) rfl (Nat.zero_le _) (Nat.zero_le _) (.inl (by rw [hyl]; rfl))
    have gj := fun ob pb => joinE_ok ts (by omega) false [] ob pb
    rw [← hy] at gj
    have g2 := fun ob pb => (allZ_ok y hys us 0 0 u1 ob pb).le le2zs
    have n2 := resA_noRef .u8 us 0 0
    unfold resA at g2 n2
    rw [if_pos rfl] at g2 n2
    have hl2 : (us.map (Tk.cells .u8)).length = ts.length := by simp [u2]
    refine gives_code (f := tf605) rfl ?_
    conv => whnf
    refine ⟨_, _, g1 _ _, fun _ => n1 _, ?_⟩
    conv => whnf
    refine ⟨_, _, gj _ _, fun _ => rfl, ?_⟩
    conv => whnf
    refine ⟨_, _, g2 _ _, fun _ => n2 _, ?_⟩
    conv => whnf
    refine ⟨_, _, gv _ _, fun _ => rfl, ?_⟩
    conv => whnf
    refine sel_f (by rw [hl2, hl1]; simp) ?_
    conv => whnf
    refine loop_v (V := fun i : Nat => [(9, .int .i64 i)]) (O := fun _ => []) (m := fun i => ts.length - i) (P := fun i => i ≤ ts.length) ?_ 0 (Nat.zero_le _) rfl
    intro R i hi hN hE hR
    conv => whnf
    refine sel_split (fun h => ?_) (fun h => ?_)
    · conv => whnf
      have h := of_decide_eq_true h
      rw [hl1] at h
      obtain ⟨t, ht⟩ : ∃ t, ts[i]? = some t := ⟨_, List.getElem?_eq_getElem (show i < ts.length by omega)⟩
      obtain ⟨u, hu, a1, a2, a3, a4⟩ := u3 i t ht
      have e1 : IntKind.i64.wrap ((i : Int) + 1) = ((i + 1 : Nat) : Int) := by rw [wrap64] <;> omega
      refine ⟨_, ⟨by omega, row_cs ht⟩, ?_⟩
      conv => whnf
      refine ⟨_, ⟨by omega, row_cs hu⟩, ?_⟩
      conv => whnf
      refine sel_f (by simp [a1]) ?_
      conv => whnf
      refine ⟨_, ⟨by omega, row_cs ht⟩, ?_⟩
      conv => whnf
      refine ⟨_, ⟨by omega, row_cs hu⟩, ?_⟩
      conv => whnf
      refine sel_f (by simp [a2]) ?_
      conv => whnf
      refine ⟨_, ⟨by omega, row_cs ht⟩, ?_⟩
      conv => whnf
      refine ⟨_, ⟨by omega, row_cs hu⟩, ?_⟩
      conv => whnf
      refine sel_f (by simp [a3]) ?_
      conv => whnf
      refine ⟨_, ⟨by omega, row_cs ht⟩, ?_⟩
      conv => whnf
      refine ⟨_, ⟨by omega, row_cs hu⟩, ?_⟩
      conv => whnf
      refine sel_f (by simp [a4]) ?_
      conv => whnf
      refine hN (i + 1) _ (by omega) (by omega) ?_
      rw [← e1]; rfl
    · conv => whnf
      refine hE _ _ ?_
      conv => whnf
      exact ⟨rfl, rfl, rfl⟩
/-- A text as a sign. -/
def sgT (s : ByteArray) : Tk := ⟨5, s, 0, 0, 0⟩
theorem joins_law (l : List ByteArray) (sp : List (List LV)) (hw : wt (l.map sgT) ≤ 1099511627776) : Gives env2s 604 [.sl false 0 1 (l.map fun s => [.str s]) sp] [] 0 (.bool true, []) := by
  have gv := fun ob pb => (live2_ok ob pb).le le2zs
  have hlw := len_wt (l.map sgT)
  rw [List.length_map] at hlw
  have hl1 : (l.map fun s => [LV.str s]).length = l.length := by simp
  have g1 := fun o ob pb => joinE_ok (l.map sgT) hw o [] ob pb
  have g2 := fun o ob pb => joinR_ok (l.map sgT) hw o [] ob pb
  have g0 := fun ob pb => joinE_ok [] (by simp [wt]) true [] ob pb
  refine gives_code (f := tf604) rfl ?_
  conv => whnf
  refine loop_v (V := fun i : Nat => [(3, .sl true 0 5 (((l.map sgT).take i).map (Tk.cells .u8)) []), (4, .sl true 0 5 (((l.map sgT).take i).map (Tk.cells .i64)) []), (5, .int .i64 i)]) (O := fun _ => []) (m := fun i => l.length - i) (P := fun i => i ≤ l.length) ?_ 0 (Nat.zero_le _) rfl
  intro R i hi hN hE hR
  have hln : ∀ kk, (((l.map sgT).take i).map (Tk.cells kk)).length = i := fun kk => by simp; omega
  conv => whnf
  refine sel_split (fun h => ?_) (fun h => ?_)
  · conv => whnf
    have h := of_decide_eq_true h
    rw [hl1] at h
    obtain ⟨s, hs⟩ : ∃ s, l[i]? = some s := ⟨_, List.getElem?_eq_getElem (show i < l.length by omega)⟩
    have hr : (l.map fun s => [LV.str s])[((i : Nat) : Int).toNat]? = some [.str s] := by
      show (l.map fun s => [LV.str s])[i]? = _
      rw [List.getElem?_map, hs]; rfl
    have e1 : IntKind.i64.wrap ((i : Int) + 1) = ((i + 1 : Nat) : Int) := by rw [wrap64] <;> omega
    have htk : ∀ kk, ((l.map sgT).take (i + 1)).map (Tk.cells kk) = ((l.map sgT).take i).map (Tk.cells kk) ++ [[.int kk 5, .str s, .int .i64 0, .int .i64 0, .int .i64 0]] := fun kk => by
      rw [List.take_add_one, List.getElem?_map, hs, List.map_append]; rfl
    refine ⟨_, ⟨by omega, hr⟩, ?_⟩
    conv => whnf
    refine ⟨((l.map sgT).take (i + 1)).map (Tk.cells .u8), ⟨.inl rfl, by rw [hln]; show (i + 1) * 48 ≤ _; omega, htk _⟩, ?_⟩
    conv => whnf
    refine ⟨_, ⟨by omega, hr⟩, ?_⟩
    conv => whnf
    refine ⟨((l.map sgT).take (i + 1)).map (Tk.cells .i64), ⟨.inl rfl, by rw [hln]; show (i + 1) * 48 ≤ _; omega, htk _⟩, ?_⟩
    conv => whnf
    refine hN (i + 1) _ (by omega) (by omega) ?_
    rw [← e1]; rfl
  · conv => whnf
    have hil : i = l.length := by simp at h; omega
    have ht : (l.map sgT).take i = l.map sgT := List.take_of_length_le (by simp; omega)
    rw [ht]
    refine hE _ _ ?_
    conv => whnf
    refine ⟨_, _, gv _ _, fun _ => rfl, ?_⟩
    conv => whnf
    refine ⟨_, _, g1 _ _ _, fun _ => rfl, ?_⟩
    conv => whnf
    refine ⟨_, _, g2 _ _ _, fun _ => rfl, ?_⟩
    conv => whnf
    refine sel_t (by simp) ?_
    conv => whnf
    refine ⟨_, _, g0 _ _, fun _ => rfl, ?_⟩
    conv => whnf
    refine ⟨rfl, ?_, rfl⟩
    show LV.bool _ = LV.bool true
    rw [str_eq0]; rfl
end Tree.X02
