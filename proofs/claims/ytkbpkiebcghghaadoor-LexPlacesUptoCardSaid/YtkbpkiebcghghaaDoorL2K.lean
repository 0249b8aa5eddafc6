/- purlinlaw02.LexPlaces: what E answers. -/
import Derived.Test.YtkbpkiebcghghaaDoorL2J
set_option autoImplicit false
set_option linter.unusedVariables false
set_option linter.unusedSimpArgs false
namespace Tree.X02
open Go
set_option maxHeartbeats 8000000
set_option maxRecDepth 100000
theorem ext_size2 (s : ByteArray) (a b : Nat) (h : b ≤ s.size) : (s.extract a b).size = b - a := by
  rw [← len_eq, ext_list, List.length_take, List.length_drop, len_eq]; omega
theorem preB_eq {s : ByteArray} {a : Nat} {t : ByteArray} (h : preB s a t = true) : s.extract a (a + t.size) = t := by
  unfold preB at h
  simp only [Bool.and_eq_true, decide_eq_true_eq, beq_iff_eq] at h
  apply ba_ext
  have := h.2
  rwa [Go.ByteArray.toList_eq, Go.ByteArray.toList_eq] at this
/-- What stands where a token is. -/
theorem next_facts (s : ByteArray) (a : Nat) (ha : a ≤ s.size) (he : (nextN s a).2.2 = 0) : (nextN s a).1.at_ = (skipL s.data.toList a : Int) ∧ (nextN s a).2.1 = skipL s.data.toList a + (nextN s a).1.text.size ∧ s.extract (skipL s.data.toList a) (nextN s a).2.1 = (nextN s a).1.text ∧ ((nextN s a).1.k = 0 → (nextN s a).2.1 = s.size) := by
  have hlen := len_eq s
  have q1 := skip_le (l := s.data.toList) (i := a) (by omega)
  have hpr := (next_prog s a ha he).1
  obtain ⟨r, hr⟩ : ∃ r, r = nextN s a := ⟨_, rfl⟩
  rw [← hr] at he hpr ⊢
  unfold nextN at hr
  dsimp only at hr
  generalize skipL s.data.toList a = b at q1 hr ⊢
  have q3 := span_le (p := dig) (l := s.data.toList) (i := b)
  have q4 := span_le (p := wrd) (l := s.data.toList) (i := b)
  have key : ∀ (k : Nat) (n nd : Int) (j : Nat), b ≤ j → k ≠ 0 → r = (⟨k, s.extract b j, n, nd, b⟩, j, 0) → r.1.at_ = (b : Int) ∧ r.2.1 = b + r.1.text.size ∧ s.extract b r.2.1 = r.1.text ∧ (r.1.k = 0 → r.2.1 = s.size) := by
    intro k n nd j hj hk h
    subst h
    dsimp only at hpr ⊢
    refine ⟨rfl, ?_, rfl, fun h => absurd h hk⟩
    rw [ext_size2 s b j hpr]; omega
  split at hr
  · rename_i hc
    subst hr
    have hb : b = s.size := by rw [List.getElem?_eq_none_iff] at hc; omega
    refine ⟨rfl, rfl, ?_, fun _ => hb⟩
    apply ba_ext
    rw [ext_list, Nat.sub_self]; rfl
  · rename_i c hc
    split at hr
    · unfold globS at hr
      dsimp only at hr
      split at hr
      · subst hr; simp at he
      · split at hr
        · subst hr; simp at he
        · split at hr
          · subst hr; simp at he
          · have z1 := span_le (p := dig) (l := s.data.toList) (i := b + 1)
            have z2 := span_le (p := dig) (l := s.data.toList) (i := spanL dig s.data.toList (b + 1) + 1)
            exact key 4 _ _ _ (by omega) (by omega) hr
    · split at hr
      · split at hr
        · exact key 3 _ _ _ (by omega) (by omega) hr
        · subst hr; simp at he
      · split at hr
        · split at hr
          · subst hr; simp at he
          · exact key 2 _ _ _ (by omega) (by omega) hr
        · split at hr
          · split at hr
            · subst hr; simp at he
            · exact key 1 _ _ _ (by omega) (by omega) hr
          · unfold sgnS at hr
            split at hr
            · rename_i t ht
              subst hr
              exact ⟨rfl, rfl, preB_eq (List.find?_some ht), fun h => by cases h⟩
            · subst hr; simp at he
theorem skip_take : ∀ (m : List UInt8) (q : Bool), skipS q (m.take (skipS q m)) = skipS q m ∧ (m.take (skipS q m)).length = skipS q m
  | [], q => by cases q <;> simp [skipS]
  | c :: r, q => by
    have h1 := skip_take r true
    have h2 := skip_take r false
    cases q
    · by_cases hb : blk c = true
      · have e : skipS false (c :: r) = skipS false r + 1 := by rw [skipS, if_pos hb]
        rw [e, List.take_succ_cons, skipS, if_pos hb, h2.1, List.length_cons, h2.2]; exact ⟨rfl, rfl⟩
      · by_cases h37 : c.toNat = 37
        · have e : skipS false (c :: r) = skipS true r + 1 := by rw [skipS, if_neg hb, if_pos h37]
          rw [e, List.take_succ_cons, skipS, if_neg hb, if_pos h37, h1.1, List.length_cons, h1.2]; exact ⟨rfl, rfl⟩
        · have e : skipS false (c :: r) = 0 := by rw [skipS, if_neg hb, if_neg h37]
          rw [e]; exact ⟨rfl, rfl⟩
    · by_cases hb : lne c = true
      · have e : skipS true (c :: r) = skipS true r + 1 := by rw [skipS, if_pos hb]
        rw [e, List.take_succ_cons, skipS, if_pos hb, h1.1, List.length_cons, h1.2]; exact ⟨rfl, rfl⟩
      · have e : skipS true (c :: r) = skipS false r + 1 := by rw [skipS, if_neg hb]
        rw [e, List.take_succ_cons, skipS, if_neg hb, h2.1, List.length_cons, h2.2]; exact ⟨rfl, rfl⟩
theorem between (s : ByteArray) (a : Nat) : nextN (s.extract a (skipL s.data.toList a)) 0 = (⟨0, ⟨#[]⟩, 0, 0, ((skipL s.data.toList a - a : Nat) : Int)⟩, skipL s.data.toList a - a, 0) := by
  have e : skipL s.data.toList a - a = skipS false (s.data.toList.drop a) := by unfold skipL; omega
  obtain ⟨h1, h2⟩ := skip_take (s.data.toList.drop a) false
  unfold nextN
  dsimp only
  rw [ext_list, e]
  have e2 : skipL ((s.data.toList.drop a).take (skipS false (s.data.toList.drop a))) 0 = skipS false (s.data.toList.drop a) := by
    unfold skipL; rw [List.drop_zero, h1]; omega
  rw [e2, List.getElem?_eq_none (by omega)]
theorem lx_inv {s : ByteArray} {a : Nat} {ts : List Tk} {e p : Nat} (h : Lx s a ts e p) (he : e = 0) : (nextN s a).2.2 = 0 ∧ (((nextN s a).1.k = 0 ∧ ts = [(nextN s a).1]) ∨ ((nextN s a).1.k ≠ 0 ∧ ∃ ts', ts = (nextN s a).1 :: ts' ∧ Lx s (nextN s a).2.1 ts' e p)) := by
  cases h with
  | @bad _ r h he' => exact absurd he he'
  | @stop _ r h he' hk => rw [h]; exact ⟨he', .inl ⟨hk, rfl⟩⟩
  | @go _ r ts' _ _ h he' hk ht => rw [h]; exact ⟨he', .inr ⟨hk, ts', rfl, ht⟩⟩
theorem places_law (s : ByteArray) (hs : s.size ≤ 1048576) : Gives env2z 602 [.str s] [] 0 (.bool true, []) := by
  obtain ⟨ts, e, p, hL⟩ := lx_ex s s.size 0 (Nat.zero_le _) (by omega)
  have g1 := fun ob pb => allZ_ok s hs ts e p hL ob pb
  obtain ⟨k1, k2⟩ := lx_kinds hL (Nat.zero_le _)
  have n1 := resA_noRef .u8 ts e p
  unfold resA at g1 n1
  by_cases he : e ≠ 0
  · refine gives_code (f := tf602) rfl ?_
    conv => whnf
    refine ⟨_, _, g1 _ _, fun _ => n1 _, ?_⟩
    conv => whnf
    refine ⟨_, _, live2_ok _ _, fun _ => rfl, ?_⟩
    conv => whnf
    refine sel_t (by simp; omega) ?_
    conv => whnf
    refine ⟨_, _, live2_ok _ _, fun _ => rfl, ?_⟩
    conv => whnf
    exact ⟨rfl, rfl, rfl⟩
  · have he : e = 0 := by omega
    subst he
    obtain rfl := lx_e hL rfl
    rw [if_pos rfl] at g1 n1
    have hl1 : (ts.map (Tk.cells .u8)).length = ts.length := by simp
    have hlen := len_eq s
    refine gives_code (f := tf602) rfl ?_
    conv => whnf
    refine ⟨_, _, g1 _ _, fun _ => n1 _, ?_⟩
    conv => whnf
    refine ⟨_, _, live2_ok _ _, fun _ => rfl, ?_⟩
    conv => whnf
    refine loop_v (V := fun i : Nat × Nat => [(6, .int .i64 i.2), (7, .int .i64 i.1)]) (O := fun _ => []) (m := fun i => ts.length - i.1) (P := fun i => i.2 ≤ s.size ∧ ((i.1 < ts.length ∧ Lx s i.2 (ts.drop i.1) 0 0) ∨ (i.1 = ts.length ∧ 0 < i.1 ∧ i.2 = s.size ∧ (ts[i.1 - 1]?.map Tk.k) = some 0))) ?_ (0, 0) ⟨Nat.zero_le _, ?_⟩ rfl
    rotate_left
    · left
      refine ⟨?_, hL⟩
      rcases (lx_inv hL rfl).2 with ⟨_, h⟩ | ⟨_, ts', h, _⟩ <;> rw [h] <;> simp
    rintro R ⟨i, a⟩ ⟨ha, hx⟩ hN hE hR
    dsimp only at ha hx
    rcases hx with ⟨hi, hx⟩ | ⟨hi, hi0, has, hlast⟩
    · obtain ⟨z1, z2⟩ := lx_inv hx rfl
      obtain ⟨f1, f2, f3, f4⟩ := next_facts s a ha z1
      have q1 := skip_le (l := s.data.toList) (i := a) (by omega)
      have hpl := (next_prog s a ha z1).1
      have hk5 := (next_prog s a ha z1).2.2
      have hbt := between s a
      have gN := fun ob pb => (next_ok s (by omega) a ha ob pb).le le22
      have gB := fun ob pb => (nextR_ok (s.extract a (skipL s.data.toList a)) (by rw [ext_size2 _ _ _ (by omega)]; omega) 0 (Nat.zero_le _) ob pb).le le22
      rw [hbt] at gB
      generalize skipL s.data.toList a = b at f1 f2 f3 q1 gB hbt
      generalize nextN s a = r at z1 z2 f1 f2 f3 f4 hpl gN hk5
      obtain ⟨⟨k, t, n, nd, at_⟩, nx, er⟩ := r
      dsimp only at z1 z2 f1 f2 f3 f4 hpl gN hk5
      subst z1; subst f1; subst f2
      have ht : ts[i]? = some ⟨k, t, n, nd, b⟩ := by
        have : (ts.drop i)[0]? = some ⟨k, t, n, nd, b⟩ := by
          rcases z2 with ⟨_, h⟩ | ⟨_, ts', h, _⟩ <;> rw [h] <;> rfl
        rw [List.getElem?_drop] at this; exact this
      have e1 : IntKind.i64.wrap ((i : Int) + 1) = ((i + 1 : Nat) : Int) := by rw [wrap64] <;> omega
      have e2 : IntKind.i64.wrap ((b : Int) + t.size) = ((b + t.size : Nat) : Int) := by rw [wrap64] <;> omega
      have e3 : IntKind.i64.wrap ((b : Int) - a) = ((b - a : Nat) : Int) := by rw [wrap64] <;> omega
      have hgo : (i + 1 < ts.length ∧ Lx s (b + t.size) (ts.drop (i + 1)) 0 0) ∨ (i + 1 = ts.length ∧ 0 < i + 1 ∧ b + t.size = s.size ∧ (ts[i + 1 - 1]?.map Tk.k) = some 0) := by
        have hd : ts.drop (i + 1) = (ts.drop i).drop 1 := by rw [List.drop_drop]
        rcases z2 with ⟨h0, h⟩ | ⟨h0, ts', h, hl⟩
        · right
          have : (ts.drop i).length = 1 := by rw [h]; rfl
          rw [List.length_drop] at this
          refine ⟨by omega, by omega, f4 h0, ?_⟩
          rw [Nat.add_sub_cancel, ht, ← h0]; rfl
        · left
          rw [h] at hd
          have hd : ts.drop (i + 1) = ts' := hd
          refine ⟨?_, by rw [hd]; exact hl⟩
          have h2 : ts' ≠ [] := by
            rcases (lx_inv hl rfl).2 with ⟨_, h⟩ | ⟨_, ts'', h, _⟩ <;> rw [h] <;> simp
          rw [← hd] at h2
          have := List.length_pos_iff.2 h2
          rw [List.length_drop] at this; omega
      clear z2 hx hL g1 n1 hbt
      conv => whnf
      refine sel_t (by simp; omega) ?_
      conv => whnf
      refine ⟨_, _, gN _ _, fun _ => rfl, ?_⟩
      conv => whnf
      refine ⟨_, ⟨by omega, row_tk ht⟩, ?_⟩
      conv => whnf
      refine sel_f (by simp) ?_
      conv => whnf
      refine sel_f (by simp; omega) ?_
      conv => whnf
      rw [e2]
      refine sel_f (by simp; omega) ?_
      conv => whnf
      rw [e2]
      refine ⟨s.extract b (b + t.size), ⟨⟨by show (0 : Int) ≤ (b : Int); omega, by show (b : Int) ≤ ((b + t.size : Nat) : Int); omega, by show ((b + t.size : Nat) : Int) ≤ (s.size : Int); omega⟩, rfl⟩, ?_⟩
      rw [f3]
      conv => whnf
      refine sel_f (by simp) ?_
      conv => whnf
      rw [e2]
      refine sel_f (by simp) ?_
      conv => whnf
      refine ⟨s.extract a b, ⟨⟨by show (0 : Int) ≤ (a : Int); omega, by show (a : Int) ≤ (b : Int); omega, by show (b : Int) ≤ (s.size : Int); omega⟩, rfl⟩, ?_⟩
      conv => whnf
      refine ⟨_, _, gB _ _, fun _ => rfl, ?_⟩
      conv => whnf
      rw [e3]
      refine sel_f (by simp) ?_
      conv => whnf
      refine hN (i + 1, b + t.size) _ ⟨by dsimp only; omega, hgo⟩ (by dsimp only; omega) ?_
      show _ = _
      rw [← e1]; rfl
    · subst has
      conv => whnf
      refine sel_f (by simp; omega) ?_
      conv => whnf
      refine hE _ _ ?_
      have hl0 : ∃ t, ts[i - 1]? = some t ∧ t.k = 0 := by
        cases hq : ts[i - 1]? with
        | none => rw [hq] at hlast; simp at hlast
        | some t => rw [hq] at hlast; exact ⟨t, rfl, by simpa using hlast⟩
      obtain ⟨t, ht, hk0⟩ := hl0
      have e4 : IntKind.i64.wrap ((ts.length : Int) - 1) = ((i - 1 : Nat) : Int) := by rw [wrap64] <;> omega
      conv => whnf
      refine sel_t (by simp; omega) ?_
      conv => whnf
      rw [hl1, e4]
      refine ⟨_, ⟨by omega, row_tk ht⟩, ?_⟩
      conv => whnf
      refine sel_t (by simp [hk0]) ?_
      conv => whnf
      refine ⟨rfl, ?_, rfl⟩
      simp
      rfl
end Tree.X02
