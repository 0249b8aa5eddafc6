/- purlinlaw02.LexBlanks: what E answers. -/
import Derived.Test.YtkbpkiebcghghaaDoorL2V
set_option autoImplicit false
set_option linter.unusedVariables false
set_option linter.unusedSimpArgs false
namespace Tree.X02
open Go
set_option maxHeartbeats 8000000
set_option maxRecDepth 100000
/-- The remark without its ends of lines. -/
def noNl (l : List UInt8) : List UInt8 := l.filter lne
theorem noNl_ok (l : List UInt8) : ∀ c ∈ noNl l, lne c = true := fun c hc => (List.mem_filter.1 hc).2
theorem noNl_len (l : List UInt8) : (noNl l).length ≤ l.length := List.length_filter_le _ _
theorem noNl_take {l : List UInt8} {i : Nat} {c : UInt8} (h : l[i]? = some c) : noNl (l.take (i + 1)) = noNl (l.take i) ++ (if lne c = true then [c] else []) := by
  unfold noNl
  rw [List.take_add_one, h, List.filter_append]
  cases hq : lne c <;> simp [hq]
theorem app_list (a b : ByteArray) : (a ++ b).data.toList = a.data.toList ++ b.data.toList := by
  rw [ByteArray.data_append, Array.toList_append]
theorem app_size (a b : ByteArray) : (a ++ b).size = a.size + b.size := by
  rw [← len_eq, app_list, List.length_append, len_eq, len_eq]
theorem lx_le {s : ByteArray} {a : Nat} {ts : List Tk} {e p : Nat} (h : Lx s a ts e p) : a ≤ s.size → ∀ t ∈ ts, t.at_ ≤ (s.size : Int) := by
  induction h with
  | bad _ _ => intro _ t ht; cases ht
  | @stop a r h he hk =>
    intro ha t ht
    rw [List.mem_singleton] at ht; subst ht
    have h1 := next_facts s a ha (by rw [h]; exact he)
    have h2 := next_prog s a ha (by rw [h]; exact he)
    rw [h] at h1 h2
    rw [h1.1]
    have := h2.1
    omega
  | @go a r ts e p h he hk ht ih =>
    intro ha t htm
    have h1 := next_facts s a ha (by rw [h]; exact he)
    have h2 := next_prog s a ha (by rw [h]; exact he)
    rw [h] at h1 h2
    rcases List.mem_cons.1 htm with rfl | htm
    · rw [h1.1]
      have := h2.1
      omega
    · exact ih h2.1 t htm
/-- The tokens behind the change. -/
theorem sh_get {ts : List Tk} {i j D : Nat} {t : Tk} (h : ts[j]? = some t) (hi : i ≤ ts.length) : ∃ u, (ts.take i ++ (ts.drop i).map (shT D))[j]? = some u ∧ u.k = t.k ∧ u.text = t.text ∧ (j < i → u.at_ = t.at_) := by
  by_cases hj : j < i
  · refine ⟨t, ?_, rfl, rfl, fun _ => rfl⟩
    rw [List.getElem?_append_left (by rw [List.length_take]; omega), List.getElem?_take_of_lt hj, h]
  · refine ⟨shT D t, ?_, rfl, rfl, fun h => absurd h hj⟩
    rw [List.getElem?_append_right (by rw [List.length_take]; omega), List.length_take, List.getElem?_map, List.getElem?_drop, show i + (j - min i ts.length) = j by omega, h]; rfl
theorem sh_len {ts : List Tk} {i D : Nat} : (ts.take i ++ (ts.drop i).map (shT D)).length = ts.length := by
  rw [List.length_append, List.length_map, ← List.length_append, List.take_append_drop]
theorem row_cs {kk : IntKind} {ts : List Tk} {i : Nat} {t : Tk} (h : ts[i]? = some t) : (ts.map (Tk.cells kk))[((i : Nat) : Int).toNat]? = some [.int kk t.k, .str t.text, .int .i64 t.n, .int .i64 t.node, .int .i64 t.at_] := row_tk h
theorem blanks_law (s : ByteArray) (n : Int) (rem : ByteArray) (hs : s.size + rem.size ≤ 1048576) : Gives env2z 603 [.str s, .int .i64 n, .str rem] [] 0 (.bool true, []) := by
  obtain ⟨ts, e, p, hL⟩ := lx_ex s s.size 0 (Nat.zero_le _) (by omega)
  have g1 := fun ob pb => allZ_ok s (by omega) ts e p hL ob pb
  obtain ⟨k1, k2⟩ := lx_kinds hL (Nat.zero_le _)
  have n1 := resA_noRef .u8 ts e p
  unfold resA at g1 n1
  by_cases he : e ≠ 0
  · refine gives_code (f := tf603) rfl ?_
    conv => whnf
    refine ⟨_, _, g1 _ _, fun _ => n1 _, ?_⟩
    conv => whnf
    refine ⟨_, _, live2_ok _ _, fun _ => rfl, ?_⟩
    conv => whnf
    refine sel_t (by simp; omega) ?_
    conv => whnf
    refine ⟨_, _, live2_ok _ _, fun _ => rfl, ?_⟩
    conv => whnf
    refine ⟨rfl, ?_, rfl⟩
    show LV.bool ((e : Int) != 0) = LV.bool true
    congr 1
    simp; omega
  · have he : e = 0 := by omega
    subst he
    obtain rfl := lx_e hL rfl
    rw [if_pos rfl] at g1 n1
    have hl1 : (ts.map (Tk.cells .u8)).length = ts.length := by simp
    have hne : ts ≠ [] := by rcases (lx_inv hL rfl).2 with ⟨_, h⟩ | ⟨_, ts', h, _⟩ <;> rw [h] <;> simp
    have hlp := List.length_pos_iff.2 hne
    refine gives_code (f := tf603) rfl ?_
    conv => whnf
    refine ⟨_, _, g1 _ _, fun _ => n1 _, ?_⟩
    conv => whnf
    refine ⟨_, _, live2_ok _ _, fun _ => rfl, ?_⟩
    conv => whnf
    refine sel_f (by simp; omega) ?_
    conv => whnf
    have hlu : IntKind.u64.wrap ((ts.map (Tk.cells .u8)).length : Int) = (ts.length : Int) := by
      rw [hl1]
      simp only [IntKind.wrap, IntKind.bits, IntKind.signed, Bool.false_and, Bool.false_eq_true, if_false]; omega
    rw [hlu]
    have hN : 0 ≤ IntKind.u64.wrap n := by
      simp only [IntKind.wrap, IntKind.bits, IntKind.signed, Bool.false_and, Bool.false_eq_true, if_false]; omega
    obtain ⟨i, hi1, hi2⟩ : ∃ i : Nat, (IntKind.u64.wrap n).tmod (ts.length : Int) = (i : Int) ∧ i < ts.length := by
      refine ⟨((IntKind.u64.wrap n).tmod (ts.length : Int)).toNat, ?_, ?_⟩
      · have := Int.tmod_nonneg (ts.length : Int) hN
        omega
      · have := Int.tmod_lt_of_pos (IntKind.u64.wrap n) (show (0 : Int) < (ts.length : Int) by omega)
        omega
    refine ⟨by omega, ?_⟩
    rw [hi1]
    have e0 : IntKind.i64.wrap (i : Int) = i := by
      have := k2
      rw [wrap64] <;> omega
    conv => whnf
    rw [e0]
    refine loop_v (V := fun j : Nat × ByteArray => [(11, .str j.2), (12, .int .i64 j.1)]) (O := fun _ => []) (m := fun j => rem.size - j.1) (P := fun j => j.1 ≤ rem.size ∧ j.2.data.toList = noNl (rem.data.toList.take j.1)) ?_ (0, ⟨#[]⟩) ⟨Nat.zero_le _, rfl⟩ rfl
    rintro R ⟨j, x⟩ ⟨hj, hx⟩ hN hE hR
    dsimp only at hj hx
    have hlr := len_eq rem
    have hxs : x.size ≤ j := by
      rw [← len_eq, hx]
      have := noNl_len (rem.data.toList.take j)
      rw [List.length_take] at this; omega
    conv => whnf
    refine sel_split (fun h => ?_) (fun h => ?_)
    · conv => whnf
      have h := of_decide_eq_true h
      obtain ⟨c, hc⟩ : ∃ c, rem.data.toList[j]? = some c := ⟨_, List.getElem?_eq_getElem (show j < rem.data.toList.length by omega)⟩
      have e1 : IntKind.i64.wrap ((j : Int) + 1) = ((j + 1 : Nat) : Int) := by rw [wrap64] <;> omega
      have hnt := noNl_take hc
      refine ⟨c, ⟨by omega, hc⟩, ?_⟩
      conv => whnf
      refine sel_split (fun h2 => ?_) (fun h2 => ?_)
      · conv => whnf
        have h2 : lne c = true := lne_iff.2 (by simp at h2; omega)
        rw [if_pos h2] at hnt
        rw [e1]
        refine ⟨rem.extract j (j + 1), ⟨⟨by omega, by omega, by omega⟩, rfl⟩, ?_⟩
        conv => whnf
        have hes : (rem.extract j (j + 1)).data.toList = [c] := by
          rw [ext_list, Nat.add_sub_cancel_left]
          obtain ⟨hj1, hj2⟩ := List.getElem?_eq_some_iff.1 hc
          rw [List.take_one, List.head?_drop, hc]; rfl
        have hez : (rem.extract j (j + 1)).size = 1 := by rw [← len_eq, hes]; rfl
        obtain ⟨y, hy⟩ : ∃ y, y = x ++ rem.extract j (j + 1) := ⟨_, rfl⟩
        refine ⟨y, ⟨by show x.size + _ ≤ _; rw [hez]; omega, hy⟩, ?_⟩
        conv => whnf
        refine hN (j + 1, y) _ ⟨by dsimp only; omega, by dsimp only; rw [hnt, hy, app_list, hx, hes]⟩ (by dsimp only; omega) ?_
        show _ = _
        rw [← e1]; rfl
      · conv => whnf
        have h2 : lne c = false := by
          cases hq : lne c with
          | false => rfl
          | true => have := lne_iff.1 hq; simp at h2; omega
        rw [if_neg (by rw [h2]; simp), List.append_nil] at hnt
        refine hN (j + 1, x) _ ⟨by dsimp only; omega, by dsimp only; rw [hnt, hx]⟩ (by dsimp only; omega) ?_
        show _ = _
        rw [← e1]; rfl
    · conv => whnf
      have hjr : j = rem.size := by simp at h; omega
      have hx' : x.data.toList = noNl rem.data.toList := by rw [hx, hjr, ← hlr, List.take_length]
      refine hE _ _ ?_
      conv => whnf
      obtain ⟨t, ht⟩ : ∃ t, ts[i]? = some t := ⟨_, List.getElem?_eq_getElem hi2⟩
      have htm := List.mem_of_getElem? ht
      obtain ⟨b, hb, hbs⟩ : ∃ b : Nat, t.at_ = (b : Int) ∧ b ≤ s.size := by
        have a1 := lx_at hL (Nat.zero_le _) t htm
        have a2 := lx_le hL (Nat.zero_le _) t htm
        exact ⟨t.at_.toNat, by omega, by omega⟩
      have hrow := row_cs (kk := .u8) ht
      rw [hb] at hrow
      refine ⟨_, ⟨by omega, hrow⟩, ?_⟩
      conv => whnf
      refine sel_f (by simp; omega) ?_
      conv => whnf
      obtain ⟨S0, hS0⟩ : ∃ S0, S0 = s.extract 0 b := ⟨_, rfl⟩
      obtain ⟨S1, hS1⟩ : ∃ S1, S1 = S0 ++ (⟨#[32, 37]⟩ : ByteArray) := ⟨_, rfl⟩
      obtain ⟨S2, hS2⟩ : ∃ S2, S2 = S1 ++ x := ⟨_, rfl⟩
      obtain ⟨S3, hS3⟩ : ∃ S3, S3 = S2 ++ (⟨#[10, 9]⟩ : ByteArray) := ⟨_, rfl⟩
      obtain ⟨S4, hS4⟩ : ∃ S4, S4 = s.extract b s.size := ⟨_, rfl⟩
      obtain ⟨S5, hS5⟩ : ∃ S5, S5 = S3 ++ S4 := ⟨_, rfl⟩
      have hsl := len_eq s
      have z0 : S0.size = b := by rw [hS0, ext_size2 s 0 b hbs]; omega
      have c1 : (⟨#[32, 37]⟩ : ByteArray).size = 2 := rfl
      have c2 : (⟨#[10, 9]⟩ : ByteArray).size = 2 := rfl
      have z1 : S1.size = b + 2 := by rw [hS1, app_size, z0, c1]
      have z2 : S2.size = b + 2 + x.size := by rw [hS2, app_size, z1]
      have z3 : S3.size = b + 2 + x.size + 2 := by rw [hS3, app_size, z2, c2]
      have z4 : S4.size = s.size - b := by rw [hS4, ext_size2 s b s.size (Nat.le_refl _)]
      have z5 : S5.size = s.size + 4 + x.size := by rw [hS5, app_size, z3, z4]; omega
      have hl5 : S5.data.toList = s.data.toList.take b ++ (moreL (noNl rem.data.toList) ++ s.data.toList.drop b) := by
        have l0 : S0.data.toList = s.data.toList.take b := by rw [hS0, ext_list, List.drop_zero, Nat.sub_zero]
        have l4 : S4.data.toList = s.data.toList.drop b := by rw [hS4, ext_list, List.take_of_length_le (by rw [List.length_drop]; omega)]
        rw [hS5, app_list, hS3, app_list, hS2, app_list, hS1, app_list, l0, l4, hx']
        simp [moreL]
      have hL5 := lx_more hl5 (noNl_ok _) hbs i 0 ts hL (Nat.zero_le _) (by rw [ht]; simp [hb])
      have g5 := fun ob pb => allZ_ok S5 (by omega) _ 0 0 hL5 ob pb
      generalize hus : ts.take i ++ (ts.drop i).map (shT (moreL (noNl rem.data.toList)).length) = us at g5 hL5
      have n5 := resA_noRef .u8 us 0 0
      unfold resA at g5 n5
      rw [if_pos rfl] at g5 n5
      have hul : us.length = ts.length := by rw [← hus, sh_len]
      have hl2 : (us.map (Tk.cells .u8)).length = ts.length := by rw [List.length_map, hul]
      have hug : ∀ (j : Nat) t, ts[j]? = some t → ∃ u, us[j]? = some u ∧ u.k = t.k ∧ u.text = t.text ∧ (j < i → u.at_ = t.at_) := fun j t h => by
        rw [← hus]; exact sh_get h (by omega)
      refine ⟨S0, ⟨⟨by omega, by omega, by omega⟩, hS0⟩, ?_⟩
      conv => whnf
      refine ⟨S1, ⟨by rw [z0, c1]; omega, hS1⟩, ?_⟩
      conv => whnf
      refine ⟨S2, ⟨by show S1.size + x.size ≤ _; omega, hS2⟩, ?_⟩
      conv => whnf
      refine ⟨S3, ⟨by rw [z2, c2]; omega, hS3⟩, ?_⟩
      conv => whnf
      refine ⟨S4, ⟨⟨by omega, by omega, by omega⟩, hS4⟩, ?_⟩
      conv => whnf
      refine ⟨S5, ⟨by rw [z3, z4]; omega, hS5⟩, ?_⟩
      conv => whnf
      refine ⟨_, _, g5 _ _, fun _ => n5 _, ?_⟩
      conv => whnf
      refine sel_f (by rw [hl2, hl1]; simp) ?_
      conv => whnf
      refine loop_v (V := fun j : Nat => [(17, .int .i64 j)]) (O := fun _ => []) (m := fun j => ts.length - j) (P := fun j => j ≤ ts.length) ?_ 0 (Nat.zero_le _) rfl
      intro R2 q hq hN2 hE2 hR2
      conv => whnf
      refine sel_split (fun h3 => ?_) (fun h3 => ?_)
      · conv => whnf
        have h3 := of_decide_eq_true h3
        rw [hl1] at h3
        obtain ⟨v, hv⟩ : ∃ v, ts[q]? = some v := ⟨_, List.getElem?_eq_getElem (show q < ts.length by omega)⟩
        obtain ⟨u, hu, a1, a2, a3⟩ := hug q v hv
        have e1 : IntKind.i64.wrap ((q : Int) + 1) = ((q + 1 : Nat) : Int) := by rw [wrap64] <;> omega
        refine ⟨_, ⟨by omega, row_cs hv⟩, ?_⟩
        conv => whnf
        refine ⟨_, ⟨by omega, row_cs hu⟩, ?_⟩
        conv => whnf
        refine sel_f (by simp [a1]) ?_
        conv => whnf
        refine ⟨_, ⟨by omega, row_cs hv⟩, ?_⟩
        conv => whnf
        refine ⟨_, ⟨by omega, row_cs hu⟩, ?_⟩
        conv => whnf
        refine sel_f (by simp [a2]) ?_
        conv => whnf
        refine sel_split (fun h4 => ?_) (fun h4 => ?_)
        · conv => whnf
          have h4 := of_decide_eq_true h4
          refine ⟨_, ⟨by omega, row_cs hv⟩, ?_⟩
          conv => whnf
          refine ⟨_, ⟨by omega, row_cs hu⟩, ?_⟩
          conv => whnf
          refine sel_f (by simp [a3 (by omega)]) ?_
          conv => whnf
          refine hN2 (q + 1) _ (by omega) (by omega) ?_
          rw [← e1]; rfl
        · conv => whnf
          refine hN2 (q + 1) _ (by omega) (by omega) ?_
          rw [← e1]; rfl
      · conv => whnf
        refine hE2 _ _ ?_
        conv => whnf
        exact ⟨rfl, rfl, rfl⟩
