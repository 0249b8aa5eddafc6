/- Layer 2: lex.Join, and the document's. -/
import Derived.Test.YtkbpkiebcghghaaDoorL2Y
import Derived.Test.YtkbpkiebcghghaaDoorL2Sx
set_option autoImplicit false
set_option linter.unusedVariables false
set_option linter.unusedSimpArgs false
namespace Tree.X02
open Go
set_option maxHeartbeats 8000000
set_option maxRecDepth 100000
/-- The texts that are not empty. -/
def texB (ts : List Tk) : List ByteArray := (ts.map Tk.text).filter fun s => !s.data.toList.isEmpty
theorem texB_txt (ts : List Tk) : (texB ts).map (·.data.toList) = txt ts := by
  unfold texB txt
  induction ts with
  | nil => rfl
  | cons t r ih =>
    rw [List.map_cons, List.map_cons, List.filter_cons, List.filter_cons]
    cases hq : t.text.data.toList.isEmpty
    · show List.map _ (t.text :: _) = t.text.data.toList :: _
      rw [List.map_cons, ih]
    · exact ih
theorem texB_take {ts : List Tk} {i : Nat} {t : Tk} (h : ts[i]? = some t) : texB (ts.take (i + 1)) = texB (ts.take i) ++ (if t.text.data.toList.isEmpty then [] else [t.text]) := by
  unfold texB
  rw [List.take_add_one, h, List.map_append, List.filter_append]
  congr 1
  show List.filter _ [t.text] = _
  rw [List.filter_cons]
  cases hq : t.text.data.toList.isEmpty
  · rfl
  · rfl
theorem txt_take {ts : List Tk} {i : Nat} {t : Tk} (h : ts[i]? = some t) : txt (ts.take (i + 1)) = txt (ts.take i) ++ (if t.text.data.toList.isEmpty then [] else [t.text.data.toList]) := by
  rw [← texB_txt, texB_take h, List.map_append, texB_txt]
  congr 1
  split <;> rfl
/-- More than the joined text's bytes. -/
def wt (ts : List Tk) : Nat := (ts.map fun t => t.text.size + 1).sum
theorem joinTail_len (xs : List (List UInt8)) : (Lib.joinTail [32] xs).length = (xs.map fun x => x.length + 1).sum := by
  unfold Lib.joinTail
  induction xs with
  | nil => rfl
  | cons x r ih => rw [List.map_cons, List.flatten_cons, List.length_append, ih, List.map_cons, List.sum_cons]; simp
theorem jn_len (xs : List (List UInt8)) : (jn xs).length ≤ (xs.map fun x => x.length + 1).sum := by
  cases xs with
  | nil => simp [jn, Lib.join_nil]
  | cons x r => rw [jn, Lib.join_cons, List.length_append, joinTail_len, List.map_cons, List.sum_cons]; omega
theorem txt_wt (ts : List Tk) : ((txt ts).map fun x => x.length + 1).sum ≤ wt ts := by
  unfold txt wt
  induction ts with
  | nil => exact Nat.le_refl _
  | cons t r ih =>
    rw [List.map_cons, List.filter_cons, List.map_cons, List.sum_cons]
    split
    · rw [List.map_cons, List.sum_cons, len_eq]; omega
    · omega
theorem wt_take (ts : List Tk) (i : Nat) : wt (ts.take i) ≤ wt ts := by
  unfold wt
  induction ts generalizing i with
  | nil => simp
  | cons t r ih =>
    cases i with
    | zero => simp
    | succ i => rw [List.take_succ_cons, List.map_cons, List.map_cons, List.sum_cons, List.sum_cons]; have := ih i; omega
theorem le_sum : ∀ {l : List Nat} {x : Nat}, x ∈ l → x ≤ l.sum
  | y :: r, x, h => by
    rw [List.sum_cons]
    rcases List.mem_cons.1 h with rfl | h
    · omega
    · have := le_sum h; omega
theorem jn_wt (ts : List Tk) : (jn (txt ts)).length ≤ wt ts := Nat.le_trans (jn_len _) (txt_wt ts)
theorem len_wt (ts : List Tk) : ts.length ≤ wt ts := by
  unfold wt
  induction ts with
  | nil => simp
  | cons t r ih => rw [List.length_cons, List.map_cons, List.sum_cons]; omega
theorem jn_snoc (xs : List (List UInt8)) (x : List UInt8) : jn (xs ++ [x]) = if xs = [] then x else jn xs ++ 32 :: x := by
  cases xs with
  | nil => rw [if_pos rfl, List.nil_append, jn, Lib.join_one]
  | cons y r =>
    rw [if_neg (by simp), List.cons_append, jn, jn, Lib.join_cons, Lib.join_cons]
    simp [Lib.joinTail]
theorem jn_nil {xs : List (List UInt8)} (h : ∀ x ∈ xs, x ≠ []) : jn xs = [] ↔ xs = [] := by
  cases xs with
  | nil => simp [jn, Lib.join_nil]
  | cons x r => 
    rw [jn, Lib.join_cons]
    have := h x (List.mem_cons_self ..)
    simp [this]
theorem txt_ne (ts : List Tk) : ∀ x ∈ txt ts, x ≠ [] := by
  intro x hx
  have := (List.mem_filter.1 hx).2
  intro h; subst h; simp at this
theorem str_ne (s : ByteArray) : (!(s.toList == (⟨#[]⟩ : ByteArray).toList)) = !s.data.toList.isEmpty := by
  rw [strData, strData]
  cases s.data.toList <;> rfl
theorem str_eq0 (s : ByteArray) : (s.toList == (⟨#[]⟩ : ByteArray).toList) = s.data.toList.isEmpty := by
  rw [strData, strData]
  cases s.data.toList <;> rfl
theorem joinE_ok (ts : List Tk) (hw : wt ts ≤ 1099511627776) (o : Bool) (sp : List (List LV)) (ob : Obs) (pb : Nat) : Gives env2s 341 [.sl o 0 5 (ts.map (Tk.cells .u8)) sp] ob pb (.str ⟨(jn (txt ts)).toArray⟩, ob) := by
  have hl1 : (ts.map (Tk.cells .u8)).length = ts.length := by simp
  have hlw := len_wt ts
  refine gives_code (f := tf341) rfl ?_
  conv => whnf
  refine loop_v (V := fun p : Nat × List ByteArray => [(3, .sl true 0 1 (p.2.map fun s => [.str s]) []), (8, .int .i64 p.1)]) (O := fun _ => ob) (m := fun p => ts.length - p.1) (P := fun p => p.1 ≤ ts.length ∧ p.2 = texB (ts.take p.1)) ?_ (0, []) ⟨Nat.zero_le _, rfl⟩ rfl
  rintro R ⟨i, l⟩ ⟨hi, hl⟩ hN hE hR
  dsimp only at hi hl
  have hll : l.length ≤ i := by
    rw [hl]; unfold texB
    have := List.length_filter_le (fun s : ByteArray => !s.data.toList.isEmpty) ((ts.take i).map Tk.text)
    rw [List.length_map, List.length_take] at this; omega
  conv => whnf
  refine sel_split (fun h => ?_) (fun h => ?_)
  · conv => whnf
    have h := of_decide_eq_true h
    rw [hl1] at h
    obtain ⟨t, ht⟩ : ∃ t, ts[i]? = some t := ⟨_, List.getElem?_eq_getElem (show i < ts.length by omega)⟩
    have e1 : IntKind.i64.wrap ((i : Int) + 1) = ((i + 1 : Nat) : Int) := by rw [wrap64] <;> omega
    have htt := texB_take ht
    have hsn := str_ne t.text
    refine ⟨_, ⟨by omega, row_cs ht⟩, ?_⟩
    conv => whnf
    refine sel_split (fun h2 => ?_) (fun h2 => ?_)
    · conv => whnf
      have h2 : t.text.data.toList.isEmpty = false := by rw [hsn] at h2; simpa using h2
      rw [h2, if_neg (by simp)] at htt
      refine ⟨(l ++ [t.text]).map fun s => [LV.str s], ⟨.inl rfl, by simp; omega, by rw [List.map_append]; rfl⟩, ?_⟩
      conv => whnf
      refine hN (i + 1, l ++ [t.text]) _ ⟨by dsimp only; omega, by dsimp only; rw [htt, hl]⟩ (by dsimp only; omega) ?_
      rw [← e1]; rfl
    · conv => whnf
      have h2 : t.text.data.toList.isEmpty = true := by rw [hsn] at h2; simpa using h2
      rw [h2, if_pos rfl, List.append_nil] at htt
      refine hN (i + 1, l) _ ⟨by dsimp only; omega, by dsimp only; rw [htt, hl]⟩ (by dsimp only; omega) ?_
      rw [← e1]; rfl
  · conv => whnf
    have hil : i = ts.length := by simp at h; omega
    rw [hil, List.take_length] at hl
    refine hE _ _ ?_
    have hg : ∀ ob pb, Gives env2s 362 [.sl false 0 1 (l.map fun s => [LV.str s]) [], .str ⟨#[32]⟩] ob pb (.str ⟨(jn (txt ts)).toArray⟩, ob) := fun ob pb => by
      refine gives_ext (F := joinF) rfl ?_
      have hj : joinB l ⟨#[32]⟩ = jn (txt ts) := by
        show Lib.join (l.map (·.data.toList)) [32] = _
        rw [hl, texB_txt]; rfl
      have hjw := jn_wt ts
      show ((strRows (l.map fun s => [LV.str s])).bind fun l => _) = _
      rw [strRows_map, Option.bind_some, hj, if_pos ⟨by omega, by omega⟩]
    conv => whnf
    refine ⟨_, _, hg _ _, fun _ => rfl, ?_⟩
    conv => whnf
    exact ⟨rfl, rfl, rfl⟩
theorem joinR_ok (ts : List Tk) (hw : wt ts ≤ 1099511627776) (o : Bool) (sp : List (List LV)) (ob : Obs) (pb : Nat) : Gives env2s 342 [.sl o 0 5 (ts.map (Tk.cells .i64)) sp] ob pb (.str ⟨(jn (txt ts)).toArray⟩, ob) := by
  have hl1 : (ts.map (Tk.cells .i64)).length = ts.length := by simp
  have hlw := len_wt ts
  refine gives_code (f := tf342) rfl ?_
  conv => whnf
  refine loop_v (V := fun p : Nat × ByteArray => [(3, .str p.2), (4, .int .i64 p.1)]) (O := fun _ => ob) (m := fun p => ts.length - p.1) (P := fun p => p.1 ≤ ts.length ∧ p.2.data.toList = jn (txt (ts.take p.1))) ?_ (0, ⟨#[]⟩) ⟨Nat.zero_le _, rfl⟩ rfl
  rintro R ⟨i, S⟩ ⟨hi, hS⟩ hN hE hR
  dsimp only at hi hS
  have hSw : S.size ≤ 1099511627776 := by
    rw [← len_eq, hS]
    have := jn_wt (ts.take i); have := wt_take ts i; omega
  conv => whnf
  refine sel_split (fun h => ?_) (fun h => ?_)
  · conv => whnf
    have h := of_decide_eq_true h
    rw [hl1] at h
    obtain ⟨t, ht⟩ : ∃ t, ts[i]? = some t := ⟨_, List.getElem?_eq_getElem (show i < ts.length by omega)⟩
    have e1 : IntKind.i64.wrap ((i : Int) + 1) = ((i + 1 : Nat) : Int) := by rw [wrap64] <;> omega
    have htt := txt_take ht
    have hsn := str_eq0 t.text
    have hS0 := str_ne S
    have hSn := jn_nil (txt_ne (ts.take i))
    have htw : t.text.size ≤ 1099511627776 := by
      have h1 : t.text.size + 1 ≤ wt ts := by
        unfold wt
        exact le_sum (List.mem_map.2 ⟨t, List.mem_of_getElem? ht, rfl⟩)
      omega
    refine ⟨_, ⟨by omega, row_cs ht⟩, ?_⟩
    conv => whnf
    refine sel_split (fun h2 => ?_) (fun h2 => ?_)
    · conv => whnf
      have h2 : t.text.data.toList.isEmpty = true := by rw [hsn] at h2; exact h2
      rw [h2, if_pos rfl, List.append_nil] at htt
      refine hN (i + 1, S) _ ⟨by dsimp only; omega, by dsimp only; rw [htt, hS]⟩ (by dsimp only; omega) ?_
      rw [← e1]; rfl
    · conv => whnf
      have h2 : t.text.data.toList.isEmpty = false := by rw [hsn] at h2; exact h2
      rw [h2, if_neg (by simp)] at htt
      have hsnoc := jn_snoc (txt (ts.take i)) t.text.data.toList
      refine sel_split (fun h3 => ?_) (fun h3 => ?_)
      · conv => whnf
        have h3 : txt (ts.take i) ≠ [] := by
          rw [hS0] at h3
          intro hx
          rw [hS, hSn.2 hx] at h3; simp at h3
        rw [if_neg h3] at hsnoc
        obtain ⟨S1, hS1⟩ : ∃ S1, S1 = S ++ (⟨#[32]⟩ : ByteArray) := ⟨_, rfl⟩
        have hz1 : S1.size = S.size + 1 := by rw [hS1, app_size]; rfl
        refine ⟨S1, ⟨by have : (⟨#[32]⟩ : ByteArray).size = 1 := rfl; show S.size + _ ≤ _; omega, hS1⟩, ?_⟩
        conv => whnf
        refine ⟨_, ⟨by omega, row_cs ht⟩, ?_⟩
        conv => whnf
        obtain ⟨S2, hS2⟩ : ∃ S2, S2 = S1 ++ t.text := ⟨_, rfl⟩
        refine ⟨S2, ⟨by first | (show S1.size + _ ≤ _; omega) | (show S.size + _ ≤ _; omega), hS2⟩, ?_⟩
        conv => whnf
        refine hN (i + 1, S2) _ ⟨by dsimp only; omega, by dsimp only; rw [htt, hsnoc, hS2, app_list, hS1, app_list, hS, List.append_assoc]; rfl⟩ (by dsimp only; omega) ?_
        rw [← e1]; rfl
      · conv => whnf
        have h3 : txt (ts.take i) = [] := by
          rw [hS0] at h3
          apply hSn.1
          rw [← hS]
          cases hq : S.data.toList with
          | nil => rfl
          | cons c r => rw [hq] at h3; simp at h3
        rw [if_pos h3] at hsnoc
        rw [hSn.2 h3] at hS
        refine ⟨_, ⟨by omega, row_cs ht⟩, ?_⟩
        conv => whnf
        obtain ⟨S2, hS2⟩ : ∃ S2, S2 = S ++ t.text := ⟨_, rfl⟩
        refine ⟨S2, ⟨by first | (show S1.size + _ ≤ _; omega) | (show S.size + _ ≤ _; omega), hS2⟩, ?_⟩
        conv => whnf
        refine hN (i + 1, S2) _ ⟨by dsimp only; omega, by dsimp only; rw [htt, hsnoc, hS2, app_list, hS, List.nil_append]⟩ (by dsimp only; omega) ?_
        rw [← e1]; rfl
  · conv => whnf
    have hil : i = ts.length := by simp at h; omega
    rw [hil, List.take_length] at hS
    have hSe : S = ⟨(jn (txt ts)).toArray⟩ := ba_ext (by rw [hS])
    refine hE _ _ ?_
    conv => whnf
    refine ⟨rfl, ?_, rfl⟩
    rw [hSe]; rfl
end Tree.X02
