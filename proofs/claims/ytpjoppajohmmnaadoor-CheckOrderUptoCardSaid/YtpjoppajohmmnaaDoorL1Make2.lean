/- Layer 1: structures out of arguments, what E answers (the program's and the document's). -/
import Derived.Test.YtpjoppajohmmnaaDoorL1Make
set_option autoImplicit false
set_option linter.unusedVariables false
set_option linter.unusedSimpArgs false
namespace Tree
open Go
set_option maxHeartbeats 4000000
set_option maxRecDepth 100000
def cStr (s : ByteArray) (n : Int) : C := ⟨3, s, n, 0, 0⟩
theorem fineStr (s : ByteArray) (n : Int) (h : s.size ≤ maxLen) : (cStr s n).fine := ⟨h, (by decide : (0 : Int) ≤ 3), (by decide : (3 : Int) ≤ 255)⟩
def MakesP (s : ByteArray) (ts : List T1) : Prop := okC (cStr s ts.length) ∧ ∀ t ∈ ts, RightP t.cs
open Classical in
noncomputable def makeR (s : ByteArray) (ts : List T1) : List C × Int :=
  if MakesP s ts then (if (cStr s ts.length :: ts.flatMap T1.cs).length > 256 then ([], 5) else (cStr s ts.length :: ts.flatMap T1.cs, 0)) else ([], 6)
theorem flat_le : ∀ ts : List T1, (∀ t ∈ ts, t.cs.length ≤ 256) → (ts.flatMap T1.cs).length ≤ 256 * ts.length
  | [], _ => by simp
  | t :: ts, h => by
    have h1 := h t (List.mem_cons_self ..)
    have h2 := flat_le ts (fun u hu => h u (List.mem_cons_of_mem _ hu))
    rw [List.flatMap_cons, List.length_append, List.length_cons]; omega
theorem makes_len {s : ByteArray} {ts : List T1} (h : okC (cStr s ts.length)) : ts.length ≤ 8 := by
  rcases h with h | h | h | h
  · exact absurd h.1 (by show (3 : Int) ≠ 1; decide)
  · exact absurd h.1 (by show (3 : Int) ≠ 2; decide)
  · rcases h.2.2 with h | h
    · have := h.2.2; simp only [cStr] at this; omega
    · have := h.2; simp only [cStr] at this; omega
  · exact absurd h.1 (by show (3 : Int) ≠ 4; decide)
def makeV (p : List C × Int) : LV := .tup [sl5 false 0 p.1 [], .int .i64 p.2]
theorem makeR_no {s : ByteArray} {ts : List T1} (h : ¬ MakesP s ts) : makeR s ts = ([], 6) := by unfold makeR; rw [if_neg h]
theorem make_ok (s : ByteArray) (hs : s.size ≤ maxLen) (lab : Nat) (ts : List T1) (sp : List (List LV)) (hl : ts.length ≤ 4611686018427387904) (hf : ∀ t ∈ ts, t.fine) (ob : Obs) (pb : Nat) : Gives env1 7 [.str s, sl1 false lab ts sp] ob pb (makeV (makeR s ts), ob) := by
  have hlen : (ts.map T1.row).length = ts.length := by simp
  obtain ⟨q, hq⟩ := boolOf (okC (cStr s ts.length))
  obtain ⟨g, hg⟩ := boolOf (∃ t ∈ ts, ¬ RightP t.cs)
  refine gives_code (f := tf7) rfl ?_
  conv => whnf
  refine ⟨_, _, rule_ok 3 (by decide) (by decide) ob _, fun _ => rfl, ?_⟩
  conv => whnf
  refine ⟨_, _, holds_ok (cStr s (ts.map T1.row).length) (fineStr _ _ hs) ob _ q (by rw [hlen]; exact hq), fun _ => rfl, ?_⟩
  conv => whnf
  refine sel_split (fun h1 => ?_) (fun h1 => ?_)
  · conv => whnf
    have h1 : q = false := by simpa using h1
    refine ⟨rfl, ?_, rfl⟩
    rw [makeR_no (fun h => by have := hq.2 h.1; rw [h1] at this; cases this)]; rfl
  · conv => whnf
    have h1 : q = true := by simpa using h1
    refine ⟨_, _, hasT_ok 34 lab ts sp (fun t => ¬ RightP t.cs) hl (fun t ht ob pb r hr => notRight_ok t (hf t ht) ob pb r hr) ob _ g hg, fun _ => rfl, ?_⟩
    conv => whnf
    refine sel_split (fun h2 => ?_) (fun h2 => ?_)
    · conv => whnf
      refine ⟨rfl, ?_, rfl⟩
      rw [makeR_no (fun h => by obtain ⟨t, ht, hn⟩ := hg.1 h2; exact hn (h.2 t ht))]; rfl
    · conv => whnf
      have hm : MakesP s ts := ⟨hq.1 h1, fun t ht => Classical.byContradiction fun hn => by rw [hg.2 ⟨t, ht, hn⟩] at h2; cases h2⟩
      have h8 := makes_len hm.1
      have hfl := flat_le ts (fun t ht => (hm.2 t ht).2.1)
      refine ⟨_, _, concat_ok lab ts sp (by omega) (by omega) ob _, fun _ => noRef5 _ _ _ _, ?_⟩
      conv => whnf
      refine ⟨(cStr s ts.length :: ts.flatMap T1.cs).map C.row, ⟨.inl rfl, ?_, ?_⟩, ?_⟩
      · show (1 + ((ts.flatMap T1.cs).map C.row).length) * 48 ≤ _
        rw [List.length_map]; omega
      · rw [hlen]; rfl
      conv => whnf
      have hlen2 : ((cStr s ts.length :: ts.flatMap T1.cs).map C.row).length = (cStr s ts.length :: ts.flatMap T1.cs).length := List.length_map ..
      refine sel_split (fun h3 => ?_) (fun h3 => ?_)
      · conv => whnf
        rw [hlen2] at h3
        have h3 := of_decide_eq_true h3
        refine ⟨rfl, ?_, rfl⟩
        have : makeR s ts = ([], 5) := by unfold makeR; rw [if_pos hm, if_pos (by omega)]
        rw [this]; rfl
      · conv => whnf
        rw [hlen2] at h3
        have h3 := of_decide_eq_false h3
        refine ⟨rfl, ?_, rfl⟩
        have : makeR s ts = (cStr s ts.length :: ts.flatMap T1.cs, 0) := by unfold makeR; rw [if_pos hm, if_neg (by omega)]
        rw [this]; rfl
def S8 (s : ByteArray) (v o : LV) (c : C) (i : Int) (ob : Obs) : WSt := ⟨.val .undef :: .val v :: List.replicate 4 (.val .undef) ++ .box c.row :: .val o :: .val (.int .i64 i) :: List.replicate 38 (.val .undef), ob, []⟩
def S8b (v o : LV) (i : Int) (ob : Obs) : WSt := ⟨.val .undef :: .val v :: List.replicate 5 (.val .undef) ++ .val o :: .val .undef :: .val (.int .i64 i) :: List.replicate 37 (.val .undef), ob, []⟩
theorem refMake_ok (s : ByteArray) (hs : s.size ≤ maxLen) (lab : Nat) (ts : List T1) (sp : List (List LV)) (hl : ts.length ≤ 4611686018427387904) (hf : ∀ t ∈ ts, t.fine) (ob : Obs) (pb : Nat) : Gives env1 8 [.str s, sl1 false lab ts sp] ob pb (makeV (makeR s ts), ob) := by
  have hlen : (ts.map T1.row).length = ts.length := by simp
  obtain ⟨q, hq⟩ := boolOf (okC (cStr s ts.length))
  refine gives_code (f := tf8) rfl ?_
  conv => whnf
  refine loop_abs (S := fun i : Nat => S8 s (sl1 false lab ts sp) (sl5 true 0 [cStr s (ts.map T1.row).length] []) (cStr s (ts.map T1.row).length) i ob) (m := fun i => ts.length - i) (P := fun i => i ≤ ts.length ∧ ∀ k t, k < i → ts[k]? = some t → RightP t.cs) ?_ 0 ⟨Nat.zero_le _, fun k s h => by omega⟩ rfl
  rintro R i ⟨hi, hP⟩ hN hE hR
  conv => whnf
  refine sel_split (fun h => ?_) (fun h => ?_)
  · conv => whnf
    have h := of_decide_eq_true h
    rw [hlen] at h
    obtain ⟨t, ht⟩ : ∃ c, ts[i]? = some c := ⟨_, List.getElem?_eq_getElem (show i < ts.length by omega)⟩
    refine ⟨_, ⟨by omega, idx_t ht⟩, ?_⟩
    conv => whnf
    obtain ⟨p, hp⟩ := boolOf (RightP t.cs)
    have htm := List.mem_of_getElem? ht
    refine ⟨_, _, refRight_ok t.lab t.cs t.sp (hf t htm).1 (hf t htm).2 ob _ p hp, fun _ => rfl, ?_⟩
    conv => whnf
    refine sel_split (fun h2 => ?_) (fun h2 => ?_)
    · conv => whnf
      refine hR _ ?_
      conv => whnf
      refine ⟨rfl, ?_, rfl⟩
      rw [makeR_no (fun h => by have := hp.2 (h.2 t htm); rw [this] at h2; cases h2)]; rfl
    · conv => whnf
      have h2 : p = true := by simpa using h2
      have e : IntKind.i64.wrap ((i : Int) + 1) = ((i + 1 : Nat) : Int) := by rw [wrap64] <;> omega
      refine hN (i + 1) _ ⟨by omega, fun k u hk hu => ?_⟩ (by omega) ?_
      · by_cases hki : k = i
        · subst hki; rw [ht] at hu; cases hu; exact hp.1 h2
        · exact hP k u (by omega) hu
      · rw [← e]; rfl
  · conv => whnf
    have h := of_decide_eq_false h
    rw [hlen] at h
    have hall : ∀ t ∈ ts, RightP t.cs := fun t ht => by
      obtain ⟨k, hk, e⟩ := List.getElem_of_mem ht
      exact hP k t (by omega) (by rw [List.getElem?_eq_getElem hk, e])
    refine hE _ _ ?_
    conv => whnf
    refine ⟨_, _, refCell_ok (cStr s (ts.map T1.row).length) hs ob _ q (by rw [hlen]; exact hq), fun _ => rfl, ?_⟩
    conv => whnf
    refine sel_split (fun h1 => ?_) (fun h1 => ?_)
    · conv => whnf
      have h1 : q = false := by simpa using h1
      refine ⟨rfl, ?_, rfl⟩
      rw [makeR_no (fun h => by have := hq.2 h.1; rw [h1] at this; cases this)]; rfl
    · conv => whnf
      have h1 : q = true := by simpa using h1
      have hm : MakesP s ts := ⟨hq.1 h1, hall⟩
      have h8 := makes_len hm.1
      have hfl := flat_le ts (fun t ht => (hm.2 t ht).2.1)
      refine loop_abs (S := fun i : Nat => S8b (sl1 false lab ts sp) (sl5 true 0 (cStr s (ts.map T1.row).length :: catN ts i) []) i ob) (m := fun i => ts.length - i) (P := fun i => i ≤ ts.length) ?_ 0 (Nat.zero_le _) rfl
      intro R' i hi hN' hE' hR'
      conv => whnf
      refine sel_split (fun h => ?_) (fun h => ?_)
      · conv => whnf
        have h := of_decide_eq_true h
        rw [hlen] at h
        obtain ⟨t, ht⟩ : ∃ c, ts[i]? = some c := ⟨_, List.getElem?_eq_getElem (show i < ts.length by omega)⟩
        refine ⟨_, ⟨by omega, idx_t ht⟩, ?_⟩
        conv => whnf
        have hc := catN_succ ht
        have hle := catN_le (ts := ts) (i + 1)
        refine ⟨(cStr s (ts.map T1.row).length :: catN ts (i + 1)).map C.row, ⟨.inl rfl, ?_, ?_⟩, ?_⟩
        · rw [hc] at hle
          simp only [List.length_append] at hle
          simp only [List.length_map, List.length_cons]; omega
        · rw [hc]; simp
        conv => whnf
        have e : IntKind.i64.wrap ((i : Int) + 1) = ((i + 1 : Nat) : Int) := by rw [wrap64] <;> omega
        refine hN' (i + 1) _ (by omega) (by omega) ?_
        rw [← e]; rfl
      · conv => whnf
        have h := of_decide_eq_false h
        rw [hlen] at h
        have : i = ts.length := by omega
        subst this
        have hcat : catN ts ts.length = ts.flatMap T1.cs := by unfold catN; rw [List.take_length]
        refine hE' _ _ ?_
        conv => whnf
        have hlen2 : ((cStr s (ts.map T1.row).length :: catN ts ts.length).map C.row).length = (cStr s ts.length :: ts.flatMap T1.cs).length := by rw [hcat]; simp
        refine sel_split (fun h3 => ?_) (fun h3 => ?_)
        · conv => whnf
          rw [hlen2] at h3
          have h3 := of_decide_eq_true h3
          refine ⟨rfl, ?_, rfl⟩
          have : makeR s ts = ([], 5) := by unfold makeR; rw [if_pos hm, if_pos (by omega)]
          rw [this]; rfl
        · conv => whnf
          rw [hlen2] at h3
          have h3 := of_decide_eq_false h3
          refine ⟨rfl, ?_, rfl⟩
          have : makeR s ts = (cStr s ts.length :: ts.flatMap T1.cs, 0) := by unfold makeR; rw [if_pos hm, if_neg (by omega)]
          rw [this, hcat, hlen]; rfl
end Tree
