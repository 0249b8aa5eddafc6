/- Layer 1: copies and comparisons of terms and of rows of terms, what E answers. -/
import Derived.Test.YtkdccglaeegdaaaDoorTLa
import Derived.Test.YtkdccglaeegdaaaDoorL1Live
set_option autoImplicit false
set_option linter.unusedVariables false
set_option linter.unusedSimpArgs false
namespace Tree
open Go
set_option maxHeartbeats 4000000
set_option maxRecDepth 100000
abbrev sl5 (o : Bool) (l : Nat) (cs : List C) (sp : List (List LV)) : LV := .sl o l 5 (cs.map C.row) sp
/-- A term in a row of terms. -/
structure T1 where
  lab : Nat
  cs : List C
  sp : List (List LV)
def T1.row (t : T1) : List LV := [.sl false t.lab 5 (t.cs.map C.row) t.sp]
def T1.own (t : T1) : T1 := ⟨0, t.cs, []⟩
abbrev sl1 (o : Bool) (l : Nat) (ts : List T1) (sp : List (List LV)) : LV := .sl o l 1 (ts.map T1.row) sp
theorem idx_t {ts : List T1} {i : Nat} {t : T1} (h : ts[i]? = some t) : (ts.map T1.row)[i]? = some [.sl false t.lab 5 (t.cs.map C.row) t.sp] := by
  rw [List.getElem?_map, h]; rfl
theorem noRef_rows (n : Nat) : ∀ cs : List C, LV.noRefss n (cs.map C.row) = true
  | [] => by simp [LV.noRefss]
  | c :: cs => by simp [LV.noRefss, noRef_rows n cs, C.row, LV.noRefs, LV.noRef]
theorem noRef5 (n : Nat) (o : Bool) (l : Nat) (cs : List C) : (sl5 o l cs []).noRef n = true := by simp [LV.noRef, LV.noRefss, noRef_rows]
end Tree

set_option autoImplicit false
set_option linter.unusedVariables false
set_option linter.unusedSimpArgs false
namespace Tree
open Go
set_option maxHeartbeats 4000000
set_option maxRecDepth 100000
theorem single_right (c : C) (hk : c.k ≠ 3) : RightP [c] ↔ okC c := by
  have hp : partsC c = 0 := by unfold partsC; rw [if_neg hk]
  have he : endE [c] 0 = 1 := by
    simp [endE, scanE, hp]
    decide
  constructor
  · intro h; exact h.2.2.2 c (List.mem_singleton.2 rfl)
  · intro h; exact ⟨by simp, by simp, by simpa using he, by simpa using h⟩
theorem single_ok (c : C) (hf : c.fine) (hk : c.k ≠ 3) (ob : Obs) (pb : Nat) (r : Bool) (hr : r = true ↔ okC c) : Gives env1 37 [c.lv] ob pb (sl5 true 0 (if r then [c] else []) [], ob) := by
  rw [← single_right c hk] at hr
  refine gives_code (f := tf37) rfl ?_
  conv => whnf
  refine ⟨_, _, right_ok 0 [c] [] (by simp) (fun d hd => by rw [List.mem_singleton.1 hd]; exact hf) ob _ r hr, fun _ => rfl, ?_⟩
  conv => whnf
  refine sel_split (fun h => ?_) (fun h => ?_)
  · conv => whnf
    refine ⟨rfl, ?_, rfl⟩
    rw [h]; rfl
  · conv => whnf
    refine ⟨rfl, ?_, rfl⟩
    rw [h]; rfl
def cInt (n : Int) : C := ⟨1, emptyS, n, 0, 0⟩
theorem fineInt (n : Int) : (cInt n).fine := ⟨Nat.zero_le _, (by decide : (0 : Int) ≤ 1), (by decide : (1 : Int) ≤ 255)⟩
theorem ofInt_ok (n : Int) (ob : Obs) (pb : Nat) (r : Bool) (hr : r = true ↔ okC (cInt n)) : Gives env1 9 [.int .i64 n] ob pb (sl5 true 0 (if r then [cInt n] else []) [], ob) := by
  refine gives_code (f := tf9) rfl ?_
  conv => whnf
  refine ⟨_, _, single_ok (cInt n) (fineInt n) (by show (1 : Int) ≠ 3; decide) ob _ r hr, fun _ => noRef5 _ _ _ _, ?_⟩
  conv => whnf
  exact ⟨rfl, rfl, rfl⟩
def T1.fine (t : T1) : Prop := t.cs.length ≤ 4611686018427387904 ∧ ∀ c ∈ t.cs, c.fine
theorem notRight_ok (t : T1) (hf : t.fine) (ob : Obs) (pb : Nat) (r : Bool) (hr : r = true ↔ ¬ RightP t.cs) : Gives env1 34 t.row ob pb (.bool r, ob) := by
  obtain ⟨q, hq⟩ := boolOf (RightP t.cs)
  refine gives_code (f := tf34) rfl ?_
  conv => whnf
  refine ⟨_, _, right_ok t.lab t.cs t.sp hf.1 hf.2 ob _ q hq, fun _ => rfl, ?_⟩
  conv => whnf
  refine ⟨rfl, bool_of hr ?_, rfl⟩
  rw [← hq]; simp
def S53 (v x : LV) (n : Nat) (i : Int) (ob : Obs) : WSt := ⟨.val v :: .val x :: List.replicate 5 (.val .undef) ++ .val (.int .i64 n) :: .val (.int .i64 i) :: List.replicate 10 (.val .undef), ob, []⟩
theorem anyT_ok (g lab : Nat) (ts : List T1) (sp : List (List LV)) (p : T1 → Prop) (hl : ts.length ≤ 4611686018427387904) (hg : ∀ t ∈ ts, ∀ ob pb (r : Bool), (r = true ↔ p t) → Gives env1 g t.row ob pb (.bool r, ob)) (ob : Obs) (pb : Nat) (r : Bool) (hr : r = true ↔ ∃ t ∈ ts, p t) :
    ∃ j : Int, (decide (j ≥ 0) = r) ∧ Gives env1 53 [sl1 false lab ts sp, .fn g []] ob pb (.int .i64 j, ob) := by
  have hlen : (ts.map T1.row).length = ts.length := by simp
  suffices h : ∃ j : Int, ((0 ≤ j ↔ ∃ t ∈ ts, p t)) ∧ Gives env1 53 [sl1 false lab ts sp, .fn g []] ob pb (.int .i64 j, ob) by
    obtain ⟨j, h1, h2⟩ := h
    exact ⟨j, by rw [Bool.eq_iff_iff, decide_eq_true_eq, hr, ← h1], h2⟩
  obtain ⟨j, hj0, hj1, hj2⟩ : ∃ j : Int, (0 ≤ j ↔ ∃ c ∈ ts, p c) ∧ (∀ (i : Nat) c, ts[i]? = some c → p c → (∀ k d, k < i → ts[k]? = some d → ¬ p d) → j = i) ∧ ((∀ (k : Nat) d, ts[k]? = some d → ¬ p d) → j = -1) := by
    by_cases h : ∃ c ∈ ts, p c
    · have : ∃ (i : Nat) (c : T1), ts[i]? = some c ∧ p c ∧ ∀ k d, k < i → ts[k]? = some d → ¬ p d := by
        apply Classical.byContradiction
        intro hn
        have all : ∀ n : Nat, ∀ k d, k < n → ts[k]? = some d → ¬ p d := by
          intro n
          induction n with
          | zero => intro k d hk; omega
          | succ n ih =>
            intro k d hk hd hp
            by_cases hkn : k < n
            · exact ih k d hkn hd hp
            · have : k = n := by omega
              subst this
              exact hn ⟨k, d, hd, hp, ih⟩
        obtain ⟨c, hc, hp⟩ := h
        obtain ⟨i, hi, e⟩ := List.getElem_of_mem hc
        exact all (i + 1) i c (by omega) (by rw [List.getElem?_eq_getElem hi, e]) hp
      obtain ⟨i, c, h1, h2, h3⟩ := this
      refine ⟨i, ⟨fun _ => h, fun _ => by omega⟩, fun i' c' h4 h5 h6 => ?_, fun h4 => absurd h2 (h4 i c h1)⟩
      rcases Nat.lt_trichotomy i i' with h7 | h7 | h7
      · exact absurd h2 (h6 i c h7 h1)
      · rw [h7]
      · exact absurd h5 (h3 i' c' h7 h4)
    · exact ⟨-1, ⟨fun h' => by omega, fun h' => absurd h' h⟩, fun i c h1 h2 _ => absurd ⟨c, List.mem_of_getElem? h1, h2⟩ h, fun _ => rfl⟩
  refine ⟨j, hj0, ?_⟩
  refine gives_code (f := tf53) rfl ?_
  conv => whnf
  refine loop_abs (S := fun i : Nat => S53 (sl1 false lab ts sp) (.fn g []) (ts.map T1.row).length i ob) (m := fun i => ts.length - i) (P := fun i => i ≤ ts.length ∧ ∀ k d, k < i → ts[k]? = some d → ¬ p d) ?_ 0 ⟨Nat.zero_le _, fun k s h => by omega⟩ rfl
  rintro R i ⟨hi, hP⟩ hN hE hR
  conv => whnf
  refine sel_split (fun h => ?_) (fun h => ?_)
  · conv => whnf
    have h := of_decide_eq_true h
    rw [hlen] at h
    obtain ⟨c, hc⟩ : ∃ c, ts[i]? = some c := ⟨_, List.getElem?_eq_getElem (show i < ts.length by omega)⟩
    refine ⟨_, ⟨by omega, idx_t hc⟩, ?_⟩
    conv => whnf
    obtain ⟨q, hq⟩ := boolOf (p c)
    refine ⟨_, _, hg c (List.mem_of_getElem? hc) ob _ q hq, fun _ => rfl, ?_⟩
    conv => whnf
    refine sel_split (fun h2 => ?_) (fun h2 => ?_)
    · conv => whnf
      refine hR _ ?_
      conv => whnf
      refine ⟨rfl, ?_, rfl⟩
      rw [hj1 i c hc (hq.1 h2) hP]; rfl
    · conv => whnf
      have e : IntKind.i64.wrap ((i : Int) + 1) = ((i + 1 : Nat) : Int) := by rw [wrap64] <;> omega
      refine hN (i + 1) _ ⟨by omega, fun k d hk hd => ?_⟩ (by omega) ?_
      · by_cases hki : k = i
        · subst hki; rw [hc] at hd; cases hd
          intro hp; rw [hq.2 hp] at h2; cases h2
        · exact hP k d (by omega) hd
      · rw [← e]; rfl
  · conv => whnf
    have h := of_decide_eq_false h
    rw [hlen] at h
    refine hE _ _ ?_
    conv => whnf
    refine ⟨rfl, ?_, rfl⟩
    rw [hj2 (fun k d hk => hP k d (by have := (List.getElem?_eq_some_iff.1 hk).1; omega) hk)]; rfl
theorem hasT_ok (g lab : Nat) (ts : List T1) (sp : List (List LV)) (p : T1 → Prop) (hl : ts.length ≤ 4611686018427387904) (hg : ∀ t ∈ ts, ∀ ob pb (r : Bool), (r = true ↔ p t) → Gives env1 g t.row ob pb (.bool r, ob)) (ob : Obs) (pb : Nat) (r : Bool) (hr : r = true ↔ ∃ t ∈ ts, p t) :
    Gives env1 33 [sl1 false lab ts sp, .fn g []] ob pb (.bool r, ob) := by
  obtain ⟨j, hj, hgv⟩ := anyT_ok g lab ts sp p hl hg ob (max pb ob.length) r hr
  refine gives_code (f := tf33) rfl ?_
  conv => whnf
  refine ⟨_, _, hgv, fun _ => rfl, ?_⟩
  conv => whnf
  refine ⟨rfl, ?_, rfl⟩
  show LV.bool _ = LV.bool r
  rw [hj]
def catN (ts : List T1) (i : Nat) : List C := (ts.take i).flatMap T1.cs
theorem catN_succ {ts : List T1} {i : Nat} {t : T1} (h : ts[i]? = some t) : catN ts (i + 1) = catN ts i ++ t.cs := by
  unfold catN; rw [List.take_add_one, h]; simp
theorem catN_le {ts : List T1} (i : Nat) : (catN ts i).length ≤ (ts.flatMap T1.cs).length := by
  have : ts.flatMap T1.cs = catN ts i ++ (ts.drop i).flatMap T1.cs := by
    unfold catN; rw [← List.flatMap_append, List.take_append_drop]
  rw [this]; simp
def S35 (v : LV) (sz : Int) (n : Nat) (i : Int) (ob : Obs) : WSt := ⟨.val v :: .val .undef :: .val .undef :: .val (.int .i64 sz) :: List.replicate 5 (.val .undef) ++ .val v :: .val (.int .i64 n) :: .val (.int .i64 i) :: List.replicate 24 (.val .undef), ob, []⟩
def S35b (v o : LV) (n : Nat) (i : Int) (ob : Obs) : WSt := ⟨List.replicate 6 (.val .undef) ++ .val o :: List.replicate 18 (.val .undef) ++ .val v :: .val (.int .i64 n) :: .val (.int .i64 i) :: List.replicate 8 (.val .undef), ob, []⟩
theorem concat_ok (lab : Nat) (ts : List T1) (sp : List (List LV)) (h1 : ts.length ≤ 1048576) (h2 : (ts.flatMap T1.cs).length ≤ 1048576) (ob : Obs) (pb : Nat) : Gives env1 35 [sl1 false lab ts sp] ob pb (sl5 true 0 (ts.flatMap T1.cs) [], ob) := by
  have hlen : (ts.map T1.row).length = ts.length := by simp
  refine gives_code (f := tf35) rfl ?_
  conv => whnf
  refine loop_abs (S := fun i : Nat => S35 (sl1 false lab ts sp) ((catN ts i).length : Int) (ts.map T1.row).length i ob) (m := fun i => ts.length - i) (P := fun i => i ≤ ts.length) ?_ 0 (Nat.zero_le _) rfl
  intro R i hi hN hE hR
  conv => whnf
  refine sel_split (fun h => ?_) (fun h => ?_)
  · conv => whnf
    have h := of_decide_eq_true h
    rw [hlen] at h
    obtain ⟨t, ht⟩ : ∃ c, ts[i]? = some c := ⟨_, List.getElem?_eq_getElem (show i < ts.length by omega)⟩
    refine ⟨_, ⟨by omega, idx_t ht⟩, ?_⟩
    conv => whnf
    have hc := catN_succ ht
    have hle := catN_le (ts := ts) (i + 1)
    have e1 : IntKind.i64.wrap (((catN ts i).length : Int) + ((t.cs.map C.row).length : Int)) = ((catN ts (i + 1)).length : Int) := by
      rw [hc] at hle ⊢
      simp only [List.length_append] at hle
      simp only [List.length_append, List.length_map]
      rw [wrap64] <;> omega
    have e : IntKind.i64.wrap ((i : Int) + 1) = ((i + 1 : Nat) : Int) := by rw [wrap64] <;> omega
    refine sel_f ?_ ?_
    · rw [e1]; simp
    · conv => whnf
      refine hN (i + 1) _ (by omega) (by omega) ?_
      rw [← e, ← e1]; rfl
  · conv => whnf
    have h := of_decide_eq_false h
    rw [hlen] at h
    have : i = ts.length := by omega
    subst this
    have hall : catN ts ts.length = ts.flatMap T1.cs := by unfold catN; rw [List.take_length]
    refine hE _ _ ?_
    conv => whnf
    refine ⟨_, _, gives_ext (F := growF 5 48) (r := .sl true 0 5 [] []) rfl ?_, fun _ => by simp [LV.noRef, LV.noRefss], ?_⟩
    · rw [hall]
      simp only [growF, growF0]
      rw [if_pos ⟨trivial, by omega, by omega, by omega⟩]
    conv => whnf
    refine loop_abs (S := fun i : Nat => S35b (sl1 false lab ts sp) (sl5 true 0 (catN ts i) []) (ts.map T1.row).length i ob) (m := fun i => ts.length - i) (P := fun i => i ≤ ts.length) ?_ 0 (Nat.zero_le _) rfl
    intro R' i hi hN' hE' hR'
    conv => whnf
    refine sel_split (fun h => ?_) (fun h => ?_)
    · conv => whnf
      have h := of_decide_eq_true h
      rw [hlen] at h
      obtain ⟨t, ht⟩ : ∃ c, ts[i]? = some c := ⟨_, List.getElem?_eq_getElem (show i < ts.length by omega)⟩
      refine ⟨_, ⟨by omega, idx_t ht⟩, ?_⟩
      conv => whnf
      have hc := catN_succ ht
      have hle := catN_le (ts := ts) (i + 1)
      refine ⟨(catN ts (i + 1)).map C.row, ⟨.inl rfl, ?_, ?_⟩, ?_⟩
      · rw [hc] at hle
        simp only [List.length_append] at hle
        simp only [List.length_map]; omega
      · rw [hc]; simp
      conv => whnf
      have e : IntKind.i64.wrap ((i : Int) + 1) = ((i + 1 : Nat) : Int) := by rw [wrap64] <;> omega
      refine hN' (i + 1) _ (by omega) (by omega) ?_
      rw [← e]; rfl
    · conv => whnf
      have h := of_decide_eq_false h
      rw [hlen] at h
      have : i = ts.length := by omega
      subst this
      refine hE' _ _ ?_
      conv => whnf
      refine ⟨rfl, ?_, rfl⟩
      rw [hall]; rfl
end Tree

set_option autoImplicit false
set_option linter.unusedVariables false
set_option linter.unusedSimpArgs false
namespace Tree
open Go
set_option maxHeartbeats 4000000
set_option maxRecDepth 100000
def cStr (s : ByteArray) (n : Int) : C := ⟨3, s, n, 0, 0⟩
theorem fineStr (s : ByteArray) (n : Int) (h : s.size ≤ maxLen) : (cStr s n).fine := ⟨h, (by decide : (0 : Int) ≤ 3), (by decide : (3 : Int) ≤ 255)⟩
def MakesP (s : ByteArray) (ts : List T1) : Prop := okC (cStr s ts.length) ∧ ∀ t ∈ ts, RightP t.cs
open Classical in
noncomputable def makeR (s : ByteArray) (ts : List T1) : List C × Int :=
  if MakesP s ts then (if (cStr s ts.length :: ts.flatMap T1.cs).length > 256 then ([], 5) else (cStr s ts.length :: ts.flatMap T1.cs, 0)) else ([], 6)
theorem flat_le : ∀ ts : List T1, (∀ t ∈ ts, t.cs.length ≤ 256) → (ts.flatMap T1.cs).length ≤ 256 * ts.length
  | [], _ => by simp
  | t :: ts, h => by
    have h1 := h t (List.mem_cons_self ..)
    have h2 := flat_le ts (fun u hu => h u (List.mem_cons_of_mem _ hu))
    rw [List.flatMap_cons, List.length_append, List.length_cons]; omega
theorem makes_len {s : ByteArray} {ts : List T1} (h : okC (cStr s ts.length)) : ts.length ≤ 8 := by
  rcases h with h | h | h | h
  · exact absurd h.1 (by show (3 : Int) ≠ 1; decide)
  · exact absurd h.1 (by show (3 : Int) ≠ 2; decide)
  · rcases h.2.2 with h | h
    · have := h.2.2; simp only [cStr] at this; omega
    · have := h.2; simp only [cStr] at this; omega
  · exact absurd h.1 (by show (3 : Int) ≠ 4; decide)
def makeV (p : List C × Int) : LV := .tup [sl5 false 0 p.1 [], .int .i64 p.2]
theorem makeR_no {s : ByteArray} {ts : List T1} (h : ¬ MakesP s ts) : makeR s ts = ([], 6) := by unfold makeR; rw [if_neg h]
theorem make_ok (s : ByteArray) (hs : s.size ≤ maxLen) (lab : Nat) (ts : List T1) (sp : List (List LV)) (hl : ts.length ≤ 4611686018427387904) (hf : ∀ t ∈ ts, t.fine) (ob : Obs) (pb : Nat) : Gives env1 7 [.str s, sl1 false lab ts sp] ob pb (makeV (makeR s ts), ob) := by
  have hlen : (ts.map T1.row).length = ts.length := by simp
  obtain ⟨q, hq⟩ := boolOf (okC (cStr s ts.length))
  obtain ⟨g, hg⟩ := boolOf (∃ t ∈ ts, ¬ RightP t.cs)
  refine gives_code (f := tf7) rfl ?_
  conv => whnf
  refine ⟨_, _, rule_ok 3 (by decide) (by decide) ob _, fun _ => rfl, ?_⟩
  conv => whnf
  refine ⟨_, _, holds_ok (cStr s (ts.map T1.row).length) (fineStr _ _ hs) ob _ q (by rw [hlen]; exact hq), fun _ => rfl, ?_⟩
  conv => whnf
  refine sel_split (fun h1 => ?_) (fun h1 => ?_)
  · conv => whnf
    have h1 : q = false := by simpa using h1
    refine ⟨rfl, ?_, rfl⟩
    rw [makeR_no (fun h => by have := hq.2 h.1; rw [h1] at this; cases this)]; rfl
  · conv => whnf
    have h1 : q = true := by simpa using h1
    refine ⟨_, _, hasT_ok 34 lab ts sp (fun t => ¬ RightP t.cs) hl (fun t ht ob pb r hr => notRight_ok t (hf t ht) ob pb r hr) ob _ g hg, fun _ => rfl, ?_⟩
    conv => whnf
    refine sel_split (fun h2 => ?_) (fun h2 => ?_)
    · conv => whnf
      refine ⟨rfl, ?_, rfl⟩
      rw [makeR_no (fun h => by obtain ⟨t, ht, hn⟩ := hg.1 h2; exact hn (h.2 t ht))]; rfl
    · conv => whnf
      have hm : MakesP s ts := ⟨hq.1 h1, fun t ht => Classical.byContradiction fun hn => by rw [hg.2 ⟨t, ht, hn⟩] at h2; cases h2⟩
      have h8 := makes_len hm.1
      have hfl := flat_le ts (fun t ht => (hm.2 t ht).2.1)
      refine ⟨_, _, concat_ok lab ts sp (by omega) (by omega) ob _, fun _ => noRef5 _ _ _ _, ?_⟩
      conv => whnf
      refine ⟨(cStr s ts.length :: ts.flatMap T1.cs).map C.row, ⟨.inl rfl, ?_, ?_⟩, ?_⟩
      · show (1 + ((ts.flatMap T1.cs).map C.row).length) * 48 ≤ _
        rw [List.length_map]; omega
      · rw [hlen]; rfl
      conv => whnf
      have hlen2 : ((cStr s ts.length :: ts.flatMap T1.cs).map C.row).length = (cStr s ts.length :: ts.flatMap T1.cs).length := List.length_map ..
      refine sel_split (fun h3 => ?_) (fun h3 => ?_)
      · conv => whnf
        rw [hlen2] at h3
        have h3 := of_decide_eq_true h3
        refine ⟨rfl, ?_, rfl⟩
        have : makeR s ts = ([], 5) := by unfold makeR; rw [if_pos hm, if_pos (by omega)]
        rw [this]; rfl
      · conv => whnf
        rw [hlen2] at h3
        have h3 := of_decide_eq_false h3
        refine ⟨rfl, ?_, rfl⟩
        have : makeR s ts = (cStr s ts.length :: ts.flatMap T1.cs, 0) := by unfold makeR; rw [if_pos hm, if_neg (by omega)]
        rw [this]; rfl
end Tree

set_option autoImplicit false
set_option linter.unusedVariables false
set_option linter.unusedSimpArgs false
namespace Tree
open Go
def ar (c : C) : Nat := (partsC c).toNat
/-- What is left behind o whole terms. -/
def walk : List C → Nat → Option (List C)
  | l, 0 => some l
  | [], _ + 1 => none
  | c :: r, o + 1 => walk r (o + ar c)
theorem walk_zero (l : List C) : walk l 0 = some l := by cases l <;> rfl
theorem walk_le : ∀ (l : List C) (o : Nat) (r : List C), walk l o = some r → o ≤ l.length ∧ r.length ≤ l.length
  | l, 0, r, h => by rw [walk_zero] at h; cases h; exact ⟨Nat.zero_le _, Nat.le_refl _⟩
  | [], o + 1, r, h => by simp [walk] at h
  | c :: l, o + 1, r, h => by
    rw [walk] at h
    have := walk_le l _ r h
    simp only [List.length_cons]; omega
theorem ok_parts {c : C} (h : okC c) : partsC c = (ar c : Int) ∧ ar c ≤ 8 := by
  unfold ar partsC
  rcases h with h | h | h | h
  · rw [if_neg (by rw [h.1]; decide)]; exact ⟨rfl, by decide⟩
  · rw [if_neg (by rw [h.1]; decide)]; exact ⟨rfl, by decide⟩
  · rw [if_pos h.1]
    rcases h.2.2 with g | g
    · rw [if_neg (by omega)]; omega
    · rw [if_neg (by omega)]; omega
  · rw [if_neg (by rw [h.1]; decide)]; exact ⟨rfl, by decide⟩
theorem w64_id {x : Int} (h1 : -9223372036854775808 ≤ x) (h2 : x ≤ 9223372036854775807) : w64 x = x := wrap64 h1 h2
theorem scan_walk (L : Nat) : ∀ (l : List C) (o p : Nat), (∀ c ∈ l, okC c) → l.length ≤ L → o + 8 * l.length ≤ 4611686018427387904 →
    scanE L l (o : Int) p = match walk l o with | some r => ((p + (l.length - r.length) : Nat) : Int) | none => 0
  | l, 0, p, _, _, _ => by
    rw [walk_zero]
    cases l <;> simp [scanE]
  | [], o + 1, p, _, _, _ => by
    have : ¬ ((o + 1 : Nat) : Int) ≤ 0 := by omega
    simp only [scanE, walk, if_neg this]
  | c :: l, o + 1, p, h, hL, hb => by
    have h0 : ¬ ((o + 1 : Nat) : Int) ≤ 0 := by omega
    obtain ⟨hp, h8⟩ := ok_parts (h c (List.mem_cons_self ..))
    simp only [List.length_cons] at hL hb
    simp only [scanE, walk, if_neg h0, hp]
    by_cases hgt : ((ar c : Nat) : Int) > (L : Int)
    · rw [if_pos hgt]
      have : walk l (o + ar c) = none := by
        cases hw : walk l (o + ar c) with
        | none => rfl
        | some r => have := (walk_le l _ r hw).1; omega
      rw [this]
    · rw [if_neg hgt]
      have e : w64 (((o + 1 : Nat) : Int) + w64 ((ar c : Int) - 1)) = ((o + ar c : Nat) : Int) := by
        rw [w64_id (x := (ar c : Int) - 1) (by omega) (by omega), w64_id (by omega) (by omega)]; omega
      rw [e, scan_walk L l (o + ar c) (p + 1) (fun d hd => h d (List.mem_cons_of_mem _ hd)) (by omega) (by omega)]
      cases hw : walk l (o + ar c) with
      | none => rfl
      | some r =>
        have := (walk_le l _ r hw).2
        simp only [List.length_cons]
        congr 1; omega
theorem right_walk (cs : List C) : RightP cs ↔ cs ≠ [] ∧ cs.length ≤ 256 ∧ walk cs 1 = some [] ∧ ∀ c ∈ cs, okC c := by
  unfold RightP
  constructor
  · rintro ⟨h1, h2, h3, h4⟩
    refine ⟨h1, h2, ?_, h4⟩
    have hlen : 0 < cs.length := List.length_pos_iff.2 h1
    have he : endE cs 0 = scanE cs.length cs ((1 : Nat) : Int) 0 := by
      unfold endE; rw [if_neg (by omega)]; rfl
    rw [he, scan_walk cs.length cs 1 0 h4 (Nat.le_refl _) (by omega)] at h3
    cases hw : walk cs 1 with
    | none => rw [hw] at h3; simp only at h3; omega
    | some r =>
      rw [hw] at h3; simp only at h3
      have := (walk_le cs 1 r hw).2
      have : r.length = 0 := by omega
      rw [List.length_eq_zero_iff.1 this]
  · rintro ⟨h1, h2, h3, h4⟩
    refine ⟨h1, h2, ?_, h4⟩
    have hlen : 0 < cs.length := List.length_pos_iff.2 h1
    have he : endE cs 0 = scanE cs.length cs ((1 : Nat) : Int) 0 := by
      unfold endE; rw [if_neg (by omega)]; rfl
    rw [he, scan_walk cs.length cs 1 0 h4 (Nat.le_refl _) (by omega), h3]
    simp
end Tree

set_option autoImplicit false
set_option linter.unusedVariables false
set_option linter.unusedSimpArgs false
namespace Tree
open Go
set_option maxHeartbeats 4000000
set_option maxRecDepth 100000
end Tree

set_option autoImplicit false
set_option linter.unusedVariables false
set_option linter.unusedSimpArgs false
namespace Tree
open Go
set_option maxHeartbeats 4000000
set_option maxRecDepth 100000
def T1.mk0 (e : List C) : T1 := ⟨0, e, []⟩
end Tree

set_option autoImplicit false
set_option linter.unusedVariables false
set_option linter.unusedSimpArgs false
namespace Tree
open Go
set_option maxHeartbeats 4000000
set_option maxRecDepth 100000
end Tree

set_option autoImplicit false
set_option linter.unusedVariables false
set_option linter.unusedSimpArgs false
namespace Tree
open Go
set_option maxHeartbeats 4000000
set_option maxRecDepth 100000
def locC (c : C) : Prop := c.k = 4 ∧ c.node = -1
theorem loc_ok (c : C) (ob : Obs) (pb : Nat) (r : Bool) (hr : r = true ↔ locC c) : Gives env1 44 [c.lv] ob pb (.bool r, ob) := by
  refine gives_code (f := tf44) rfl ?_
  conv => whnf
  refine sel_split (fun h => ?_) (fun h => ?_)
  · conv => whnf
    refine ⟨rfl, bool_of hr ?_, rfl⟩
    unfold locC; simp at h; simp [h]
  · conv => whnf
    refine ⟨rfl, bool_of hr ?_, rfl⟩
    unfold locC; simp at h; simp [h]
def GlobalP (cs : List C) : Prop := RightP cs ∧ ∀ c ∈ cs, ¬ locC c
theorem global_ok (lab : Nat) (cs : List C) (sp : List (List LV)) (hl : cs.length ≤ 4611686018427387904) (hf : ∀ c ∈ cs, c.fine) (ob : Obs) (pb : Nat) (r : Bool) (hr : r = true ↔ GlobalP cs) : Gives env1 25 [sl5 false lab cs sp] ob pb (.bool r, ob) := by
  obtain ⟨q, hq⟩ := boolOf (RightP cs)
  obtain ⟨g, hg⟩ := boolOf (∃ c ∈ cs, locC c)
  refine gives_code (f := tf25) rfl ?_
  conv => whnf
  refine ⟨_, _, right_ok lab cs sp hl hf ob _ q hq, fun _ => rfl, ?_⟩
  conv => whnf
  refine sel_split (fun h => ?_) (fun h => ?_)
  · conv => whnf
    refine ⟨_, _, anyFn_ok 44 lab cs sp locC hl (fun c hc ob pb r hr => loc_ok c ob pb r hr) ob _ g hg, fun _ => rfl, ?_⟩
    conv => whnf
    refine ⟨rfl, bool_of hr ?_, rfl⟩
    have : (!g) = true ↔ ∀ c ∈ cs, ¬ locC c := by
      rw [Bool.not_eq_true', ← Bool.not_eq_true, hg]
      constructor
      · intro h c hc hn; exact h ⟨c, hc, hn⟩
      · rintro h ⟨c, hc, hn⟩; exact h c hc hn
    rw [this]
    exact ⟨fun h2 => ⟨hq.1 h, h2⟩, fun h2 => h2.2⟩
  · conv => whnf
    refine ⟨rfl, bool_of hr ⟨fun e => (nomatch e), fun hw => by rw [hq.2 hw.1] at h; cases h⟩, rfl⟩
end Tree

set_option autoImplicit false
set_option linter.unusedVariables false
set_option linter.unusedSimpArgs false
namespace Tree
open Go
set_option maxHeartbeats 4000000
set_option maxRecDepth 100000
end Tree

set_option autoImplicit false
set_option linter.unusedVariables false
set_option linter.unusedSimpArgs false
namespace Tree
open Go
set_option maxHeartbeats 4000000
set_option maxRecDepth 100000
end Tree
