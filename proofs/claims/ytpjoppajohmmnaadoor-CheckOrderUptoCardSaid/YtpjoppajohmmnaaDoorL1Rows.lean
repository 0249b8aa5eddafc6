/- Layer 1: copies and comparisons of terms and of rows of terms, what E answers. -/
import Derived.Test.YtpjoppajohmmnaaDoorL1Ref2
set_option autoImplicit false
set_option linter.unusedVariables false
set_option linter.unusedSimpArgs false
namespace Tree
open Go
set_option maxHeartbeats 4000000
set_option maxRecDepth 100000
abbrev sl5 (o : Bool) (l : Nat) (cs : List C) (sp : List (List LV)) : LV := .sl o l 5 (cs.map C.row) sp
/-- A term in a row of terms. -/
structure T1 where
  lab : Nat
  cs : List C
  sp : List (List LV)
def T1.row (t : T1) : List LV := [.sl false t.lab 5 (t.cs.map C.row) t.sp]
def T1.own (t : T1) : T1 := ⟨0, t.cs, []⟩
abbrev sl1 (o : Bool) (l : Nat) (ts : List T1) (sp : List (List LV)) : LV := .sl o l 1 (ts.map T1.row) sp
theorem idx_t {ts : List T1} {i : Nat} {t : T1} (h : ts[i]? = some t) : (ts.map T1.row)[i]? = some [.sl false t.lab 5 (t.cs.map C.row) t.sp] := by
  rw [List.getElem?_map, h]; rfl
theorem noRef_rows (n : Nat) : ∀ cs : List C, LV.noRefss n (cs.map C.row) = true
  | [] => by simp [LV.noRefss]
  | c :: cs => by simp [LV.noRefss, noRef_rows n cs, C.row, LV.noRefs, LV.noRef]
theorem noRef5 (n : Nat) (o : Bool) (l : Nat) (cs : List C) : (sl5 o l cs []).noRef n = true := by simp [LV.noRef, LV.noRefss, noRef_rows]
theorem lent_ok (lab : Nat) (cs : List C) (sp : List (List LV)) (hb : cs.length * 48 ≤ 140737488355328) (ob : Obs) (pb : Nat) : Gives env1 19 [sl5 false lab cs sp] ob pb (sl5 true 0 cs [], ob) := by
  refine gives_code (f := tf19) rfl ?_
  conv => whnf
  refine ⟨cs.map C.row, ⟨.inl rfl, by simpa using hb, by simp⟩, ?_⟩
  conv => whnf
  exact ⟨rfl, rfl, rfl⟩
theorem copied_ok (lab : Nat) (cs : List C) (sp : List (List LV)) (hb : cs.length * 48 ≤ 140737488355328) (ob : Obs) (pb : Nat) : Gives env1 45 [sl5 false lab cs sp] ob pb (sl5 true 0 cs [], ob) := by
  refine gives_code (f := tf45) rfl ?_
  conv => whnf
  refine ⟨cs.map C.row, ⟨.inl rfl, by simpa using hb, by simp⟩, ?_⟩
  conv => whnf
  exact ⟨rfl, rfl, rfl⟩
def S6 (v o : LV) (i : Int) (ob : Obs) : WSt := ⟨.val v :: .val .undef :: .val .undef :: .val o :: .val (.int .i64 i) :: List.replicate 15 (.val .undef), ob, []⟩
theorem rows_ok (lab : Nat) (ts : List T1) (sp : List (List LV)) (hl : ts.length * 24 ≤ 140737488355328) (hb : ∀ t ∈ ts, t.cs.length * 48 ≤ 140737488355328) (ob : Obs) (pb : Nat) : Gives env1 6 [sl1 false lab ts sp] ob pb (sl1 true 0 (ts.map T1.own) [], ob) := by
  have hlen : (ts.map T1.row).length = ts.length := by simp
  refine gives_code (f := tf6) rfl ?_
  conv => whnf
  refine loop_abs (S := fun i : Nat => S6 (sl1 false lab ts sp) (sl1 true 0 ((ts.take i).map T1.own) []) i ob) (m := fun i => ts.length - i) (P := fun i => i ≤ ts.length) ?_ 0 (Nat.zero_le _) rfl
  intro R i hi hN hE hR
  conv => whnf
  refine sel_split (fun h => ?_) (fun h => ?_)
  · conv => whnf
    have h := of_decide_eq_true h
    rw [hlen] at h
    obtain ⟨t, ht⟩ : ∃ t, ts[i]? = some t := ⟨_, List.getElem?_eq_getElem (show i < ts.length by omega)⟩
    refine ⟨_, ⟨by omega, idx_t ht⟩, ?_⟩
    conv => whnf
    refine ⟨_, _, lent_ok t.lab t.cs t.sp (hb t (List.mem_of_getElem? ht)) ob _, fun _ => noRef5 _ _ _ _, ?_⟩
    conv => whnf
    refine ⟨((ts.take (i + 1)).map T1.own).map T1.row, ⟨.inl rfl, ?_, ?_⟩, ?_⟩
    · simp; rw [Nat.min_eq_left hi]; omega
    · rw [List.take_add_one, ht]; simp [T1.row, T1.own]; rfl
    conv => whnf
    have e : IntKind.i64.wrap ((i : Int) + 1) = ((i + 1 : Nat) : Int) := by rw [wrap64] <;> omega
    refine hN (i + 1) _ (by omega) (by omega) ?_
    rw [← e]; rfl
  · conv => whnf
    have h := of_decide_eq_false h
    rw [hlen] at h
    have : i = ts.length := by omega
    subst this
    refine hE _ _ ?_
    conv => whnf
    refine ⟨rfl, ?_, rfl⟩
    rw [List.take_length]; rfl
def S11 (v o : LV) (i : Int) (n : Nat) (ob : Obs) : WSt := ⟨.val v :: .val o :: .val .undef :: .val .undef :: .val .undef :: .val (.int .i64 i) :: List.replicate n (.val .undef), ob, []⟩
theorem equal_ok (l1 l2 : Nat) (us vs : List C) (s1 s2 : List (List LV)) (hl : us.length ≤ 4611686018427387904) (ob : Obs) (pb : Nat) (r : Bool) (hr : r = true ↔ us = vs) : Gives env1 11 [sl5 false l1 us s1, sl5 false l2 vs s2] ob pb (.bool r, ob) := by
  have ha : (us.map C.row).length = us.length := by simp
  have hb : (vs.map C.row).length = vs.length := by simp
  have no : us ≠ vs → LV.bool false = LV.bool r := fun h => bool_of hr ⟨fun e => (nomatch e), fun e => absurd e h⟩
  refine gives_code (f := tf11) rfl ?_
  conv => whnf
  refine sel_split (fun h => ?_) (fun h => ?_)
  · conv => whnf
    rw [ha, hb] at h
    exact ⟨rfl, no (fun e => by subst e; simp at h), rfl⟩
  · conv => whnf
    rw [ha, hb] at h
    have hab : us.length = vs.length := by simp at h; omega
    refine loop_abs (S := fun i : Nat => S11 (sl5 false l1 us s1) (sl5 false l2 vs s2) i 20 ob) (m := fun i => us.length - i) (P := fun i => i ≤ us.length ∧ ∀ k, k < i → us[k]? = vs[k]?) ?_ 0 ⟨Nat.zero_le _, fun k h => by omega⟩ rfl
    rintro R i ⟨hi, hP⟩ hN hE hR
    conv => whnf
    refine sel_split (fun h2 => ?_) (fun h2 => ?_)
    · conv => whnf
      have h2 := of_decide_eq_true h2
      rw [ha] at h2
      obtain ⟨a, hA⟩ : ∃ t, us[i]? = some t := ⟨_, List.getElem?_eq_getElem (show i < us.length by omega)⟩
      obtain ⟨b, hB⟩ : ∃ t, vs[i]? = some t := ⟨_, List.getElem?_eq_getElem (show i < vs.length by omega)⟩
      refine ⟨_, ⟨by omega, idx_row hA⟩, ?_⟩
      conv => whnf
      refine ⟨_, ⟨by omega, idx_row hB⟩, ?_⟩
      conv => whnf
      refine sel_split (fun h3 => ?_) (fun h3 => ?_)
      · conv => whnf
        have h3 : a ≠ b := by intro e; subst e; simp at h3
        refine hR _ ?_
        conv => whnf
        refine ⟨rfl, no (fun e => ?_), rfl⟩
        rw [e, hB] at hA; cases hA; exact h3 rfl
      · conv => whnf
        have h3 : a = b := by simp [bytes_eq] at h3; exact C.ext_iff'.2 h3
        have e : IntKind.i64.wrap ((i : Int) + 1) = ((i + 1 : Nat) : Int) := by rw [wrap64] <;> omega
        refine hN (i + 1) _ ⟨by omega, fun k hk => ?_⟩ (by omega) ?_
        · by_cases hki : k = i
          · subst hki; rw [hA, hB, h3]
          · exact hP k (by omega)
        · rw [← e]; rfl
    · conv => whnf
      have h2 := of_decide_eq_false h2
      rw [ha] at h2
      refine hE _ _ ?_
      conv => whnf
      refine ⟨rfl, bool_of hr ⟨fun _ => ?_, fun _ => rfl⟩, rfl⟩
      apply List.ext_getElem?
      intro k
      by_cases hk : k < i
      · exact hP k hk
      · rw [List.getElem?_eq_none (by omega), List.getElem?_eq_none (by omega)]
theorem sameTerms_ok (l1 l2 : Nat) (us vs : List T1) (s1 s2 : List (List LV)) (hl : us.length ≤ 4611686018427387904) (hc : ∀ t ∈ us, t.cs.length ≤ 4611686018427387904) (ob : Obs) (pb : Nat) (r : Bool) (hr : r = true ↔ us.map T1.cs = vs.map T1.cs) :
    Gives env1 16 [sl1 false l1 us s1, sl1 false l2 vs s2] ob pb (.bool r, ob) := by
  have ha : (us.map T1.row).length = us.length := by simp
  have hb : (vs.map T1.row).length = vs.length := by simp
  have no : us.map T1.cs ≠ vs.map T1.cs → LV.bool false = LV.bool r := fun h => bool_of hr ⟨fun e => (nomatch e), fun e => absurd e h⟩
  refine gives_code (f := tf16) rfl ?_
  conv => whnf
  refine sel_split (fun h => ?_) (fun h => ?_)
  · conv => whnf
    rw [ha, hb] at h
    exact ⟨rfl, no (fun e => by have := congrArg List.length e; simp at this; simp [this] at h), rfl⟩
  · conv => whnf
    rw [ha, hb] at h
    have hab : us.length = vs.length := by simp at h; omega
    refine loop_abs (S := fun i : Nat => S11 (sl1 false l1 us s1) (sl1 false l2 vs s2) i 21 ob) (m := fun i => us.length - i) (P := fun i => i ≤ us.length ∧ ∀ k, k < i → (us.map T1.cs)[k]? = (vs.map T1.cs)[k]?) ?_ 0 ⟨Nat.zero_le _, fun k h => by omega⟩ rfl
    rintro R i ⟨hi, hP⟩ hN hE hR
    conv => whnf
    refine sel_split (fun h2 => ?_) (fun h2 => ?_)
    · conv => whnf
      have h2 := of_decide_eq_true h2
      rw [ha] at h2
      obtain ⟨a, hA⟩ : ∃ t, us[i]? = some t := ⟨_, List.getElem?_eq_getElem (show i < us.length by omega)⟩
      obtain ⟨b, hB⟩ : ∃ t, vs[i]? = some t := ⟨_, List.getElem?_eq_getElem (show i < vs.length by omega)⟩
      refine ⟨_, ⟨by omega, idx_t hA⟩, ?_⟩
      conv => whnf
      refine ⟨_, ⟨by omega, idx_t hB⟩, ?_⟩
      conv => whnf
      obtain ⟨q, hq⟩ := boolOf (a.cs = b.cs)
      refine ⟨_, _, equal_ok a.lab b.lab a.cs b.cs a.sp b.sp (hc a (List.mem_of_getElem? hA)) ob _ q hq, fun _ => rfl, ?_⟩
      conv => whnf
      refine sel_split (fun h3 => ?_) (fun h3 => ?_)
      · conv => whnf
        refine hR _ ?_
        conv => whnf
        refine ⟨rfl, no (fun e => ?_), rfl⟩
        have := congrArg (·[i]?) e
        simp [hA, hB] at this
        rw [hq.2 this] at h3; cases h3
      · conv => whnf
        have h3 : a.cs = b.cs := hq.1 (by simpa using h3)
        have e : IntKind.i64.wrap ((i : Int) + 1) = ((i + 1 : Nat) : Int) := by rw [wrap64] <;> omega
        refine hN (i + 1) _ ⟨by omega, fun k hk => ?_⟩ (by omega) ?_
        · by_cases hki : k = i
          · subst hki; simp [hA, hB, h3]
          · exact hP k (by omega)
        · rw [← e]; rfl
    · conv => whnf
      have h2 := of_decide_eq_false h2
      rw [ha] at h2
      refine hE _ _ ?_
      conv => whnf
      refine ⟨rfl, bool_of hr ⟨fun _ => ?_, fun _ => rfl⟩, rfl⟩
      apply List.ext_getElem?
      intro k
      by_cases hk : k < i
      · exact hP k hk
      · rw [List.getElem?_eq_none (by simp; omega), List.getElem?_eq_none (by simp; omega)]
end Tree
