/- Layer 1: copies and comparisons of terms and of rows of terms, what E answers. -/
import Derived.Test.YtoofpbdalgopgaaDoorTLa
import Derived.Test.YtoofpbdalgopgaaDoorL1Live
set_option autoImplicit false
set_option linter.unusedVariables false
set_option linter.unusedSimpArgs false
namespace Tree
open Go
set_option maxHeartbeats 4000000
set_option maxRecDepth 100000
abbrev sl5 (o : Bool) (l : Nat) (cs : List C) (sp : List (List LV)) : LV := .sl o l 5 (cs.map C.row) sp
/-- A term in a row of terms. -/
structure T1 where
  lab : Nat
  cs : List C
  sp : List (List LV)
def T1.row (t : T1) : List LV := [.sl false t.lab 5 (t.cs.map C.row) t.sp]
def T1.own (t : T1) : T1 := ⟨0, t.cs, []⟩
abbrev sl1 (o : Bool) (l : Nat) (ts : List T1) (sp : List (List LV)) : LV := .sl o l 1 (ts.map T1.row) sp
theorem idx_t {ts : List T1} {i : Nat} {t : T1} (h : ts[i]? = some t) : (ts.map T1.row)[i]? = some [.sl false t.lab 5 (t.cs.map C.row) t.sp] := by
  rw [List.getElem?_map, h]; rfl
theorem noRef_rows (n : Nat) : ∀ cs : List C, LV.noRefss n (cs.map C.row) = true
  | [] => by simp [LV.noRefss]
  | c :: cs => by simp [LV.noRefss, noRef_rows n cs, C.row, LV.noRefs, LV.noRef]
def S11 (v o : LV) (i : Int) (n : Nat) (ob : Obs) : WSt := ⟨.val v :: .val o :: .val .undef :: .val .undef :: .val .undef :: .val (.int .i64 i) :: List.replicate n (.val .undef), ob, []⟩
theorem equal_ok (l1 l2 : Nat) (us vs : List C) (s1 s2 : List (List LV)) (hl : us.length ≤ 4611686018427387904) (ob : Obs) (pb : Nat) (r : Bool) (hr : r = true ↔ us = vs) : Gives env1 11 [sl5 false l1 us s1, sl5 false l2 vs s2] ob pb (.bool r, ob) := by
  have ha : (us.map C.row).length = us.length := by simp
  have hb : (vs.map C.row).length = vs.length := by simp
  have no : us ≠ vs → LV.bool false = LV.bool r := fun h => bool_of hr ⟨fun e => (nomatch e), fun e => absurd e h⟩
  refine gives_code (f := tf11) rfl ?_
  conv => whnf
  refine sel_split (fun h => ?_) (fun h => ?_)
  · conv => whnf
    rw [ha, hb] at h
    exact ⟨rfl, no (fun e => by subst e; simp at h), rfl⟩
  · conv => whnf
    rw [ha, hb] at h
    have hab : us.length = vs.length := by simp at h; omega
    refine loop_abs (S := fun i : Nat => S11 (sl5 false l1 us s1) (sl5 false l2 vs s2) i 20 ob) (m := fun i => us.length - i) (P := fun i => i ≤ us.length ∧ ∀ k, k < i → us[k]? = vs[k]?) ?_ 0 ⟨Nat.zero_le _, fun k h => by omega⟩ rfl
    rintro R i ⟨hi, hP⟩ hN hE hR
    conv => whnf
    refine sel_split (fun h2 => ?_) (fun h2 => ?_)
    · conv => whnf
      have h2 := of_decide_eq_true h2
      rw [ha] at h2
      obtain ⟨a, hA⟩ : ∃ t, us[i]? = some t := ⟨_, List.getElem?_eq_getElem (show i < us.length by omega)⟩
      obtain ⟨b, hB⟩ : ∃ t, vs[i]? = some t := ⟨_, List.getElem?_eq_getElem (show i < vs.length by omega)⟩
      refine ⟨_, ⟨by omega, idx_row hA⟩, ?_⟩
      conv => whnf
      refine ⟨_, ⟨by omega, idx_row hB⟩, ?_⟩
      conv => whnf
      refine sel_split (fun h3 => ?_) (fun h3 => ?_)
      · conv => whnf
        have h3 : a ≠ b := by intro e; subst e; simp at h3
        refine hR _ ?_
        conv => whnf
        refine ⟨rfl, no (fun e => ?_), rfl⟩
        rw [e, hB] at hA; cases hA; exact h3 rfl
      · conv => whnf
        have h3 : a = b := by simp [bytes_eq] at h3; exact C.ext_iff'.2 h3
        have e : IntKind.i64.wrap ((i : Int) + 1) = ((i + 1 : Nat) : Int) := by rw [wrap64] <;> omega
        refine hN (i + 1) _ ⟨by omega, fun k hk => ?_⟩ (by omega) ?_
        · by_cases hki : k = i
          · subst hki; rw [hA, hB, h3]
          · exact hP k (by omega)
        · rw [← e]; rfl
    · conv => whnf
      have h2 := of_decide_eq_false h2
      rw [ha] at h2
      refine hE _ _ ?_
      conv => whnf
      refine ⟨rfl, bool_of hr ⟨fun _ => ?_, fun _ => rfl⟩, rfl⟩
      apply List.ext_getElem?
      intro k
      by_cases hk : k < i
      · exact hP k hk
      · rw [List.getElem?_eq_none (by omega), List.getElem?_eq_none (by omega)]
end Tree

set_option autoImplicit false
set_option linter.unusedVariables false
set_option linter.unusedSimpArgs false
namespace Tree
open Go
set_option maxHeartbeats 4000000
set_option maxRecDepth 100000
def T1.fine (t : T1) : Prop := t.cs.length ≤ 4611686018427387904 ∧ ∀ c ∈ t.cs, c.fine
def catN (ts : List T1) (i : Nat) : List C := (ts.take i).flatMap T1.cs
theorem catN_succ {ts : List T1} {i : Nat} {t : T1} (h : ts[i]? = some t) : catN ts (i + 1) = catN ts i ++ t.cs := by
  unfold catN; rw [List.take_add_one, h]; simp
theorem catN_le {ts : List T1} (i : Nat) : (catN ts i).length ≤ (ts.flatMap T1.cs).length := by
  have : ts.flatMap T1.cs = catN ts i ++ (ts.drop i).flatMap T1.cs := by
    unfold catN; rw [← List.flatMap_append, List.take_append_drop]
  rw [this]; simp
end Tree

set_option autoImplicit false
set_option linter.unusedVariables false
set_option linter.unusedSimpArgs false
namespace Tree
open Go
set_option maxHeartbeats 4000000
set_option maxRecDepth 100000
theorem flat_le : ∀ ts : List T1, (∀ t ∈ ts, t.cs.length ≤ 256) → (ts.flatMap T1.cs).length ≤ 256 * ts.length
  | [], _ => by simp
  | t :: ts, h => by
    have h1 := h t (List.mem_cons_self ..)
    have h2 := flat_le ts (fun u hu => h u (List.mem_cons_of_mem _ hu))
    rw [List.flatMap_cons, List.length_append, List.length_cons]; omega
end Tree

set_option autoImplicit false
set_option linter.unusedVariables false
set_option linter.unusedSimpArgs false
namespace Tree
open Go
def ar (c : C) : Nat := (partsC c).toNat
/-- What is left behind o whole terms. -/
def walk : List C → Nat → Option (List C)
  | l, 0 => some l
  | [], _ + 1 => none
  | c :: r, o + 1 => walk r (o + ar c)
theorem walk_zero (l : List C) : walk l 0 = some l := by cases l <;> rfl
theorem walk_le : ∀ (l : List C) (o : Nat) (r : List C), walk l o = some r → o ≤ l.length ∧ r.length ≤ l.length
  | l, 0, r, h => by rw [walk_zero] at h; cases h; exact ⟨Nat.zero_le _, Nat.le_refl _⟩
  | [], o + 1, r, h => by simp [walk] at h
  | c :: l, o + 1, r, h => by
    rw [walk] at h
    have := walk_le l _ r h
    simp only [List.length_cons]; omega
theorem ok_parts {c : C} (h : okC c) : partsC c = (ar c : Int) ∧ ar c ≤ 8 := by
  unfold ar partsC
  rcases h with h | h | h | h
  · rw [if_neg (by rw [h.1]; decide)]; exact ⟨rfl, by decide⟩
  · rw [if_neg (by rw [h.1]; decide)]; exact ⟨rfl, by decide⟩
  · rw [if_pos h.1]
    rcases h.2.2 with g | g
    · rw [if_neg (by omega)]; omega
    · rw [if_neg (by omega)]; omega
  · rw [if_neg (by rw [h.1]; decide)]; exact ⟨rfl, by decide⟩
theorem w64_id {x : Int} (h1 : -9223372036854775808 ≤ x) (h2 : x ≤ 9223372036854775807) : w64 x = x := wrap64 h1 h2
theorem scan_walk (L : Nat) : ∀ (l : List C) (o p : Nat), (∀ c ∈ l, okC c) → l.length ≤ L → o + 8 * l.length ≤ 4611686018427387904 →
    scanE L l (o : Int) p = match walk l o with | some r => ((p + (l.length - r.length) : Nat) : Int) | none => 0
  | l, 0, p, _, _, _ => by
    rw [walk_zero]
    cases l <;> simp [scanE]
  | [], o + 1, p, _, _, _ => by
    have : ¬ ((o + 1 : Nat) : Int) ≤ 0 := by omega
    simp only [scanE, walk, if_neg this]
  | c :: l, o + 1, p, h, hL, hb => by
    have h0 : ¬ ((o + 1 : Nat) : Int) ≤ 0 := by omega
    obtain ⟨hp, h8⟩ := ok_parts (h c (List.mem_cons_self ..))
    simp only [List.length_cons] at hL hb
    simp only [scanE, walk, if_neg h0, hp]
    by_cases hgt : ((ar c : Nat) : Int) > (L : Int)
    · rw [if_pos hgt]
      have : walk l (o + ar c) = none := by
        cases hw : walk l (o + ar c) with
        | none => rfl
        | some r => have := (walk_le l _ r hw).1; omega
      rw [this]
    · rw [if_neg hgt]
      have e : w64 (((o + 1 : Nat) : Int) + w64 ((ar c : Int) - 1)) = ((o + ar c : Nat) : Int) := by
        rw [w64_id (x := (ar c : Int) - 1) (by omega) (by omega), w64_id (by omega) (by omega)]; omega
      rw [e, scan_walk L l (o + ar c) (p + 1) (fun d hd => h d (List.mem_cons_of_mem _ hd)) (by omega) (by omega)]
      cases hw : walk l (o + ar c) with
      | none => rfl
      | some r =>
        have := (walk_le l _ r hw).2
        simp only [List.length_cons]
        congr 1; omega
theorem right_walk (cs : List C) : RightP cs ↔ cs ≠ [] ∧ cs.length ≤ 256 ∧ walk cs 1 = some [] ∧ ∀ c ∈ cs, okC c := by
  unfold RightP
  constructor
  · rintro ⟨h1, h2, h3, h4⟩
    refine ⟨h1, h2, ?_, h4⟩
    have hlen : 0 < cs.length := List.length_pos_iff.2 h1
    have he : endE cs 0 = scanE cs.length cs ((1 : Nat) : Int) 0 := by
      unfold endE; rw [if_neg (by omega)]; rfl
    rw [he, scan_walk cs.length cs 1 0 h4 (Nat.le_refl _) (by omega)] at h3
    cases hw : walk cs 1 with
    | none => rw [hw] at h3; simp only at h3; omega
    | some r =>
      rw [hw] at h3; simp only at h3
      have := (walk_le cs 1 r hw).2
      have : r.length = 0 := by omega
      rw [List.length_eq_zero_iff.1 this]
  · rintro ⟨h1, h2, h3, h4⟩
    refine ⟨h1, h2, ?_, h4⟩
    have hlen : 0 < cs.length := List.length_pos_iff.2 h1
    have he : endE cs 0 = scanE cs.length cs ((1 : Nat) : Int) 0 := by
      unfold endE; rw [if_neg (by omega)]; rfl
    rw [he, scan_walk cs.length cs 1 0 h4 (Nat.le_refl _) (by omega), h3]
    simp
end Tree

set_option autoImplicit false
set_option linter.unusedVariables false
set_option linter.unusedSimpArgs false
namespace Tree
open Go
set_option maxHeartbeats 4000000
set_option maxRecDepth 100000
end Tree

set_option autoImplicit false
set_option linter.unusedVariables false
set_option linter.unusedSimpArgs false
namespace Tree
open Go
set_option maxHeartbeats 4000000
set_option maxRecDepth 100000
end Tree

set_option autoImplicit false
set_option linter.unusedVariables false
set_option linter.unusedSimpArgs false
namespace Tree
open Go
set_option maxHeartbeats 4000000
set_option maxRecDepth 100000
abbrev NV := Int × Int
def nrow (v : NV) : List LV := [.int .i64 v.1, .int .i64 v.2]
abbrev sl2 (o : Bool) (l : Nat) (ns : List NV) (sp : List (List LV)) : LV := .sl o l 2 (ns.map nrow) sp
theorem idx_n {ns : List NV} {i : Nat} {v : NV} (h : ns[i]? = some v) : (ns.map nrow)[i]? = some [.int .i64 v.1, .int .i64 v.2] := by
  rw [List.getElem?_map, h]; rfl
theorem noRef2 (n : Nat) (o : Bool) (l : Nat) (ns : List NV) : (sl2 o l ns []).noRef n = true := by
  have : LV.noRefss n (ns.map nrow) = true := by
    induction ns with
    | nil => simp [LV.noRefss]
    | cons v ns ih => simp [LV.noRefss, ih, nrow, LV.noRefs, LV.noRef]
  simp [LV.noRef, LV.noRefss, this]
def addN (acc : List NV) (v : NV) : List NV := if v ∈ acc then acc else acc ++ [v]
def varC (acc : List NV) (c : C) : List NV := if c.k = 4 then addN acc (c.node, c.num) else acc
def varsC (acc : List NV) (cs : List C) : List NV := cs.foldl varC acc
def varsT (acc : List NV) (ts : List T1) : List NV := ts.foldl (fun acc t => varsC acc t.cs) acc
theorem varC_len (acc : List NV) (c : C) : (varC acc c).length ≤ acc.length + 1 := by
  unfold varC addN; split
  · split <;> simp
  · omega
theorem varsC_len : ∀ (cs : List C) (acc : List NV), (varsC acc cs).length ≤ acc.length + cs.length
  | [], acc => by simp [varsC]
  | c :: cs, acc => by
    have h1 := varC_len acc c
    have h2 := varsC_len cs (varC acc c)
    simp only [varsC, List.foldl_cons, List.length_cons] at h2 ⊢; omega
theorem varsT_len : ∀ (ts : List T1) (acc : List NV), (varsT acc ts).length ≤ acc.length + (ts.flatMap T1.cs).length
  | [], acc => by simp [varsT]
  | t :: ts, acc => by
    have h1 := varsC_len t.cs acc
    have h2 := varsT_len ts (varsC acc t.cs)
    simp only [varsT, List.foldl_cons, List.flatMap_cons, List.length_append] at h2 ⊢; omega
theorem varsC_take {cs : List C} {i : Nat} {c : C} (h : cs[i]? = some c) (acc : List NV) : varsC acc (cs.take (i + 1)) = varC (varsC acc (cs.take i)) c := by
  rw [List.take_add_one, h]; simp [varsC]
theorem varsT_take {ts : List T1} {i : Nat} {t : T1} (h : ts[i]? = some t) (acc : List NV) : varsT acc (ts.take (i + 1)) = varsC (varsT acc (ts.take i)) t.cs := by
  rw [List.take_add_one, h]; simp [varsT]
def S55 (v x : LV) (bx : List LV) (n : Nat) (i : Int) (ob : Obs) : WSt := ⟨.val v :: .val .undef :: .val .undef :: .box bx :: .val .undef :: .val .undef :: .val .undef :: .val (.int .i64 n) :: .val (.int .i64 i) :: List.replicate 10 (.val .undef), ob, []⟩
theorem hasName_ok (lab : Nat) (ns : List NV) (sp : List (List LV)) (x : NV) (hl : ns.length ≤ 4611686018427387904) (ob : Obs) (pb : Nat) (r : Bool) (hr : r = true ↔ x ∈ ns) : Gives env1 42 [sl2 false lab ns sp, nm x.1 x.2] ob pb (.bool r, ob) := by
  have hlen : (ns.map nrow).length = ns.length := by simp
  obtain ⟨j, hj0, hg⟩ : ∃ j : Int, decide (j ≥ 0) = r ∧ Gives env1 55 [sl2 false lab ns sp, nm x.1 x.2] ob (max pb ob.length) (.int .i64 j, ob) := by
    obtain ⟨j, hj0, hj1, hj2⟩ : ∃ j : Int, (decide (j ≥ 0) = r) ∧ (∀ i : Nat, ns[i]? = some x → (∀ k v, k < i → ns[k]? = some v → v ≠ x) → j = i) ∧ ((∀ (k : Nat) v, ns[k]? = some v → v ≠ x) → j = -1) := by
      by_cases hx : x ∈ ns
      · have : ∃ i : Nat, ns[i]? = some x ∧ ∀ k v, k < i → ns[k]? = some v → v ≠ x := by
          apply Classical.byContradiction
          intro hn
          have all : ∀ n : Nat, ∀ k v, k < n → ns[k]? = some v → v ≠ x := by
            intro n
            induction n with
            | zero => intro k d hk; omega
            | succ n ih =>
              intro k v hk hv e
              by_cases hkn : k < n
              · exact ih k v hkn hv e
              · have : k = n := by omega
                subst this; subst e
                exact hn ⟨k, hv, ih⟩
          obtain ⟨i, hi, e⟩ := List.getElem_of_mem hx
          exact all (i + 1) i x (by omega) (by rw [List.getElem?_eq_getElem hi, e]) rfl
        obtain ⟨i, h1, h2⟩ := this
        refine ⟨i, by rw [hr.2 hx]; simp, fun i' h4 h6 => ?_, fun h4 => absurd rfl (h4 i x h1)⟩
        rcases Nat.lt_trichotomy i i' with h7 | h7 | h7
        · exact absurd rfl (h6 i x h7 h1)
        · rw [h7]
        · exact absurd rfl (h2 i' x h7 h4)
      · have hf : r = false := by
          cases r with
          | false => rfl
          | true => exact absurd (hr.1 rfl) hx
        exact ⟨-1, by rw [hf]; decide, fun i h1 _ => absurd (List.mem_of_getElem? h1) hx, fun _ => rfl⟩
    refine ⟨j, hj0, ?_⟩
    refine gives_code (f := tf55) rfl ?_
    conv => whnf
    refine loop_abs (S := fun i : Nat => S55 (sl2 false lab ns sp) .undef [.int .i64 x.1, .int .i64 x.2] (ns.map nrow).length i ob) (m := fun i => ns.length - i) (P := fun i => i ≤ ns.length ∧ ∀ k v, k < i → ns[k]? = some v → v ≠ x) ?_ 0 ⟨Nat.zero_le _, fun k s h => by omega⟩ rfl
    rintro R i ⟨hi, hP⟩ hN hE hR
    conv => whnf
    refine sel_split (fun h => ?_) (fun h => ?_)
    · conv => whnf
      have h := of_decide_eq_true h
      rw [hlen] at h
      obtain ⟨v, hv⟩ : ∃ s, ns[i]? = some s := ⟨_, List.getElem?_eq_getElem (show i < ns.length by omega)⟩
      refine ⟨_, ⟨by omega, idx_n hv⟩, ?_⟩
      conv => whnf
      refine sel_split (fun h2 => ?_) (fun h2 => ?_)
      · conv => whnf
        have h2 : v = x := by simp at h2; exact Prod.ext h2.1.symm h2.2.symm
        refine hR _ ?_
        conv => whnf
        refine ⟨rfl, ?_, rfl⟩
        rw [hj1 i (by rw [hv, h2]) hP]; rfl
      · conv => whnf
        have h2 : v ≠ x := fun e => by rw [e] at h2; simp at h2
        have e : IntKind.i64.wrap ((i : Int) + 1) = ((i + 1 : Nat) : Int) := by rw [wrap64] <;> omega
        refine hN (i + 1) _ ⟨by omega, fun k s' hk hs' => ?_⟩ (by omega) ?_
        · by_cases hki : k = i
          · subst hki; rw [hv] at hs'; cases hs'; exact h2
          · exact hP k s' (by omega) hs'
        · rw [← e]; rfl
    · conv => whnf
      have h := of_decide_eq_false h
      rw [hlen] at h
      refine hE _ _ ?_
      conv => whnf
      refine ⟨rfl, ?_, rfl⟩
      rw [hj2 (fun k s hk => hP k s (by have := (List.getElem?_eq_some_iff.1 hk).1; omega) hk)]; rfl
  refine gives_code (f := tf42) rfl ?_
  conv => whnf
  refine ⟨_, _, hg, fun _ => rfl, ?_⟩
  conv => whnf
  refine ⟨rfl, ?_, rfl⟩
  show LV.bool _ = LV.bool r
  rw [hj0]
def S28 (v : LV) (bx : List LV) (i : Int) (ob : Obs) : WSt := ⟨.val v :: .val .undef :: .val .undef :: .box bx :: .val .undef :: .val (.int .i64 i) :: List.replicate 12 (.val .undef), ob, []⟩
theorem refHasName_ok (lab : Nat) (ns : List NV) (sp : List (List LV)) (x : NV) (hl : ns.length ≤ 4611686018427387904) (ob : Obs) (pb : Nat) (r : Bool) (hr : r = true ↔ x ∈ ns) : Gives env1 28 [sl2 false lab ns sp, nm x.1 x.2] ob pb (.bool r, ob) := by
  have hlen : (ns.map nrow).length = ns.length := by simp
  refine gives_code (f := tf28) rfl ?_
  conv => whnf
  refine loop_abs (S := fun i : Nat => S28 (sl2 false lab ns sp) [.int .i64 x.1, .int .i64 x.2] i ob) (m := fun i => ns.length - i) (P := fun i => i ≤ ns.length ∧ ∀ k v, k < i → ns[k]? = some v → v ≠ x) ?_ 0 ⟨Nat.zero_le _, fun k s h => by omega⟩ rfl
  rintro R i ⟨hi, hP⟩ hN hE hR
  conv => whnf
  refine sel_split (fun h => ?_) (fun h => ?_)
  · conv => whnf
    have h := of_decide_eq_true h
    rw [hlen] at h
    obtain ⟨v, hv⟩ : ∃ s, ns[i]? = some s := ⟨_, List.getElem?_eq_getElem (show i < ns.length by omega)⟩
    refine ⟨_, ⟨by omega, idx_n hv⟩, ?_⟩
    conv => whnf
    refine sel_split (fun h2 => ?_) (fun h2 => ?_)
    · conv => whnf
      have h2 : v = x := by simp at h2; exact Prod.ext h2.1 h2.2
      refine hR _ ?_
      conv => whnf
      refine ⟨rfl, bool_of hr ⟨fun _ => h2 ▸ List.mem_of_getElem? hv, fun _ => rfl⟩, rfl⟩
    · conv => whnf
      have h2 : v ≠ x := fun e => by rw [e] at h2; simp at h2
      have e : IntKind.i64.wrap ((i : Int) + 1) = ((i + 1 : Nat) : Int) := by rw [wrap64] <;> omega
      refine hN (i + 1) _ ⟨by omega, fun k s' hk hs' => ?_⟩ (by omega) ?_
      · by_cases hki : k = i
        · subst hki; rw [hv] at hs'; cases hs'; exact h2
        · exact hP k s' (by omega) hs'
      · rw [← e]; rfl
  · conv => whnf
    have h := of_decide_eq_false h
    rw [hlen] at h
    refine hE _ _ ?_
    conv => whnf
    refine ⟨rfl, bool_of hr ⟨fun e => (nomatch e), fun hm => ?_⟩, rfl⟩
    obtain ⟨k, hk, e⟩ := List.getElem_of_mem hm
    exact absurd rfl (hP k x (by omega) (by rw [List.getElem?_eq_getElem hk, e]))
theorem sameNames_ok (l1 l2 : Nat) (us vs : List NV) (s1 s2 : List (List LV)) (hl : us.length ≤ 4611686018427387904) (ob : Obs) (pb : Nat) (r : Bool) (hr : r = true ↔ us = vs) : Gives env1 24 [sl2 false l1 us s1, sl2 false l2 vs s2] ob pb (.bool r, ob) := by
  have ha : (us.map nrow).length = us.length := by simp
  have hb : (vs.map nrow).length = vs.length := by simp
  have no : us ≠ vs → LV.bool false = LV.bool r := fun h => bool_of hr ⟨fun e => (nomatch e), fun e => absurd e h⟩
  refine gives_code (f := tf24) rfl ?_
  conv => whnf
  refine sel_split (fun h => ?_) (fun h => ?_)
  · conv => whnf
    rw [ha, hb] at h
    exact ⟨rfl, no (fun e => by subst e; simp at h), rfl⟩
  · conv => whnf
    rw [ha, hb] at h
    have hab : us.length = vs.length := by simp at h; omega
    refine loop_abs (S := fun i : Nat => S11 (sl2 false l1 us s1) (sl2 false l2 vs s2) i 20 ob) (m := fun i => us.length - i) (P := fun i => i ≤ us.length ∧ ∀ k, k < i → us[k]? = vs[k]?) ?_ 0 ⟨Nat.zero_le _, fun k h => by omega⟩ rfl
    rintro R i ⟨hi, hP⟩ hN hE hR
    conv => whnf
    refine sel_split (fun h2 => ?_) (fun h2 => ?_)
    · conv => whnf
      have h2 := of_decide_eq_true h2
      rw [ha] at h2
      obtain ⟨a, hA⟩ : ∃ t, us[i]? = some t := ⟨_, List.getElem?_eq_getElem (show i < us.length by omega)⟩
      obtain ⟨b, hB⟩ : ∃ t, vs[i]? = some t := ⟨_, List.getElem?_eq_getElem (show i < vs.length by omega)⟩
      refine ⟨_, ⟨by omega, idx_n hA⟩, ?_⟩
      conv => whnf
      refine ⟨_, ⟨by omega, idx_n hB⟩, ?_⟩
      conv => whnf
      refine sel_split (fun h3 => ?_) (fun h3 => ?_)
      · conv => whnf
        have h3 : a ≠ b := by intro e; subst e; simp at h3
        refine hR _ ?_
        conv => whnf
        refine ⟨rfl, no (fun e => ?_), rfl⟩
        rw [e, hB] at hA; cases hA; exact h3 rfl
      · conv => whnf
        have h3 : a = b := by simp at h3; exact Prod.ext h3.1 h3.2
        have e : IntKind.i64.wrap ((i : Int) + 1) = ((i + 1 : Nat) : Int) := by rw [wrap64] <;> omega
        refine hN (i + 1) _ ⟨by omega, fun k hk => ?_⟩ (by omega) ?_
        · by_cases hki : k = i
          · subst hki; rw [hA, hB, h3]
          · exact hP k (by omega)
        · rw [← e]; rfl
    · conv => whnf
      have h2 := of_decide_eq_false h2
      rw [ha] at h2
      refine hE _ _ ?_
      conv => whnf
      refine ⟨rfl, bool_of hr ⟨fun _ => ?_, fun _ => rfl⟩, rfl⟩
      apply List.ext_getElem?
      intro k
      by_cases hk : k < i
      · exact hP k hk
      · rw [List.getElem?_eq_none (by omega), List.getElem?_eq_none (by omega)]
def S22 (o v : LV) (n : Nat) (i : Int) (ob : Obs) : WSt := ⟨.val .undef :: .val .undef :: .val .undef :: .val o :: List.replicate 4 (.val .undef) ++ .val v :: .val (.int .i64 n) :: .val (.int .i64 i) :: List.replicate 27 (.val .undef), ob, []⟩
def S22b (o v : LV) (n : Nat) (i : Int) (w : LV) (m : Nat) (j : Int) (ob : Obs) : WSt := ⟨.val .undef :: .val .undef :: .val .undef :: .val o :: List.replicate 4 (.val .undef) ++ .val v :: .val (.int .i64 n) :: .val (.int .i64 i) :: .val .undef :: .val .undef :: .val .undef :: .val w :: .val (.int .i64 m) :: .val (.int .i64 j) :: List.replicate 21 (.val .undef), ob, []⟩
theorem vars_ok (lab : Nat) (ts : List T1) (sp : List (List LV)) (hl : ts.length ≤ 1048576) (hb : (ts.flatMap T1.cs).length ≤ 1048576) (ob : Obs) (pb : Nat) : Gives env1 22 [sl1 false lab ts sp] ob pb (sl2 true 0 (varsT [] ts) [], ob) := by
  have hlen : (ts.map T1.row).length = ts.length := by simp
  refine gives_code (f := tf22) rfl ?_
  conv => whnf
  refine loop_abs (S := fun i : Nat => S22 (sl2 true 0 (varsT [] (ts.take i)) []) (sl1 false lab ts sp) (ts.map T1.row).length i ob) (m := fun i => ts.length - i) (P := fun i => i ≤ ts.length) ?_ 0 (Nat.zero_le _) rfl
  intro R i hi hN hE hR
  conv => whnf
  refine sel_split (fun h => ?_) (fun h => ?_)
  · conv => whnf
    have h := of_decide_eq_true h
    rw [hlen] at h
    obtain ⟨t, ht⟩ : ∃ s, ts[i]? = some s := ⟨_, List.getElem?_eq_getElem (show i < ts.length by omega)⟩
    have hclen : (t.cs.map C.row).length = t.cs.length := by simp
    have hcat := catN_le (ts := ts) (i + 1)
    rw [catN_succ ht, List.length_append] at hcat
    have hacc : (varsT [] (ts.take i)).length ≤ (catN ts i).length := by
      have := varsT_len (ts.take i) []
      simpa [catN] using this
    refine ⟨_, ⟨by omega, idx_t ht⟩, ?_⟩
    conv => whnf
    refine loop_abs (S := fun j : Nat => S22b (sl2 true 0 (varsC (varsT [] (ts.take i)) (t.cs.take j)) []) (sl1 false lab ts sp) (ts.map T1.row).length i (.sl false t.lab 5 (t.cs.map C.row) t.sp) (t.cs.map C.row).length j ob) (m := fun j => t.cs.length - j) (P := fun j => j ≤ t.cs.length) ?_ 0 (Nat.zero_le _) rfl
    intro R' j hj hN' hE' hR'
    conv => whnf
    refine sel_split (fun h2 => ?_) (fun h2 => ?_)
    · conv => whnf
      have h2 := of_decide_eq_true h2
      rw [hclen] at h2
      obtain ⟨c, hc⟩ : ∃ s, t.cs[j]? = some s := ⟨_, List.getElem?_eq_getElem (show j < t.cs.length by omega)⟩
      have hvl := varsC_len (t.cs.take j) (varsT [] (ts.take i))
      have htl : (t.cs.take j).length ≤ j := by rw [List.length_take]; exact Nat.min_le_left _ _
      have e : IntKind.i64.wrap ((j : Int) + 1) = ((j + 1 : Nat) : Int) := by rw [wrap64] <;> omega
      refine ⟨_, ⟨by omega, idx_row hc⟩, ?_⟩
      conv => whnf
      refine sel_split (fun h3 => ?_) (fun h3 => ?_)
      · conv => whnf
        have h3 : c.k = 4 := by simpa using h3
        obtain ⟨q, hq⟩ := boolOf ((c.node, c.num) ∈ varsC (varsT [] (ts.take i)) (t.cs.take j))
        refine ⟨_, _, hasName_ok 0 (varsC (varsT [] (ts.take i)) (t.cs.take j)) [] (c.node, c.num) (by omega) ob _ q hq, fun _ => rfl, ?_⟩
        conv => whnf
        refine sel_split (fun h4 => ?_) (fun h4 => ?_)
        · conv => whnf
          have h4 : q = false := by simpa using h4
          have hv : varsC (varsT [] (ts.take i)) (t.cs.take (j + 1)) = varsC (varsT [] (ts.take i)) (t.cs.take j) ++ [(c.node, c.num)] := by
            rw [varsC_take hc]; unfold varC addN
            rw [if_pos h3, if_neg (fun hm => by rw [hq.2 hm] at h4; cases h4)]
          refine ⟨(varsC (varsT [] (ts.take i)) (t.cs.take (j + 1))).map nrow, ⟨.inl rfl, ?_, ?_⟩, ?_⟩
          · show (((varsC (varsT [] (ts.take i)) (t.cs.take j)).map nrow).length + 1) * 16 ≤ _
            rw [List.length_map]; omega
          · rw [hv, List.map_append]; rfl
          conv => whnf
          refine hN' (j + 1) _ (by omega) (by omega) ?_
          rw [← e]; rfl
        · conv => whnf
          have h4 : q = true := by simpa using h4
          have hv : varsC (varsT [] (ts.take i)) (t.cs.take (j + 1)) = varsC (varsT [] (ts.take i)) (t.cs.take j) := by
            rw [varsC_take hc]; unfold varC addN
            rw [if_pos h3, if_pos (hq.1 h4)]
          refine hN' (j + 1) _ (by omega) (by omega) ?_
          rw [← e, hv]; rfl
      · conv => whnf
        have h3 : c.k ≠ 4 := by simpa using h3
        have hv : varsC (varsT [] (ts.take i)) (t.cs.take (j + 1)) = varsC (varsT [] (ts.take i)) (t.cs.take j) := by
          rw [varsC_take hc]; unfold varC
          rw [if_neg h3]
        refine hN' (j + 1) _ (by omega) (by omega) ?_
        rw [← e, hv]; rfl
    · conv => whnf
      have h2 := of_decide_eq_false h2
      rw [hclen] at h2
      have : j = t.cs.length := by omega
      subst this
      refine hE' _ _ ?_
      conv => whnf
      have e : IntKind.i64.wrap ((i : Int) + 1) = ((i + 1 : Nat) : Int) := by rw [wrap64] <;> omega
      refine hN (i + 1) _ (by omega) (by omega) ?_
      rw [← e, varsT_take ht, List.take_length]; rfl
  · conv => whnf
    have h := of_decide_eq_false h
    rw [hlen] at h
    have : i = ts.length := by omega
    subst this
    refine hE _ _ ?_
    conv => whnf
    refine ⟨rfl, ?_, rfl⟩
    rw [List.take_length]; rfl
def S23 (v o : LV) (i : Int) (ob : Obs) : WSt := ⟨.val v :: .val .undef :: .val .undef :: .val o :: .val (.int .i64 i) :: List.replicate 40 (.val .undef), ob, []⟩
def S23b (v o : LV) (i j : Int) (ob : Obs) : WSt := ⟨.val v :: .val .undef :: .val .undef :: .val o :: .val (.int .i64 i) :: .val (.int .i64 j) :: List.replicate 39 (.val .undef), ob, []⟩
theorem refVars_ok (lab : Nat) (ts : List T1) (sp : List (List LV)) (hl : ts.length ≤ 1048576) (hb : (ts.flatMap T1.cs).length ≤ 1048576) (ob : Obs) (pb : Nat) : Gives env1 23 [sl1 false lab ts sp] ob pb (sl2 true 0 (varsT [] ts) [], ob) := by
  have hlen : (ts.map T1.row).length = ts.length := by simp
  refine gives_code (f := tf23) rfl ?_
  conv => whnf
  refine loop_abs (S := fun i : Nat => S23 (sl1 false lab ts sp) (sl2 true 0 (varsT [] (ts.take i)) []) i ob) (m := fun i => ts.length - i) (P := fun i => i ≤ ts.length) ?_ 0 (Nat.zero_le _) rfl
  intro R i hi hN hE hR
  conv => whnf
  refine sel_split (fun h => ?_) (fun h => ?_)
  · conv => whnf
    have h := of_decide_eq_true h
    rw [hlen] at h
    obtain ⟨t, ht⟩ : ∃ s, ts[i]? = some s := ⟨_, List.getElem?_eq_getElem (show i < ts.length by omega)⟩
    have hclen : (t.cs.map C.row).length = t.cs.length := by simp
    have hcat := catN_le (ts := ts) (i + 1)
    rw [catN_succ ht, List.length_append] at hcat
    have hacc : (varsT [] (ts.take i)).length ≤ (catN ts i).length := by
      have := varsT_len (ts.take i) []
      simpa [catN] using this
    refine loop_abs (S := fun j : Nat => S23b (sl1 false lab ts sp) (sl2 true 0 (varsC (varsT [] (ts.take i)) (t.cs.take j)) []) i j ob) (m := fun j => t.cs.length - j) (P := fun j => j ≤ t.cs.length) ?_ 0 (Nat.zero_le _) rfl
    intro R' j hj hN' hE' hR'
    conv => whnf
    refine ⟨_, ⟨by omega, idx_t ht⟩, ?_⟩
    conv => whnf
    refine sel_split (fun h2 => ?_) (fun h2 => ?_)
    · conv => whnf
      have h2 := of_decide_eq_true h2
      rw [hclen] at h2
      obtain ⟨c, hc⟩ : ∃ s, t.cs[j]? = some s := ⟨_, List.getElem?_eq_getElem (show j < t.cs.length by omega)⟩
      have hvl := varsC_len (t.cs.take j) (varsT [] (ts.take i))
      have htl : (t.cs.take j).length ≤ j := by rw [List.length_take]; exact Nat.min_le_left _ _
      have e : IntKind.i64.wrap ((j : Int) + 1) = ((j + 1 : Nat) : Int) := by rw [wrap64] <;> omega
      refine ⟨_, ⟨by omega, idx_t ht⟩, ?_⟩
      conv => whnf
      refine ⟨_, ⟨by omega, idx_row hc⟩, ?_⟩
      conv => whnf
      refine sel_split (fun h3 => ?_) (fun h3 => ?_)
      · conv => whnf
        have h3 : c.k = 4 := by simpa using h3
        obtain ⟨q, hq⟩ := boolOf ((c.node, c.num) ∈ varsC (varsT [] (ts.take i)) (t.cs.take j))
        refine ⟨_, _, refHasName_ok 0 (varsC (varsT [] (ts.take i)) (t.cs.take j)) [] (c.node, c.num) (by omega) ob _ q hq, fun _ => rfl, ?_⟩
        conv => whnf
        refine sel_split (fun h4 => ?_) (fun h4 => ?_)
        · conv => whnf
          have h4 : q = false := by simpa using h4
          have hv : varsC (varsT [] (ts.take i)) (t.cs.take (j + 1)) = varsC (varsT [] (ts.take i)) (t.cs.take j) ++ [(c.node, c.num)] := by
            rw [varsC_take hc]; unfold varC addN
            rw [if_pos h3, if_neg (fun hm => by rw [hq.2 hm] at h4; cases h4)]
          refine ⟨(varsC (varsT [] (ts.take i)) (t.cs.take (j + 1))).map nrow, ⟨.inl rfl, ?_, ?_⟩, ?_⟩
          · show (((varsC (varsT [] (ts.take i)) (t.cs.take j)).map nrow).length + 1) * 16 ≤ _
            rw [List.length_map]; omega
          · rw [hv, List.map_append]; rfl
          conv => whnf
          refine hN' (j + 1) _ (by omega) (by omega) ?_
          rw [← e]; rfl
        · conv => whnf
          have h4 : q = true := by simpa using h4
          have hv : varsC (varsT [] (ts.take i)) (t.cs.take (j + 1)) = varsC (varsT [] (ts.take i)) (t.cs.take j) := by
            rw [varsC_take hc]; unfold varC addN
            rw [if_pos h3, if_pos (hq.1 h4)]
          refine hN' (j + 1) _ (by omega) (by omega) ?_
          rw [← e, hv]; rfl
      · conv => whnf
        have h3 : c.k ≠ 4 := by simpa using h3
        have hv : varsC (varsT [] (ts.take i)) (t.cs.take (j + 1)) = varsC (varsT [] (ts.take i)) (t.cs.take j) := by
          rw [varsC_take hc]; unfold varC
          rw [if_neg h3]
        refine hN' (j + 1) _ (by omega) (by omega) ?_
        rw [← e, hv]; rfl
    · conv => whnf
      have h2 := of_decide_eq_false h2
      rw [hclen] at h2
      have : j = t.cs.length := by omega
      subst this
      refine hE' _ _ ?_
      conv => whnf
      have e : IntKind.i64.wrap ((i : Int) + 1) = ((i + 1 : Nat) : Int) := by rw [wrap64] <;> omega
      refine hN (i + 1) _ (by omega) (by omega) ?_
      rw [← e, varsT_take ht, List.take_length]; rfl
  · conv => whnf
    have h := of_decide_eq_false h
    rw [hlen] at h
    have : i = ts.length := by omega
    subst this
    refine hE _ _ ?_
    conv => whnf
    refine ⟨rfl, ?_, rfl⟩
    rw [List.take_length]; rfl
end Tree

set_option autoImplicit false
set_option linter.unusedVariables false
set_option linter.unusedSimpArgs false
namespace Tree
open Go
set_option maxHeartbeats 4000000
set_option maxRecDepth 100000
def locC (c : C) : Prop := c.k = 4 ∧ c.node = -1
theorem loc_ok (c : C) (ob : Obs) (pb : Nat) (r : Bool) (hr : r = true ↔ locC c) : Gives env1 44 [c.lv] ob pb (.bool r, ob) := by
  refine gives_code (f := tf44) rfl ?_
  conv => whnf
  refine sel_split (fun h => ?_) (fun h => ?_)
  · conv => whnf
    refine ⟨rfl, bool_of hr ?_, rfl⟩
    unfold locC; simp at h; simp [h]
  · conv => whnf
    refine ⟨rfl, bool_of hr ?_, rfl⟩
    unfold locC; simp at h; simp [h]
def GlobalP (cs : List C) : Prop := RightP cs ∧ ∀ c ∈ cs, ¬ locC c
theorem global_ok (lab : Nat) (cs : List C) (sp : List (List LV)) (hl : cs.length ≤ 4611686018427387904) (hf : ∀ c ∈ cs, c.fine) (ob : Obs) (pb : Nat) (r : Bool) (hr : r = true ↔ GlobalP cs) : Gives env1 25 [sl5 false lab cs sp] ob pb (.bool r, ob) := by
  obtain ⟨q, hq⟩ := boolOf (RightP cs)
  obtain ⟨g, hg⟩ := boolOf (∃ c ∈ cs, locC c)
  refine gives_code (f := tf25) rfl ?_
  conv => whnf
  refine ⟨_, _, right_ok lab cs sp hl hf ob _ q hq, fun _ => rfl, ?_⟩
  conv => whnf
  refine sel_split (fun h => ?_) (fun h => ?_)
  · conv => whnf
    refine ⟨_, _, anyFn_ok 44 lab cs sp locC hl (fun c hc ob pb r hr => loc_ok c ob pb r hr) ob _ g hg, fun _ => rfl, ?_⟩
    conv => whnf
    refine ⟨rfl, bool_of hr ?_, rfl⟩
    have : (!g) = true ↔ ∀ c ∈ cs, ¬ locC c := by
      rw [Bool.not_eq_true', ← Bool.not_eq_true, hg]
      constructor
      · intro h c hc hn; exact h ⟨c, hc, hn⟩
      · rintro h ⟨c, hc, hn⟩; exact h c hc hn
    rw [this]
    exact ⟨fun h2 => ⟨hq.1 h, h2⟩, fun h2 => h2.2⟩
  · conv => whnf
    refine ⟨rfl, bool_of hr ⟨fun e => (nomatch e), fun hw => by rw [hq.2 hw.1] at h; cases h⟩, rfl⟩
def S26 (v : LV) (i : Int) (ob : Obs) : WSt := ⟨.val v :: .val .undef :: .val .undef :: .val (.int .i64 i) :: List.replicate 24 (.val .undef), ob, []⟩
theorem refGlobal_ok (lab : Nat) (cs : List C) (sp : List (List LV)) (hl : cs.length ≤ 4611686018427387904) (hf : ∀ c ∈ cs, c.fine) (ob : Obs) (pb : Nat) (r : Bool) (hr : r = true ↔ GlobalP cs) : Gives env1 26 [sl5 false lab cs sp] ob pb (.bool r, ob) := by
  have hlen : (cs.map C.row).length = cs.length := by simp
  obtain ⟨q, hq⟩ := boolOf (RightP cs)
  have no : ¬ GlobalP cs → LV.bool false = LV.bool r := fun h => bool_of hr ⟨fun e => (nomatch e), fun e => absurd e h⟩
  refine gives_code (f := tf26) rfl ?_
  conv => whnf
  refine ⟨_, _, refRight_ok lab cs sp hl hf ob _ q hq, fun _ => rfl, ?_⟩
  conv => whnf
  refine sel_split (fun h => ?_) (fun h => ?_)
  · conv => whnf
    exact ⟨rfl, no (fun hw => by rw [hq.2 hw.1] at h; cases h), rfl⟩
  · conv => whnf
    have hR := hq.1 (by simpa using h)
    refine loop_abs (S := fun i : Nat => S26 (sl5 false lab cs sp) i ob) (m := fun i => cs.length - i) (P := fun i => i ≤ cs.length ∧ ∀ k d, k < i → cs[k]? = some d → ¬ locC d) ?_ 0 ⟨Nat.zero_le _, fun k s h => by omega⟩ rfl
    rintro R i ⟨hi, hP⟩ hN hE hRt
    conv => whnf
    refine sel_split (fun h => ?_) (fun h => ?_)
    · conv => whnf
      have h := of_decide_eq_true h
      rw [hlen] at h
      obtain ⟨c, hc⟩ : ∃ c, cs[i]? = some c := ⟨_, List.getElem?_eq_getElem (show i < cs.length by omega)⟩
      have hcm := List.mem_of_getElem? hc
      have hok := hR.2.2.2 c hcm
      have e : IntKind.i64.wrap ((i : Int) + 1) = ((i + 1 : Nat) : Int) := by rw [wrap64] <;> omega
      have next : ¬ locC c → ∀ k d, k < i + 1 → cs[k]? = some d → ¬ locC d := by
        intro hn k d hk hd
        by_cases hki : k = i
        · subst hki; rw [hc] at hd; cases hd; exact hn
        · exact hP k d (by omega) hd
      refine ⟨_, ⟨by omega, idx_row hc⟩, ?_⟩
      conv => whnf
      refine sel_split (fun h2 => ?_) (fun h2 => ?_)
      · conv => whnf
        have h2 : c.k = 4 := by simpa using h2
        refine ⟨_, ⟨by omega, idx_row hc⟩, ?_⟩
        conv => whnf
        refine sel_split (fun h3 => ?_) (fun h3 => ?_)
        · conv => whnf
          have h3 := of_decide_eq_true h3
          refine hRt _ ?_
          conv => whnf
          refine ⟨rfl, no (fun hw => hw.2 c hcm ⟨h2, ?_⟩), rfl⟩
          rcases hok with g | g | g | g <;> omega
        · conv => whnf
          have h3 := of_decide_eq_false h3
          refine hN (i + 1) _ ⟨by omega, next (fun hn => by have := hn.2; omega)⟩ (by omega) ?_
          rw [← e]; rfl
      · conv => whnf
        have h2 : c.k ≠ 4 := by simpa using h2
        refine hN (i + 1) _ ⟨by omega, next (fun hn => h2 hn.1)⟩ (by omega) ?_
        rw [← e]; rfl
    · conv => whnf
      have h := of_decide_eq_false h
      rw [hlen] at h
      refine hE _ _ ?_
      conv => whnf
      refine ⟨rfl, bool_of hr ⟨fun _ => ⟨hR, fun c hc => ?_⟩, fun _ => rfl⟩, rfl⟩
      obtain ⟨k, hk, e⟩ := List.getElem_of_mem hc
      exact hP k c (by omega) (by rw [List.getElem?_eq_getElem hk, e])
end Tree

set_option autoImplicit false
set_option linter.unusedVariables false
set_option linter.unusedSimpArgs false
namespace Tree
open Go
set_option maxHeartbeats 4000000
set_option maxRecDepth 100000
end Tree

set_option autoImplicit false
set_option linter.unusedVariables false
set_option linter.unusedSimpArgs false
namespace Tree
open Go
set_option maxHeartbeats 4000000
set_option maxRecDepth 100000
theorem varsOf_ok (t : T1) (hl : t.cs.length ≤ 1048576) (ob : Obs) (pb : Nat) : Gives env1 27 t.row ob pb (sl2 true 0 (varsC [] t.cs) [], ob) := by
  have hfl : ([t] : List T1).flatMap T1.cs = t.cs := by simp
  have hv0 : varsT [] [t] = varsC [] t.cs := rfl
  refine gives_code (f := tf27) rfl ?_
  conv => whnf
  refine ⟨_, _, refVars_ok 0 [t] [] (by simp) (by rw [hfl]; exact hl) ob _, fun _ => noRef2 _ _ _ _, ?_⟩
  rw [hv0]
  conv => whnf
  exact ⟨rfl, rfl, rfl⟩
end Tree
