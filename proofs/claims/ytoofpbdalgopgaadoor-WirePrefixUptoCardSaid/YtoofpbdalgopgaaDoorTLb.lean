/- Layer 1: copies and comparisons of terms and of rows of terms, what E answers. -/
import Derived.Test.YtoofpbdalgopgaaDoorTLa
import Derived.Test.YtoofpbdalgopgaaDoorL1Live
set_option autoImplicit false
set_option linter.unusedVariables false
set_option linter.unusedSimpArgs false
namespace Tree
open Go
set_option maxHeartbeats 4000000
set_option maxRecDepth 100000
abbrev sl5 (o : Bool) (l : Nat) (cs : List C) (sp : List (List LV)) : LV := .sl o l 5 (cs.map C.row) sp
/-- A term in a row of terms. -/
structure T1 where
  lab : Nat
  cs : List C
  sp : List (List LV)
def T1.row (t : T1) : List LV := [.sl false t.lab 5 (t.cs.map C.row) t.sp]
def T1.own (t : T1) : T1 := ⟨0, t.cs, []⟩
theorem noRef_rows (n : Nat) : ∀ cs : List C, LV.noRefss n (cs.map C.row) = true
  | [] => by simp [LV.noRefss]
  | c :: cs => by simp [LV.noRefss, noRef_rows n cs, C.row, LV.noRefs, LV.noRef]
def S11 (v o : LV) (i : Int) (n : Nat) (ob : Obs) : WSt := ⟨.val v :: .val o :: .val .undef :: .val .undef :: .val .undef :: .val (.int .i64 i) :: List.replicate n (.val .undef), ob, []⟩
theorem equal_ok (l1 l2 : Nat) (us vs : List C) (s1 s2 : List (List LV)) (hl : us.length ≤ 4611686018427387904) (ob : Obs) (pb : Nat) (r : Bool) (hr : r = true ↔ us = vs) : Gives env1 11 [sl5 false l1 us s1, sl5 false l2 vs s2] ob pb (.bool r, ob) := by
  have ha : (us.map C.row).length = us.length := by simp
  have hb : (vs.map C.row).length = vs.length := by simp
  have no : us ≠ vs → LV.bool false = LV.bool r := fun h => bool_of hr ⟨fun e => (nomatch e), fun e => absurd e h⟩
  refine gives_code (f := tf11) rfl ?_
  conv => whnf
  refine sel_split (fun h => ?_) (fun h => ?_)
  · conv => whnf
    rw [ha, hb] at h
    exact ⟨rfl, no (fun e => by subst e; simp at h), rfl⟩
  · conv => whnf
    rw [ha, hb] at h
    have hab : us.length = vs.length := by simp at h; omega
    refine loop_abs (S := fun i : Nat => S11 (sl5 false l1 us s1) (sl5 false l2 vs s2) i 20 ob) (m := fun i => us.length - i) (P := fun i => i ≤ us.length ∧ ∀ k, k < i → us[k]? = vs[k]?) ?_ 0 ⟨Nat.zero_le _, fun k h => by omega⟩ rfl
    rintro R i ⟨hi, hP⟩ hN hE hR
    conv => whnf
    refine sel_split (fun h2 => ?_) (fun h2 => ?_)
    · conv => whnf
      have h2 := of_decide_eq_true h2
      rw [ha] at h2
      obtain ⟨a, hA⟩ : ∃ t, us[i]? = some t := ⟨_, List.getElem?_eq_getElem (show i < us.length by omega)⟩
      obtain ⟨b, hB⟩ : ∃ t, vs[i]? = some t := ⟨_, List.getElem?_eq_getElem (show i < vs.length by omega)⟩
      refine ⟨_, ⟨by omega, idx_row hA⟩, ?_⟩
      conv => whnf
      refine ⟨_, ⟨by omega, idx_row hB⟩, ?_⟩
      conv => whnf
      refine sel_split (fun h3 => ?_) (fun h3 => ?_)
      · conv => whnf
        have h3 : a ≠ b := by intro e; subst e; simp at h3
        refine hR _ ?_
        conv => whnf
        refine ⟨rfl, no (fun e => ?_), rfl⟩
        rw [e, hB] at hA; cases hA; exact h3 rfl
      · conv => whnf
        have h3 : a = b := by simp [bytes_eq] at h3; exact C.ext_iff'.2 h3
        have e : IntKind.i64.wrap ((i : Int) + 1) = ((i + 1 : Nat) : Int) := by rw [wrap64] <;> omega
        refine hN (i + 1) _ ⟨by omega, fun k hk => ?_⟩ (by omega) ?_
        · by_cases hki : k = i
          · subst hki; rw [hA, hB, h3]
          · exact hP k (by omega)
        · rw [← e]; rfl
    · conv => whnf
      have h2 := of_decide_eq_false h2
      rw [ha] at h2
      refine hE _ _ ?_
      conv => whnf
      refine ⟨rfl, bool_of hr ⟨fun _ => ?_, fun _ => rfl⟩, rfl⟩
      apply List.ext_getElem?
      intro k
      by_cases hk : k < i
      · exact hP k hk
      · rw [List.getElem?_eq_none (by omega), List.getElem?_eq_none (by omega)]
end Tree

set_option autoImplicit false
set_option linter.unusedVariables false
set_option linter.unusedSimpArgs false
namespace Tree
open Go
set_option maxHeartbeats 4000000
set_option maxRecDepth 100000
def T1.fine (t : T1) : Prop := t.cs.length ≤ 4611686018427387904 ∧ ∀ c ∈ t.cs, c.fine
end Tree

set_option autoImplicit false
set_option linter.unusedVariables false
set_option linter.unusedSimpArgs false
namespace Tree
open Go
set_option maxHeartbeats 4000000
set_option maxRecDepth 100000
theorem flat_le : ∀ ts : List T1, (∀ t ∈ ts, t.cs.length ≤ 256) → (ts.flatMap T1.cs).length ≤ 256 * ts.length
  | [], _ => by simp
  | t :: ts, h => by
    have h1 := h t (List.mem_cons_self ..)
    have h2 := flat_le ts (fun u hu => h u (List.mem_cons_of_mem _ hu))
    rw [List.flatMap_cons, List.length_append, List.length_cons]; omega
end Tree

set_option autoImplicit false
set_option linter.unusedVariables false
set_option linter.unusedSimpArgs false
namespace Tree
open Go
def ar (c : C) : Nat := (partsC c).toNat
/-- What is left behind o whole terms. -/
def walk : List C → Nat → Option (List C)
  | l, 0 => some l
  | [], _ + 1 => none
  | c :: r, o + 1 => walk r (o + ar c)
theorem walk_zero (l : List C) : walk l 0 = some l := by cases l <;> rfl
theorem walk_le : ∀ (l : List C) (o : Nat) (r : List C), walk l o = some r → o ≤ l.length ∧ r.length ≤ l.length
  | l, 0, r, h => by rw [walk_zero] at h; cases h; exact ⟨Nat.zero_le _, Nat.le_refl _⟩
  | [], o + 1, r, h => by simp [walk] at h
  | c :: l, o + 1, r, h => by
    rw [walk] at h
    have := walk_le l _ r h
    simp only [List.length_cons]; omega
theorem ok_parts {c : C} (h : okC c) : partsC c = (ar c : Int) ∧ ar c ≤ 8 := by
  unfold ar partsC
  rcases h with h | h | h | h
  · rw [if_neg (by rw [h.1]; decide)]; exact ⟨rfl, by decide⟩
  · rw [if_neg (by rw [h.1]; decide)]; exact ⟨rfl, by decide⟩
  · rw [if_pos h.1]
    rcases h.2.2 with g | g
    · rw [if_neg (by omega)]; omega
    · rw [if_neg (by omega)]; omega
  · rw [if_neg (by rw [h.1]; decide)]; exact ⟨rfl, by decide⟩
theorem w64_id {x : Int} (h1 : -9223372036854775808 ≤ x) (h2 : x ≤ 9223372036854775807) : w64 x = x := wrap64 h1 h2
theorem scan_walk (L : Nat) : ∀ (l : List C) (o p : Nat), (∀ c ∈ l, okC c) → l.length ≤ L → o + 8 * l.length ≤ 4611686018427387904 →
    scanE L l (o : Int) p = match walk l o with | some r => ((p + (l.length - r.length) : Nat) : Int) | none => 0
  | l, 0, p, _, _, _ => by
    rw [walk_zero]
    cases l <;> simp [scanE]
  | [], o + 1, p, _, _, _ => by
    have : ¬ ((o + 1 : Nat) : Int) ≤ 0 := by omega
    simp only [scanE, walk, if_neg this]
  | c :: l, o + 1, p, h, hL, hb => by
    have h0 : ¬ ((o + 1 : Nat) : Int) ≤ 0 := by omega
    obtain ⟨hp, h8⟩ := ok_parts (h c (List.mem_cons_self ..))
    simp only [List.length_cons] at hL hb
    simp only [scanE, walk, if_neg h0, hp]
    by_cases hgt : ((ar c : Nat) : Int) > (L : Int)
    · rw [if_pos hgt]
      have : walk l (o + ar c) = none := by
        cases hw : walk l (o + ar c) with
        | none => rfl
        | some r => have := (walk_le l _ r hw).1; omega
      rw [this]
    · rw [if_neg hgt]
      have e : w64 (((o + 1 : Nat) : Int) + w64 ((ar c : Int) - 1)) = ((o + ar c : Nat) : Int) := by
        rw [w64_id (x := (ar c : Int) - 1) (by omega) (by omega), w64_id (by omega) (by omega)]; omega
      rw [e, scan_walk L l (o + ar c) (p + 1) (fun d hd => h d (List.mem_cons_of_mem _ hd)) (by omega) (by omega)]
      cases hw : walk l (o + ar c) with
      | none => rfl
      | some r =>
        have := (walk_le l _ r hw).2
        simp only [List.length_cons]
        congr 1; omega
theorem right_walk (cs : List C) : RightP cs ↔ cs ≠ [] ∧ cs.length ≤ 256 ∧ walk cs 1 = some [] ∧ ∀ c ∈ cs, okC c := by
  unfold RightP
  constructor
  · rintro ⟨h1, h2, h3, h4⟩
    refine ⟨h1, h2, ?_, h4⟩
    have hlen : 0 < cs.length := List.length_pos_iff.2 h1
    have he : endE cs 0 = scanE cs.length cs ((1 : Nat) : Int) 0 := by
      unfold endE; rw [if_neg (by omega)]; rfl
    rw [he, scan_walk cs.length cs 1 0 h4 (Nat.le_refl _) (by omega)] at h3
    cases hw : walk cs 1 with
    | none => rw [hw] at h3; simp only at h3; omega
    | some r =>
      rw [hw] at h3; simp only at h3
      have := (walk_le cs 1 r hw).2
      have : r.length = 0 := by omega
      rw [List.length_eq_zero_iff.1 this]
  · rintro ⟨h1, h2, h3, h4⟩
    refine ⟨h1, h2, ?_, h4⟩
    have hlen : 0 < cs.length := List.length_pos_iff.2 h1
    have he : endE cs 0 = scanE cs.length cs ((1 : Nat) : Int) 0 := by
      unfold endE; rw [if_neg (by omega)]; rfl
    rw [he, scan_walk cs.length cs 1 0 h4 (Nat.le_refl _) (by omega), h3]
    simp
end Tree

set_option autoImplicit false
set_option linter.unusedVariables false
set_option linter.unusedSimpArgs false
namespace Tree
open Go
set_option maxHeartbeats 4000000
set_option maxRecDepth 100000
end Tree

set_option autoImplicit false
set_option linter.unusedVariables false
set_option linter.unusedSimpArgs false
namespace Tree
open Go
set_option maxHeartbeats 4000000
set_option maxRecDepth 100000
end Tree

set_option autoImplicit false
set_option linter.unusedVariables false
set_option linter.unusedSimpArgs false
namespace Tree
open Go
set_option maxHeartbeats 4000000
set_option maxRecDepth 100000
end Tree

set_option autoImplicit false
set_option linter.unusedVariables false
set_option linter.unusedSimpArgs false
namespace Tree
open Go
set_option maxHeartbeats 4000000
set_option maxRecDepth 100000
def locC (c : C) : Prop := c.k = 4 ∧ c.node = -1
theorem loc_ok (c : C) (ob : Obs) (pb : Nat) (r : Bool) (hr : r = true ↔ locC c) : Gives env1 44 [c.lv] ob pb (.bool r, ob) := by
  refine gives_code (f := tf44) rfl ?_
  conv => whnf
  refine sel_split (fun h => ?_) (fun h => ?_)
  · conv => whnf
    refine ⟨rfl, bool_of hr ?_, rfl⟩
    unfold locC; simp at h; simp [h]
  · conv => whnf
    refine ⟨rfl, bool_of hr ?_, rfl⟩
    unfold locC; simp at h; simp [h]
def GlobalP (cs : List C) : Prop := RightP cs ∧ ∀ c ∈ cs, ¬ locC c
theorem global_ok (lab : Nat) (cs : List C) (sp : List (List LV)) (hl : cs.length ≤ 4611686018427387904) (hf : ∀ c ∈ cs, c.fine) (ob : Obs) (pb : Nat) (r : Bool) (hr : r = true ↔ GlobalP cs) : Gives env1 25 [sl5 false lab cs sp] ob pb (.bool r, ob) := by
  obtain ⟨q, hq⟩ := boolOf (RightP cs)
  obtain ⟨g, hg⟩ := boolOf (∃ c ∈ cs, locC c)
  refine gives_code (f := tf25) rfl ?_
  conv => whnf
  refine ⟨_, _, right_ok lab cs sp hl hf ob _ q hq, fun _ => rfl, ?_⟩
  conv => whnf
  refine sel_split (fun h => ?_) (fun h => ?_)
  · conv => whnf
    refine ⟨_, _, anyFn_ok 44 lab cs sp locC hl (fun c hc ob pb r hr => loc_ok c ob pb r hr) ob _ g hg, fun _ => rfl, ?_⟩
    conv => whnf
    refine ⟨rfl, bool_of hr ?_, rfl⟩
    have : (!g) = true ↔ ∀ c ∈ cs, ¬ locC c := by
      rw [Bool.not_eq_true', ← Bool.not_eq_true, hg]
      constructor
      · intro h c hc hn; exact h ⟨c, hc, hn⟩
      · rintro h ⟨c, hc, hn⟩; exact h c hc hn
    rw [this]
    exact ⟨fun h2 => ⟨hq.1 h, h2⟩, fun h2 => h2.2⟩
  · conv => whnf
    refine ⟨rfl, bool_of hr ⟨fun e => (nomatch e), fun hw => by rw [hq.2 hw.1] at h; cases h⟩, rfl⟩
end Tree

set_option autoImplicit false
set_option linter.unusedVariables false
set_option linter.unusedSimpArgs false
namespace Tree
open Go
set_option maxHeartbeats 4000000
set_option maxRecDepth 100000
end Tree

set_option autoImplicit false
set_option linter.unusedVariables false
set_option linter.unusedSimpArgs false
namespace Tree
open Go
set_option maxHeartbeats 4000000
set_option maxRecDepth 100000
end Tree
