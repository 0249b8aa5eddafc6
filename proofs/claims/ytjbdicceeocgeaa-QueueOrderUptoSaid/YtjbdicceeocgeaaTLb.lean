/- Layer 1: copies and comparisons of terms and of rows of terms, what E answers. -/
import Derived.Test.YtjbdicceeocgeaaTLa
import Derived.Test.YtjbdicceeocgeaaL1Live
set_option autoImplicit false
set_option linter.unusedVariables false
set_option linter.unusedSimpArgs false
namespace Tree
open Go
set_option maxHeartbeats 4000000
set_option maxRecDepth 100000
abbrev sl5 (o : Bool) (l : Nat) (cs : List C) (sp : List (List LV)) : LV := .sl o l 5 (cs.map C.row) sp
/-- A term in a row of terms. -/
structure T1 where
  lab : Nat
  cs : List C
  sp : List (List LV)
def T1.row (t : T1) : List LV := [.sl false t.lab 5 (t.cs.map C.row) t.sp]
def T1.own (t : T1) : T1 := ⟨0, t.cs, []⟩
theorem noRef_rows (n : Nat) : ∀ cs : List C, LV.noRefss n (cs.map C.row) = true
  | [] => by simp [LV.noRefss]
  | c :: cs => by simp [LV.noRefss, noRef_rows n cs, C.row, LV.noRefs, LV.noRef]
theorem noRef5 (n : Nat) (o : Bool) (l : Nat) (cs : List C) : (sl5 o l cs []).noRef n = true := by simp [LV.noRef, LV.noRefss, noRef_rows]
theorem copied_ok (lab : Nat) (cs : List C) (sp : List (List LV)) (hb : cs.length * 48 ≤ 140737488355328) (ob : Obs) (pb : Nat) : Gives env1 45 [sl5 false lab cs sp] ob pb (sl5 true 0 cs [], ob) := by
  refine gives_code (f := tf45) rfl ?_
  conv => whnf
  refine ⟨cs.map C.row, ⟨.inl rfl, by simpa using hb, by simp⟩, ?_⟩
  conv => whnf
  exact ⟨rfl, rfl, rfl⟩
def S11 (v o : LV) (i : Int) (n : Nat) (ob : Obs) : WSt := ⟨.val v :: .val o :: .val .undef :: .val .undef :: .val .undef :: .val (.int .i64 i) :: List.replicate n (.val .undef), ob, []⟩
theorem equal_ok (l1 l2 : Nat) (us vs : List C) (s1 s2 : List (List LV)) (hl : us.length ≤ 4611686018427387904) (ob : Obs) (pb : Nat) (r : Bool) (hr : r = true ↔ us = vs) : Gives env1 11 [sl5 false l1 us s1, sl5 false l2 vs s2] ob pb (.bool r, ob) := by
  have ha : (us.map C.row).length = us.length := by simp
  have hb : (vs.map C.row).length = vs.length := by simp
  have no : us ≠ vs → LV.bool false = LV.bool r := fun h => bool_of hr ⟨fun e => (nomatch e), fun e => absurd e h⟩
  refine gives_code (f := tf11) rfl ?_
  conv => whnf
  refine sel_split (fun h => ?_) (fun h => ?_)
  · conv => whnf
    rw [ha, hb] at h
    exact ⟨rfl, no (fun e => by subst e; simp at h), rfl⟩
  · conv => whnf
    rw [ha, hb] at h
    have hab : us.length = vs.length := by simp at h; omega
    refine loop_abs (S := fun i : Nat => S11 (sl5 false l1 us s1) (sl5 false l2 vs s2) i 20 ob) (m := fun i => us.length - i) (P := fun i => i ≤ us.length ∧ ∀ k, k < i → us[k]? = vs[k]?) ?_ 0 ⟨Nat.zero_le _, fun k h => by omega⟩ rfl
    rintro R i ⟨hi, hP⟩ hN hE hR
    conv => whnf
    refine sel_split (fun h2 => ?_) (fun h2 => ?_)
    · conv => whnf
      have h2 := of_decide_eq_true h2
      rw [ha] at h2
      obtain ⟨a, hA⟩ : ∃ t, us[i]? = some t := ⟨_, List.getElem?_eq_getElem (show i < us.length by omega)⟩
      obtain ⟨b, hB⟩ : ∃ t, vs[i]? = some t := ⟨_, List.getElem?_eq_getElem (show i < vs.length by omega)⟩
      refine ⟨_, ⟨by omega, idx_row hA⟩, ?_⟩
      conv => whnf
      refine ⟨_, ⟨by omega, idx_row hB⟩, ?_⟩
      conv => whnf
      refine sel_split (fun h3 => ?_) (fun h3 => ?_)
      · conv => whnf
        have h3 : a ≠ b := by intro e; subst e; simp at h3
        refine hR _ ?_
        conv => whnf
        refine ⟨rfl, no (fun e => ?_), rfl⟩
        rw [e, hB] at hA; cases hA; exact h3 rfl
      · conv => whnf
        have h3 : a = b := by simp [bytes_eq] at h3; exact C.ext_iff'.2 h3
        have e : IntKind.i64.wrap ((i : Int) + 1) = ((i + 1 : Nat) : Int) := by rw [wrap64] <;> omega
        refine hN (i + 1) _ ⟨by omega, fun k hk => ?_⟩ (by omega) ?_
        · by_cases hki : k = i
          · subst hki; rw [hA, hB, h3]
          · exact hP k (by omega)
        · rw [← e]; rfl
    · conv => whnf
      have h2 := of_decide_eq_false h2
      rw [ha] at h2
      refine hE _ _ ?_
      conv => whnf
      refine ⟨rfl, bool_of hr ⟨fun _ => ?_, fun _ => rfl⟩, rfl⟩
      apply List.ext_getElem?
      intro k
      by_cases hk : k < i
      · exact hP k hk
      · rw [List.getElem?_eq_none (by omega), List.getElem?_eq_none (by omega)]
end Tree

set_option autoImplicit false
set_option linter.unusedVariables false
set_option linter.unusedSimpArgs false
namespace Tree
open Go
set_option maxHeartbeats 4000000
set_option maxRecDepth 100000
def T1.fine (t : T1) : Prop := t.cs.length ≤ 4611686018427387904 ∧ ∀ c ∈ t.cs, c.fine
end Tree

set_option autoImplicit false
set_option linter.unusedVariables false
set_option linter.unusedSimpArgs false
namespace Tree
open Go
set_option maxHeartbeats 4000000
set_option maxRecDepth 100000
end Tree

set_option autoImplicit false
set_option linter.unusedVariables false
set_option linter.unusedSimpArgs false
namespace Tree
open Go
end Tree

set_option autoImplicit false
set_option linter.unusedVariables false
set_option linter.unusedSimpArgs false
namespace Tree
open Go
set_option maxHeartbeats 4000000
set_option maxRecDepth 100000
end Tree

set_option autoImplicit false
set_option linter.unusedVariables false
set_option linter.unusedSimpArgs false
namespace Tree
open Go
set_option maxHeartbeats 4000000
set_option maxRecDepth 100000
end Tree

set_option autoImplicit false
set_option linter.unusedVariables false
set_option linter.unusedSimpArgs false
namespace Tree
open Go
set_option maxHeartbeats 4000000
set_option maxRecDepth 100000
abbrev NV := Int × Int
def nrow (v : NV) : List LV := [.int .i64 v.1, .int .i64 v.2]
abbrev sl2 (o : Bool) (l : Nat) (ns : List NV) (sp : List (List LV)) : LV := .sl o l 2 (ns.map nrow) sp
theorem idx_n {ns : List NV} {i : Nat} {v : NV} (h : ns[i]? = some v) : (ns.map nrow)[i]? = some [.int .i64 v.1, .int .i64 v.2] := by
  rw [List.getElem?_map, h]; rfl
def addN (acc : List NV) (v : NV) : List NV := if v ∈ acc then acc else acc ++ [v]
def S55 (v x : LV) (bx : List LV) (n : Nat) (i : Int) (ob : Obs) : WSt := ⟨.val v :: .val .undef :: .val .undef :: .box bx :: .val .undef :: .val .undef :: .val .undef :: .val (.int .i64 n) :: .val (.int .i64 i) :: List.replicate 10 (.val .undef), ob, []⟩
theorem hasName_ok (lab : Nat) (ns : List NV) (sp : List (List LV)) (x : NV) (hl : ns.length ≤ 4611686018427387904) (ob : Obs) (pb : Nat) (r : Bool) (hr : r = true ↔ x ∈ ns) : Gives env1 42 [sl2 false lab ns sp, nm x.1 x.2] ob pb (.bool r, ob) := by
  have hlen : (ns.map nrow).length = ns.length := by simp
  obtain ⟨j, hj0, hg⟩ : ∃ j : Int, decide (j ≥ 0) = r ∧ Gives env1 55 [sl2 false lab ns sp, nm x.1 x.2] ob (max pb ob.length) (.int .i64 j, ob) := by
    obtain ⟨j, hj0, hj1, hj2⟩ : ∃ j : Int, (decide (j ≥ 0) = r) ∧ (∀ i : Nat, ns[i]? = some x → (∀ k v, k < i → ns[k]? = some v → v ≠ x) → j = i) ∧ ((∀ (k : Nat) v, ns[k]? = some v → v ≠ x) → j = -1) := by
      by_cases hx : x ∈ ns
      · have : ∃ i : Nat, ns[i]? = some x ∧ ∀ k v, k < i → ns[k]? = some v → v ≠ x := by
          apply Classical.byContradiction
          intro hn
          have all : ∀ n : Nat, ∀ k v, k < n → ns[k]? = some v → v ≠ x := by
            intro n
            induction n with
            | zero => intro k d hk; omega
            | succ n ih =>
              intro k v hk hv e
              by_cases hkn : k < n
              · exact ih k v hkn hv e
              · have : k = n := by omega
                subst this; subst e
                exact hn ⟨k, hv, ih⟩
          obtain ⟨i, hi, e⟩ := List.getElem_of_mem hx
          exact all (i + 1) i x (by omega) (by rw [List.getElem?_eq_getElem hi, e]) rfl
        obtain ⟨i, h1, h2⟩ := this
        refine ⟨i, by rw [hr.2 hx]; simp, fun i' h4 h6 => ?_, fun h4 => absurd rfl (h4 i x h1)⟩
        rcases Nat.lt_trichotomy i i' with h7 | h7 | h7
        · exact absurd rfl (h6 i x h7 h1)
        · rw [h7]
        · exact absurd rfl (h2 i' x h7 h4)
      · have hf : r = false := by
          cases r with
          | false => rfl
          | true => exact absurd (hr.1 rfl) hx
        exact ⟨-1, by rw [hf]; decide, fun i h1 _ => absurd (List.mem_of_getElem? h1) hx, fun _ => rfl⟩
    refine ⟨j, hj0, ?_⟩
    refine gives_code (f := tf55) rfl ?_
    conv => whnf
    refine loop_abs (S := fun i : Nat => S55 (sl2 false lab ns sp) .undef [.int .i64 x.1, .int .i64 x.2] (ns.map nrow).length i ob) (m := fun i => ns.length - i) (P := fun i => i ≤ ns.length ∧ ∀ k v, k < i → ns[k]? = some v → v ≠ x) ?_ 0 ⟨Nat.zero_le _, fun k s h => by omega⟩ rfl
    rintro R i ⟨hi, hP⟩ hN hE hR
    conv => whnf
    refine sel_split (fun h => ?_) (fun h => ?_)
    · conv => whnf
      have h := of_decide_eq_true h
      rw [hlen] at h
      obtain ⟨v, hv⟩ : ∃ s, ns[i]? = some s := ⟨_, List.getElem?_eq_getElem (show i < ns.length by omega)⟩
      refine ⟨_, ⟨by omega, idx_n hv⟩, ?_⟩
      conv => whnf
      refine sel_split (fun h2 => ?_) (fun h2 => ?_)
      · conv => whnf
        have h2 : v = x := by simp at h2; exact Prod.ext h2.1.symm h2.2.symm
        refine hR _ ?_
        conv => whnf
        refine ⟨rfl, ?_, rfl⟩
        rw [hj1 i (by rw [hv, h2]) hP]; rfl
      · conv => whnf
        have h2 : v ≠ x := fun e => by rw [e] at h2; simp at h2
        have e : IntKind.i64.wrap ((i : Int) + 1) = ((i + 1 : Nat) : Int) := by rw [wrap64] <;> omega
        refine hN (i + 1) _ ⟨by omega, fun k s' hk hs' => ?_⟩ (by omega) ?_
        · by_cases hki : k = i
          · subst hki; rw [hv] at hs'; cases hs'; exact h2
          · exact hP k s' (by omega) hs'
        · rw [← e]; rfl
    · conv => whnf
      have h := of_decide_eq_false h
      rw [hlen] at h
      refine hE _ _ ?_
      conv => whnf
      refine ⟨rfl, ?_, rfl⟩
      rw [hj2 (fun k s hk => hP k s (by have := (List.getElem?_eq_some_iff.1 hk).1; omega) hk)]; rfl
  refine gives_code (f := tf42) rfl ?_
  conv => whnf
  refine ⟨_, _, hg, fun _ => rfl, ?_⟩
  conv => whnf
  refine ⟨rfl, ?_, rfl⟩
  show LV.bool _ = LV.bool r
  rw [hj0]
end Tree
