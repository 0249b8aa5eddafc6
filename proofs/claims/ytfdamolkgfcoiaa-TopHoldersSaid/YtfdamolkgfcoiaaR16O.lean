/- Package refs: ring.is, isOther, the closures, slices.ContainsFunc, first. -/
import Derived.Test.YtfdamolkgfcoiaaR16N
import Derived.Test.YtfdamolkgfcoiaaTW
set_option autoImplicit false
set_option linter.unusedVariables false
set_option linter.unusedSimpArgs false
namespace Tree.R16
open Go Tree
set_option maxHeartbeats 8000000
set_option maxRecDepth 100000
abbrev NV3 := Int × Int
def nr3 (x : NV3) : List LV := [.int .i64 x.1, .int .i64 x.2]
def isB (m i : Int) : Bool := decide (0 ≤ i) && decide (i < m)
theorem is_ok (me m i : Int) (ob : Obs) (pb : Nat) : Gives env16z 419 [.agg [.int .i64 me, .int .i64 m], .int .i64 i] ob pb (.bool (isB m i), ob) := by
  refine gives_code (f := tf419) rfl ?_
  conv => whnf
  refine sel_split (fun h => ?_) (fun h => ?_) <;> (conv => whnf)
  · refine ⟨rfl, congrArg LV.bool ?_, rfl⟩
    have h := of_decide_eq_true h
    unfold isB
    rw [decide_eq_true (by omega : 0 ≤ i), Bool.true_and]
  · refine ⟨rfl, congrArg LV.bool ?_, rfl⟩
    have h := of_decide_eq_false h
    unfold isB
    rw [decide_eq_false (by omega : ¬ 0 ≤ i), Bool.false_and]
def otherB (me m i : Int) : Bool := isB m i && (i != me)
theorem isOther_ok (me m i : Int) (ob : Obs) (pb : Nat) : Gives env16z 421 [.agg [.int .i64 me, .int .i64 m], .int .i64 i] ob pb (.bool (otherB me m i), ob) := by
  refine gives_code (f := tf421) rfl ?_
  conv => whnf
  refine ⟨_, _, is_ok _ _ _ _ _, fun _ => rfl, ?_⟩
  conv => whnf
  refine sel_split (fun h => ?_) (fun h => ?_) <;> (conv => whnf)
  · refine ⟨rfl, congrArg LV.bool ?_, rfl⟩
    unfold otherB
    rw [h, Bool.true_and]
  · refine ⟨rfl, congrArg LV.bool ?_, rfl⟩
    unfold otherB
    rw [h, Bool.false_and]
theorem cl422 (x : NV3) (a t : Nat) (me m : Int) (r1 r2 : LV) (ob : Obs) (pb : Nat) (hob : ob[t]? = some [.int .i64 me, .int .i64 m, r1, r2]) : Gives env16z 422 [.agg (nr3 x), .iptr a [.optr t 0] 0] ob pb (.bool (x.1 != me), ob) := by
  refine gives_code (f := tf422) rfl ?_
  conv => whnf
  refine ⟨_, _, ⟨hob, rfl, rfl⟩, ?_⟩
  conv => whnf
  exact ⟨rfl, rfl, rfl⟩
theorem row3 {vs : List NV3} {i : Nat} {x : NV3} (h : vs[i]? = some x) : (vs.map nr3)[((i : Nat) : Int).toNat]? = some (nr3 x) := by
  rw [List.getElem?_map]; show (vs[i]?).map _ = _; rw [h]; rfl
theorem idx207 (g a t lab : Nat) (o : Bool) (vs : List NV3) (sp : List (List LV)) (p : NV3 → Bool) (hl : vs.length ≤ 4611686018427387904) (ob : Obs) (hg : ∀ x pb, Gives env16z g [.agg (nr3 x), .iptr a [.optr t 0] 0] ob pb (.bool (p x), ob)) (pb : Nat) :
    ∃ j : Int, (decide (j ≥ 0) = vs.any p) ∧ Gives env16z 207 [.sl o lab 2 (vs.map nr3) sp, .fn g [.iptr a [.optr t 0] 0]] ob pb (.int .i64 j, ob) := by
  have hlen : (vs.map nr3).length = vs.length := by simp
  have key : ∀ (j : Int), (∃ (i : Nat) (x : NV3), j = i ∧ vs[i]? = some x ∧ p x = true ∧ ∀ (k : Nat) y, k < i → vs[k]? = some y → p y = false) ∨ (j = -1 ∧ ∀ x ∈ vs, p x = false) → Gives env16z 207 [.sl o lab 2 (vs.map nr3) sp, .fn g [.iptr a [.optr t 0] 0]] ob pb (.int .i64 j, ob) := by
    intro j hj
    refine gives_code (f := tf207) rfl ?_
    conv => whnf
    refine loop_x (V := fun i : Nat => [(8, .val (.int .i64 i))]) (O := fun _ => ob) (m := fun i => vs.length - i) (P := fun i => i ≤ vs.length ∧ ∀ (k : Nat) d, k < i → vs[k]? = some d → p d = false) ?_ 0 ⟨Nat.zero_le _, fun k s h => by omega⟩ rfl
    rintro R i ⟨hi, hP⟩ hN hE hR
    conv => whnf
    refine sel_split (fun h => ?_) (fun h => ?_)
    · conv => whnf
      have h := of_decide_eq_true h
      rw [hlen] at h
      obtain ⟨c, hc⟩ : ∃ c, vs[i]? = some c := ⟨_, List.getElem?_eq_getElem (show i < vs.length by omega)⟩
      refine ⟨_, ⟨by omega, row3 hc⟩, ?_⟩
      conv => whnf
      refine ⟨_, _, hg c _, fun _ => rfl, ?_⟩
      conv => whnf
      refine sel_split (fun h2 => ?_) (fun h2 => ?_)
      · conv => whnf
        refine hR _ ?_
        conv => whnf
        refine ⟨rfl, ?_, rfl⟩
        have : j = i := by
          rcases hj with ⟨i', x', rfl, h1, h3, h4⟩ | ⟨rfl, h1⟩
          · rcases Nat.lt_trichotomy i i' with h7 | h7 | h7
            · have := h4 i c h7 hc; rw [h2] at this; cases this
            · rw [h7]
            · have := hP i' x' h7 h1; rw [h3] at this; cases this
          · have := h1 c (List.mem_of_getElem? hc); rw [h2] at this; cases this
        rw [this]; rfl
      · conv => whnf
        have e : IntKind.i64.wrap ((i : Int) + 1) = ((i + 1 : Nat) : Int) := by rw [wrap64] <;> omega
        refine hN (i + 1) _ ⟨by omega, fun k d hk hd => ?_⟩ (by omega) ?_
        · by_cases hki : k = i
          · subst hki; rw [hc] at hd; cases hd; exact h2
          · exact hP k d (by omega) hd
        · rw [← e]; rfl
    · conv => whnf
      have h := of_decide_eq_false h
      rw [hlen] at h
      refine hE _ _ ?_
      conv => whnf
      refine ⟨rfl, ?_, rfl⟩
      rcases hj with ⟨i', x', rfl, h1, h3, h4⟩ | ⟨rfl, h1⟩
      · have h5 : i' < vs.length := (List.getElem?_eq_some_iff.1 h1).1
        have := hP i' x' (by omega) h1; rw [h3] at this; cases this
      · rfl
  by_cases h : ∃ x ∈ vs, p x = true
  · have : ∃ (i : Nat) (x : NV3), vs[i]? = some x ∧ p x = true ∧ ∀ (k : Nat) y, k < i → vs[k]? = some y → p y = false := by
      obtain ⟨c, hc, hp⟩ := h
      obtain ⟨i, hi, e⟩ := List.getElem_of_mem hc
      have : ∀ n, (∃ (i : Nat) (x : NV3), vs[i]? = some x ∧ p x = true ∧ ∀ (k : Nat) y, k < i → vs[k]? = some y → p y = false) ∨ ∀ (k : Nat) y, k < n → vs[k]? = some y → p y = false := by
        intro n
        induction n with
        | zero => exact .inr fun k y hk => by omega
        | succ n ih =>
          rcases ih with ih | ih
          · exact .inl ih
          · by_cases hn : ∃ y, vs[n]? = some y ∧ p y = true
            · obtain ⟨y, h1, h2⟩ := hn
              exact .inl ⟨n, y, h1, h2, ih⟩
            · refine .inr fun k y hk hy => ?_
              by_cases hkn : k = n
              · subst hkn
                cases hq : p y
                · rfl
                · exact absurd ⟨y, hy, hq⟩ hn
              · exact ih k y (by omega) hy
      rcases this (i + 1) with h1 | h1
      · exact h1
      · have := h1 i c (by omega) (by rw [List.getElem?_eq_getElem hi, e])
        rw [hp] at this; cases this
    obtain ⟨i, c, h1, h2, h3⟩ := this
    refine ⟨i, ?_, key i (.inl ⟨i, c, rfl, h1, h2, h3⟩)⟩
    rw [List.any_eq_true.2 h]; exact decide_eq_true (by omega)
  · refine ⟨-1, ?_, key (-1) (.inr ⟨rfl, fun x hx => ?_⟩)⟩
    · have : vs.any p = false := by
        cases hq : vs.any p
        · rfl
        · exact absurd (List.any_eq_true.1 hq) h
      rw [this]; rfl
    · cases hq : p x
      · rfl
      · exact absurd ⟨x, hx, hq⟩ h
theorem any174 (g a t lab : Nat) (o : Bool) (vs : List NV3) (sp : List (List LV)) (p : NV3 → Bool) (hl : vs.length ≤ 4611686018427387904) (ob : Obs) (hg : ∀ x pb, Gives env16z g [.agg (nr3 x), .iptr a [.optr t 0] 0] ob pb (.bool (p x), ob)) (pb : Nat) :
    Gives env16z 174 [.sl o lab 2 (vs.map nr3) sp, .fn g [.iptr a [.optr t 0] 0]] ob pb (.bool (vs.any p), ob) := by
  obtain ⟨j, hj, hg⟩ := idx207 g a t lab false vs sp p hl ob hg (max pb ob.length)
  refine gives_code (f := tf174) rfl ?_
  conv => whnf
  refine ⟨_, _, hg, fun _ => rfl, ?_⟩
  conv => whnf
  exact ⟨rfl, congrArg LV.bool hj, rfl⟩
end Tree.R16
