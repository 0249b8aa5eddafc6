/- Layer 1: structures' cells, rows of cells, what E answers. -/
import Derived.Test.YtpjoppajohmmnaaDoorL1Right
set_option autoImplicit false
set_option linter.unusedVariables false
set_option linter.unusedSimpArgs false
namespace Tree
open Go
set_option maxHeartbeats 4000000
set_option maxRecDepth 100000
def sgnB : List ByteArray := sgn.map fun z => ⟨z.toArray⟩
def rowS (s : ByteArray) : List LV := [.str s]
theorem idx_str {l : List ByteArray} {i : Nat} {s : ByteArray} (h : l[i]? = some s) : (l.map rowS)[i]? = some [.str s] := by
  rw [List.getElem?_map, h]; rfl
def S58 (v x : LV) (n : Nat) (i : Int) (ob : Obs) : WSt := ⟨.val v :: .val x :: List.replicate 5 (.val .undef) ++ .val (.int .i64 n) :: .val (.int .i64 i) :: List.replicate 10 (.val .undef), ob, []⟩
theorem idxStr_ok (lab : Nat) (l : List ByteArray) (x : ByteArray) (hl : l.length ≤ 4611686018427387904) (ob : Obs) (pb : Nat) : ∃ j : Int, (0 ≤ j ↔ x ∈ l) ∧ Gives env1 58 [.sl false lab 1 (l.map rowS) [], .str x] ob pb (.int .i64 j, ob) := by
  obtain ⟨j, hj1, hj2⟩ : ∃ j : Int, (∀ i : Nat, l[i]? = some x → (∀ k s, k < i → l[k]? = some s → s ≠ x) → j = i) ∧ ((∀ (k : Nat) s, l[k]? = some s → s ≠ x) → j = -1) := by
    by_cases h : ∃ i : Nat, l[i]? = some x ∧ ∀ k s, k < i → l[k]? = some s → s ≠ x
    · obtain ⟨i, h1, h2⟩ := h
      refine ⟨i, fun i' h3 h4 => ?_, fun h3 => absurd rfl (h3 i x h1)⟩
      rcases Nat.lt_trichotomy i i' with h5 | h5 | h5
      · exact absurd rfl (h4 i x h5 h1)
      · rw [h5]
      · exact absurd rfl (h2 i' x h5 h3)
    · exact ⟨-1, fun i h1 h2 => absurd ⟨i, h1, h2⟩ h, fun _ => rfl⟩
  refine ⟨j, ?_, ?_⟩
  · constructor
    · intro h0
      apply Classical.byContradiction
      intro hn
      have := hj2 (fun k s hk e => hn (e ▸ List.mem_of_getElem? hk))
      omega
    · intro hm
      apply Classical.byContradiction
      intro hneg
      obtain ⟨i, hi, e⟩ := List.getElem_of_mem hm
      -- the first place
      have : ∀ n : Nat, ∀ k s, k < n → l[k]? = some s → s ≠ x := by
        intro n
        induction n with
        | zero => intro k s h; omega
        | succ n ih =>
          intro k s hk hs e'
          by_cases hkn : k < n
          · exact ih k s hkn hs e'
          · have : k = n := by omega
            subst this; subst e'
            have := hj1 k hs ih
            omega
      exact this (i + 1) i x (by omega) (by rw [List.getElem?_eq_getElem hi, e]) rfl
  refine gives_code (f := tf58) rfl ?_
  have hlen : (l.map rowS).length = l.length := by simp
  conv => whnf
  refine loop_abs (S := fun i : Nat => S58 (.sl false lab 1 (l.map rowS) []) (.str x) (l.map rowS).length i ob) (m := fun i => l.length - i) (P := fun i => i ≤ l.length ∧ ∀ k s, k < i → l[k]? = some s → s ≠ x) ?_ 0 ⟨Nat.zero_le _, fun k s h => by omega⟩ rfl
  rintro R i ⟨hi, hP⟩ hN hE hR
  conv => whnf
  refine sel_split (fun h => ?_) (fun h => ?_)
  · conv => whnf
    have h := of_decide_eq_true h
    rw [hlen] at h
    obtain ⟨s, hs⟩ : ∃ s, l[i]? = some s := ⟨_, List.getElem?_eq_getElem (show i < l.length by omega)⟩
    refine ⟨_, ⟨by omega, idx_str hs⟩, ?_⟩
    conv => whnf
    refine sel_split (fun h2 => ?_) (fun h2 => ?_)
    · conv => whnf
      have h2 : x = s := bytes_eq.1 (by simpa using h2)
      refine hR _ ?_
      conv => whnf
      refine ⟨rfl, ?_, rfl⟩
      rw [hj1 i (by rw [hs, h2]) hP]; rfl
    · conv => whnf
      have h2 : s ≠ x := fun e => by rw [e] at h2; simp at h2
      have e : IntKind.i64.wrap ((i : Int) + 1) = ((i + 1 : Nat) : Int) := by rw [wrap64] <;> omega
      refine hN (i + 1) _ ⟨by omega, fun k s' hk hs' => ?_⟩ (by omega) ?_
      · by_cases hki : k = i
        · subst hki; rw [hs] at hs'; cases hs'; exact h2
        · exact hP k s' (by omega) hs'
      · rw [← e]; rfl
  · conv => whnf
    have h := of_decide_eq_false h
    rw [hlen] at h
    refine hE _ _ ?_
    conv => whnf
    refine ⟨rfl, ?_, rfl⟩
    rw [hj2 (fun k s hk => hP k s (by have := (List.getElem?_eq_some_iff.1 hk).1; omega) hk)]; rfl
theorem hasStr_ok (lab : Nat) (l : List ByteArray) (x : ByteArray) (hl : l.length ≤ 4611686018427387904) (ob : Obs) (pb : Nat) (r : Bool) (hr : r = true ↔ x ∈ l) : Gives env1 248 [.sl false lab 1 (l.map rowS) [], .str x] ob pb (.bool r, ob) := by
  obtain ⟨j, hj, hg⟩ := idxStr_ok lab l x hl ob (max pb ob.length)
  refine gives_code (f := tf248) rfl ?_
  conv => whnf
  refine ⟨_, _, hg, fun _ => rfl, ?_⟩
  conv => whnf
  refine ⟨rfl, ?_, rfl⟩
  refine bool_of hr ?_
  rw [← hj]; simp
theorem sign_mem (s : ByteArray) : s ∈ sgnB ↔ SignP s := by
  unfold sgnB SignP
  rw [List.mem_map]
  constructor
  · rintro ⟨z, hz, rfl⟩; simpa using hz
  · intro h; exact ⟨_, h, by obtain ⟨⟨l⟩⟩ := s; rfl⟩
theorem rule3_ok (c : C) (ob : Obs) (pb : Nat) (r : Bool) (hk : c.k = 3) (hs : c.text.size ≤ maxLen) (hr : r = true ↔ okC c) : Gives env1 50 [c.lv] ob pb (.bool r, ob) := by
  obtain ⟨q, hq⟩ := boolOf (c = ⟨3, c.text, c.n, 0, 0⟩)
  obtain ⟨p, hp⟩ := boolOf (NameP c.text.data.toList)
  obtain ⟨g, hg⟩ := boolOf (c.text ∈ sgnB)
  have he : c = ⟨3, c.text, c.n, 0, 0⟩ ↔ zeroVar c := by simp [C.ext_iff', zeroVar, hk]
  have hok : okC c ↔ zeroVar c ∧ (NameP c.text.data.toList ∧ 1 ≤ c.n ∧ c.n ≤ 8 ∨ SignP c.text ∧ c.n = 2) := by simp [okC, hk]
  rw [← sign_mem, ← hg, ← hp] at hok
  have last : ∀ (b : Bool), (b = true ↔ (p = true ∧ 1 ≤ c.n ∧ c.n ≤ 8 ∨ g = true ∧ c.n = 2)) → (b = true → (LV.bool q = LV.bool r)) ∧ (b = false → LV.bool false = LV.bool r) := by
    intro b hb
    refine ⟨fun e => bool_of hr ?_, fun e => bool_of hr ?_⟩
    · rw [hok, hq, he]
      exact ⟨fun h => ⟨h, hb.1 e⟩, fun h => h.1⟩
    · rw [hok]
      constructor
      · intro e; cases e
      · intro h; rw [hb.2 h.2] at e; cases e
  refine gives_code (f := tf50) rfl ?_
  conv => whnf
  refine ⟨_, _, isName_ok c.text hs ob _ p hp, fun _ => rfl, ?_⟩
  have tail : ∀ (b : Bool), (b = true ↔ (p = true ∧ 1 ≤ c.n ∧ c.n ≤ 8 ∨ g = true ∧ c.n = 2)) → True := fun _ _ => trivial
  conv => whnf
  refine sel_split (fun h1 => ?_) (fun h1 => ?_)
  · conv => whnf
    refine sel_split (fun h2 => ?_) (fun h2 => ?_)
    · conv => whnf
      refine sel_split (fun h3 => ?_) (fun h3 => ?_)
      · conv => whnf
        refine ⟨_, _, only_ok c ⟨3, c.text, c.n, 0, 0⟩ ob _ q hq, fun _ => rfl, ?_⟩
        conv => whnf
        refine ⟨rfl, ?_, rfl⟩
        exact (last true (by simp at h2 h3; simp [h1, h2, h3])).1 rfl
      · conv => whnf
        refine ⟨_, _, hasStr_ok 0 sgnB c.text (by decide) ob _ g hg, fun _ => rfl, ?_⟩
        conv => whnf
        refine sel_split (fun h4 => ?_) (fun h4 => ?_)
        · conv => whnf
          refine sel_split (fun h5 => ?_) (fun h5 => ?_)
          · conv => whnf
            refine ⟨_, _, only_ok c ⟨3, c.text, c.n, 0, 0⟩ ob _ q hq, fun _ => rfl, ?_⟩
            conv => whnf
            refine ⟨rfl, ?_, rfl⟩
            exact (last true (by simp at h5; simp [h4, h5])).1 rfl
          · conv => whnf
            refine ⟨rfl, ?_, rfl⟩
            exact (last false (by simp at h3 h5; simp [h4, h5]; intro _ _; omega)).2 rfl
        · conv => whnf
          refine ⟨rfl, ?_, rfl⟩
          exact (last false (by simp at h3; simp [h4]; intro _ _; omega)).2 rfl
    · conv => whnf
      refine ⟨_, _, hasStr_ok 0 sgnB c.text (by decide) ob _ g hg, fun _ => rfl, ?_⟩
      conv => whnf
      refine sel_split (fun h4 => ?_) (fun h4 => ?_)
      · conv => whnf
        refine sel_split (fun h5 => ?_) (fun h5 => ?_)
        · conv => whnf
          refine ⟨_, _, only_ok c ⟨3, c.text, c.n, 0, 0⟩ ob _ q hq, fun _ => rfl, ?_⟩
          conv => whnf
          refine ⟨rfl, ?_, rfl⟩
          exact (last true (by simp at h5; simp [h4, h5])).1 rfl
        · conv => whnf
          refine ⟨rfl, ?_, rfl⟩
          exact (last false (by simp at h2 h5; simp [h4, h5]; intro _ _; omega)).2 rfl
      · conv => whnf
        refine ⟨rfl, ?_, rfl⟩
        exact (last false (by simp at h2; simp [h4]; intro _ _; omega)).2 rfl
  · conv => whnf
    refine ⟨_, _, hasStr_ok 0 sgnB c.text (by decide) ob _ g hg, fun _ => rfl, ?_⟩
    conv => whnf
    refine sel_split (fun h4 => ?_) (fun h4 => ?_)
    · conv => whnf
      refine sel_split (fun h5 => ?_) (fun h5 => ?_)
      · conv => whnf
        refine ⟨_, _, only_ok c ⟨3, c.text, c.n, 0, 0⟩ ob _ q hq, fun _ => rfl, ?_⟩
        conv => whnf
        refine ⟨rfl, ?_, rfl⟩
        exact (last true (by simp at h5; simp [h4, h5])).1 rfl
      · conv => whnf
        refine ⟨rfl, ?_, rfl⟩
        exact (last false (by simp at h5; simp [h1, h4, h5])).2 rfl
    · conv => whnf
      refine ⟨rfl, ?_, rfl⟩
      exact (last false (by simp [h1, h4])).2 rfl
end Tree
