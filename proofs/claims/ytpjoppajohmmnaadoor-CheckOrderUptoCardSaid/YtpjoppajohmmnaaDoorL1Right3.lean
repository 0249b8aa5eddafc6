/- Layer 1: Right, what E answers. -/
import Derived.Test.YtpjoppajohmmnaaDoorL1Right2
set_option autoImplicit false
set_option linter.unusedVariables false
set_option linter.unusedSimpArgs false
namespace Tree
open Go
set_option maxHeartbeats 4000000
set_option maxRecDepth 100000
def C.fine (c : C) : Prop := c.text.size ≤ maxLen ∧ 0 ≤ c.k ∧ c.k ≤ 255
def ruleFn (k : Int) : Nat := if k = 1 then 48 else if k = 2 then 49 else if k = 3 then 50 else if k = 4 then 51 else 52
theorem rule_ok (k : Int) (h0 : 0 ≤ k) (h1 : k ≤ 255) (ob : Obs) (pb : Nat) : Gives env1 32 [.int .u8 k] ob pb (.agg [.fn (ruleFn k) []], ob) := by
  by_cases e1 : k = 1
  · subst e1
    refine gives_code (f := tf32) rfl ?_
    conv => whnf
    refine ⟨by omega, ?_⟩
    conv => whnf
    exact ⟨rfl, rfl, rfl⟩
  by_cases e2 : k = 2
  · subst e2
    refine gives_code (f := tf32) rfl ?_
    conv => whnf
    refine ⟨by omega, ?_⟩
    conv => whnf
    exact ⟨rfl, rfl, rfl⟩
  by_cases e3 : k = 3
  · subst e3
    refine gives_code (f := tf32) rfl ?_
    conv => whnf
    refine ⟨by omega, ?_⟩
    conv => whnf
    exact ⟨rfl, rfl, rfl⟩
  by_cases e4 : k = 4
  · subst e4
    refine gives_code (f := tf32) rfl ?_
    conv => whnf
    refine ⟨by omega, ?_⟩
    conv => whnf
    exact ⟨rfl, rfl, rfl⟩
  have er : ruleFn k = 52 := by simp [ruleFn, e1, e2, e3, e4]
  rw [er]
  refine gives_code (f := tf32) rfl ?_
  conv => whnf
  refine sel_split (fun h => ?_) (fun h => ?_)
  · conv => whnf
    exact ⟨rfl, rfl, rfl⟩
  · conv => whnf
    have h := of_decide_eq_false h
    refine sel_t ?_ ?_
    · rw [wrap64 (by omega) (by omega)]; simp; omega
    · conv => whnf
      exact ⟨rfl, rfl, rfl⟩
theorem rule5_ok (c : C) (ob : Obs) (pb : Nat) : Gives env1 52 [c.lv] ob pb (.bool false, ob) := by
  refine gives_code (f := tf52) rfl ?_
  conv => whnf
  exact ⟨rfl, rfl, rfl⟩
theorem holds_ok (c : C) (hf : c.fine) (ob : Obs) (pb : Nat) (r : Bool) (hr : r = true ↔ okC c) : Gives env1 (ruleFn c.k) [c.lv] ob pb (.bool r, ob) := by
  unfold ruleFn
  split
  · rename_i h; exact rule1_ok c ob pb r h hr
  split
  · rename_i h; exact rule2_ok c ob pb r h hf.1 hr
  split
  · rename_i h; exact rule3_ok c ob pb r h hf.1 hr
  split
  · rename_i h; exact rule4_ok c ob pb r h hr
  · rename_i h1 h2 h3 h4
    have : r = false := by
      cases r with
      | false => rfl
      | true => have := hr.1 rfl; simp [okC, h1, h2, h3, h4] at this
    rw [this]; exact rule5_ok c ob pb
theorem right1_ok (c : C) (hf : c.fine) (ob : Obs) (pb : Nat) (r : Bool) (hr : r = true ↔ ¬ okC c) : Gives env1 46 [c.lv] ob pb (.bool r, ob) := by
  obtain ⟨q, hq⟩ := boolOf (okC c)
  refine gives_code (f := tf46) rfl ?_
  conv => whnf
  refine ⟨_, _, rule_ok c.k hf.2.1 hf.2.2 ob _, fun _ => rfl, ?_⟩
  conv => whnf
  refine ⟨_, _, holds_ok c hf ob _ q hq, fun _ => rfl, ?_⟩
  conv => whnf
  refine ⟨rfl, ?_, rfl⟩
  refine bool_of hr ?_
  rw [← hq]; simp
def S56 (v x : LV) (n : Nat) (i : Int) (ob : Obs) : WSt := ⟨.val v :: .val x :: List.replicate 5 (.val .undef) ++ .val (.int .i64 n) :: .val (.int .i64 i) :: List.replicate 10 (.val .undef), ob, []⟩
/-- The first cell at which a function of cells holds. -/
theorem idxFn_ok (g lab : Nat) (cs : List C) (sp : List (List LV)) (p : C → Prop) (hl : cs.length ≤ 4611686018427387904) (hg : ∀ c ∈ cs, ∀ ob pb (r : Bool), (r = true ↔ p c) → Gives env1 g [c.lv] ob pb (.bool r, ob)) (ob : Obs) (pb : Nat) :
    ∃ j : Int, (0 ≤ j ↔ ∃ c ∈ cs, p c) ∧ Gives env1 56 [.sl false lab 5 (cs.map C.row) sp, .fn g []] ob pb (.int .i64 j, ob) := by
  obtain ⟨j, hj0, hj1, hj2⟩ : ∃ j : Int, (0 ≤ j ↔ ∃ c ∈ cs, p c) ∧ (∀ (i : Nat) c, cs[i]? = some c → p c → (∀ k d, k < i → cs[k]? = some d → ¬ p d) → j = i) ∧ ((∀ (k : Nat) d, cs[k]? = some d → ¬ p d) → j = -1) := by
    by_cases h : ∃ c ∈ cs, p c
    · have : ∃ (i : Nat) (c : C), cs[i]? = some c ∧ p c ∧ ∀ k d, k < i → cs[k]? = some d → ¬ p d := by
        apply Classical.byContradiction
        intro hn
        have all : ∀ n : Nat, ∀ k d, k < n → cs[k]? = some d → ¬ p d := by
          intro n
          induction n with
          | zero => intro k d hk; omega
          | succ n ih =>
            intro k d hk hd hp
            by_cases hkn : k < n
            · exact ih k d hkn hd hp
            · have : k = n := by omega
              subst this
              exact hn ⟨k, d, hd, hp, ih⟩
        obtain ⟨c, hc, hp⟩ := h
        obtain ⟨i, hi, e⟩ := List.getElem_of_mem hc
        exact all (i + 1) i c (by omega) (by rw [List.getElem?_eq_getElem hi, e]) hp
      obtain ⟨i, c, h1, h2, h3⟩ := this
      refine ⟨i, ⟨fun _ => h, fun _ => by omega⟩, fun i' c' h4 h5 h6 => ?_, fun h4 => absurd h2 (h4 i c h1)⟩
      rcases Nat.lt_trichotomy i i' with h7 | h7 | h7
      · exact absurd h2 (h6 i c h7 h1)
      · rw [h7]
      · exact absurd h5 (h3 i' c' h7 h4)
    · exact ⟨-1, ⟨fun h' => by omega, fun h' => absurd h' h⟩, fun i c h1 h2 _ => absurd ⟨c, List.mem_of_getElem? h1, h2⟩ h, fun _ => rfl⟩
  refine ⟨j, hj0, ?_⟩
  refine gives_code (f := tf56) rfl ?_
  have hlen : (cs.map C.row).length = cs.length := by simp
  conv => whnf
  refine loop_abs (S := fun i : Nat => S56 (.sl false lab 5 (cs.map C.row) sp) (.fn g []) (cs.map C.row).length i ob) (m := fun i => cs.length - i) (P := fun i => i ≤ cs.length ∧ ∀ k d, k < i → cs[k]? = some d → ¬ p d) ?_ 0 ⟨Nat.zero_le _, fun k s h => by omega⟩ rfl
  rintro R i ⟨hi, hP⟩ hN hE hR
  conv => whnf
  refine sel_split (fun h => ?_) (fun h => ?_)
  · conv => whnf
    have h := of_decide_eq_true h
    rw [hlen] at h
    obtain ⟨c, hc⟩ : ∃ c, cs[i]? = some c := ⟨_, List.getElem?_eq_getElem (show i < cs.length by omega)⟩
    refine ⟨_, ⟨by omega, idx_row hc⟩, ?_⟩
    conv => whnf
    obtain ⟨q, hq⟩ := boolOf (p c)
    refine ⟨_, _, hg c (List.mem_of_getElem? hc) ob _ q hq, fun _ => rfl, ?_⟩
    conv => whnf
    refine sel_split (fun h2 => ?_) (fun h2 => ?_)
    · conv => whnf
      refine hR _ ?_
      conv => whnf
      refine ⟨rfl, ?_, rfl⟩
      rw [hj1 i c hc (hq.1 h2) hP]; rfl
    · conv => whnf
      have e : IntKind.i64.wrap ((i : Int) + 1) = ((i + 1 : Nat) : Int) := by rw [wrap64] <;> omega
      refine hN (i + 1) _ ⟨by omega, fun k d hk hd => ?_⟩ (by omega) ?_
      · by_cases hki : k = i
        · subst hki; rw [hc] at hd; cases hd
          intro hp; rw [hq.2 hp] at h2; cases h2
        · exact hP k d (by omega) hd
      · rw [← e]; rfl
  · conv => whnf
    have h := of_decide_eq_false h
    rw [hlen] at h
    refine hE _ _ ?_
    conv => whnf
    refine ⟨rfl, ?_, rfl⟩
    rw [hj2 (fun k d hk => hP k d (by have := (List.getElem?_eq_some_iff.1 hk).1; omega) hk)]; rfl
theorem anyFn_ok (g lab : Nat) (cs : List C) (sp : List (List LV)) (p : C → Prop) (hl : cs.length ≤ 4611686018427387904) (hg : ∀ c ∈ cs, ∀ ob pb (r : Bool), (r = true ↔ p c) → Gives env1 g [c.lv] ob pb (.bool r, ob)) (ob : Obs) (pb : Nat) (r : Bool) (hr : r = true ↔ ∃ c ∈ cs, p c) :
    Gives env1 43 [.sl false lab 5 (cs.map C.row) sp, .fn g []] ob pb (.bool r, ob) := by
  obtain ⟨j, hj, hg⟩ := idxFn_ok g lab cs sp p hl hg ob (max pb ob.length)
  refine gives_code (f := tf43) rfl ?_
  conv => whnf
  refine ⟨_, _, hg, fun _ => rfl, ?_⟩
  conv => whnf
  refine ⟨rfl, ?_, rfl⟩
  refine bool_of hr ?_
  rw [← hj]; simp
/-- A term. -/
def RightP (cs : List C) : Prop := cs ≠ [] ∧ cs.length ≤ 256 ∧ endE cs 0 = cs.length ∧ ∀ c ∈ cs, okC c
theorem right_ok (lab : Nat) (cs : List C) (sp : List (List LV)) (hl : cs.length ≤ 4611686018427387904) (hf : ∀ c ∈ cs, c.fine) (ob : Obs) (pb : Nat) (r : Bool) (hr : r = true ↔ RightP cs) : Gives env1 30 [.sl false lab 5 (cs.map C.row) sp] ob pb (.bool r, ob) := by
  have hlen : (cs.map C.row).length = cs.length := by simp
  obtain ⟨q, hq⟩ := boolOf (∃ c ∈ cs, ¬ okC c)
  have no : ¬ RightP cs → LV.bool false = LV.bool r := fun h => bool_of hr ⟨fun e => (nomatch e), fun e => absurd e h⟩
  refine gives_code (f := tf30) rfl ?_
  conv => whnf
  refine sel_split (fun h1 => ?_) (fun h1 => ?_)
  · conv => whnf
    refine ⟨rfl, no (fun h => h.1 ?_), rfl⟩
    rw [hlen] at h1
    exact List.length_eq_zero_iff.1 (by simp at h1; simp [h1])
  · conv => whnf
    rw [hlen] at h1
    refine sel_split (fun h2 => ?_) (fun h2 => ?_)
    · conv => whnf
      rw [hlen] at h2
      have h2 := of_decide_eq_true h2
      exact ⟨rfl, no (fun h => by have := h.2.1; omega), rfl⟩
    · conv => whnf
      rw [hlen] at h2
      have h2 := of_decide_eq_false h2
      refine ⟨_, _, end_ok lab cs sp 0 hl ob _, fun _ => rfl, ?_⟩
      conv => whnf
      refine sel_split (fun h3 => ?_) (fun h3 => ?_)
      · conv => whnf
        rw [hlen] at h3
        exact ⟨rfl, no (fun h => by rw [h.2.2.1] at h3; simp at h3), rfl⟩
      · conv => whnf
        rw [hlen] at h3
        refine ⟨_, _, anyFn_ok 46 lab cs sp (fun c => ¬ okC c) hl (fun c hc ob pb r hr => right1_ok c (hf c hc) ob pb r hr) ob _ q hq, fun _ => rfl, ?_⟩
        conv => whnf
        refine ⟨rfl, ?_, rfl⟩
        refine bool_of hr ?_
        have hq' : (!q) = true ↔ ∀ c ∈ cs, okC c := by
          rw [Bool.not_eq_true', ← Bool.not_eq_true, hq]
          constructor
          · intro h c hc; exact Classical.byContradiction fun hn => h ⟨c, hc, hn⟩
          · rintro h ⟨c, hc, hn⟩; exact hn (h c hc)
        rw [hq']
        constructor
        · intro h
          exact ⟨fun e => by subst e; simp at h1, by omega, by simpa using h3, h⟩
        · intro h; exact h.2.2.2
end Tree
