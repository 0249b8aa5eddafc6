/- Layer 6: sums of terms whose variables have numbers, and of those with the numbers put in. -/
import Derived.Test.YtphdgjglofapbaaDoorL6Sm
import Derived.Test.YtphdgjglofapbaaDoorTLd
set_option autoImplicit false
set_option linter.unusedVariables false
set_option linter.unusedSimpArgs false
namespace Tree.H6
open Go
set_option maxHeartbeats 2000000
inductive Al (R : C → C → Prop) : List C → List C → Prop
  | nil : Al R [] []
  | cons {c d : C} {a b : List C} (h : R c d) (h2 : Al R a b) : Al R (c :: a) (d :: b)
theorem Al.len {R : C → C → Prop} {a b : List C} (h : Al R a b) : a.length = b.length := by
  induction h with
  | nil => rfl
  | cons _ _ ih => simp [ih]
theorem Al.app {R : C → C → Prop} {a b a' b' : List C} (h : Al R a b) (h' : Al R a' b') : Al R (a ++ a') (b ++ b') := by
  induction h with
  | nil => exact h'
  | cons h _ ih => exact .cons h ih
theorem Al.take {R : C → C → Prop} {a b : List C} (h : Al R a b) (n : Nat) : Al R (a.take n) (b.take n) := by
  induction h generalizing n with
  | nil => simp only [List.take_nil]; exact .nil
  | cons h _ ih =>
    cases n with
    | zero => exact .nil
    | succ n => exact .cons h (ih n)
theorem Al.all {R : C → C → Prop} {P Q : C → Prop} (hPQ : ∀ c d, R c d → (P c ↔ Q d)) {a b : List C} (h : Al R a b) : (∀ c ∈ a, P c) ↔ ∀ d ∈ b, Q d := by
  induction h with
  | nil => simp
  | cons h _ ih => simp only [List.forall_mem_cons, hPQ _ _ h, ih]
theorem Al.walk {R : C → C → Prop} (hR : ∀ c d, R c d → ar c = ar d) {a b : List C} (h : Al R a b) : ∀ n : Nat, (Tree.walk a n = none ∧ Tree.walk b n = none) ∨ ∃ r r', Tree.walk a n = some r ∧ Tree.walk b n = some r' ∧ Al R r r' := by
  induction h with
  | nil =>
    intro n
    cases n with
    | zero => exact .inr ⟨[], [], walk_zero _, walk_zero _, .nil⟩
    | succ n => exact .inl ⟨by simp [Tree.walk], by simp [Tree.walk]⟩
  | @cons c d a b h h2 ih =>
    intro n
    cases n with
    | zero => exact .inr ⟨_, _, walk_zero _, walk_zero _, .cons h h2⟩
    | succ n =>
      simp only [Tree.walk]
      rw [hR c d h]
      exact ih _
theorem Al.split {R : C → C → Prop} (hR : ∀ c d, R c d → ar c = ar d) : ∀ (n : Nat) {a b : List C}, Al R a b → ∀ (i : Nat) (x : List C), (splitW n a)[i]? = some x → ∃ y, (splitW n b)[i]? = some y ∧ Al R x y
  | 0, a, b, h, i, x, hx => by simp [splitW] at hx
  | n + 1, a, b, h, i, x, hx => by
    simp only [splitW] at hx ⊢
    rcases h.walk hR 1 with ⟨h1, h2⟩ | ⟨r, r', h1, h2, h3⟩
    · rw [h1] at hx; simp at hx
    · rw [h1] at hx; rw [h2]
      simp only at hx ⊢
      cases i with
      | zero =>
        simp only [List.getElem?_cons_zero, Option.some.injEq] at hx ⊢
        refine ⟨_, rfl, ?_⟩
        rw [← hx, ← h.len, ← h3.len]
        exact h.take _
      | succ i =>
        simp only [List.getElem?_cons_succ] at hx ⊢
        exact Al.split hR n h3 i x hx
/-- A cell, or a variable and the number that it has. -/
def Rc (M : Mp) (c d : C) : Prop := c = d ∨ (c.k = 4 ∧ d.k = 1 ∧ okC c ∧ okC d ∧ M (c.node, c.num) = some [d])
theorem rc_ar {M : Mp} (c d : C) (h : Rc M c d) : ar c = ar d := by
  rcases h with rfl | ⟨h1, h2, _⟩
  · rfl
  · unfold ar partsC; rw [if_neg (by omega), if_neg (by omega)]
theorem rc_ok {M : Mp} (c d : C) (h : Rc M c d) : okC c ↔ okC d := by
  rcases h with rfl | ⟨h1, h2, h3, h4, _⟩
  · rfl
  · exact ⟨fun _ => h4, fun _ => h3⟩
theorem rel_right {M : Mp} {a b : List C} (h : Al (Rc M) a b) : RightP a ↔ RightP b := by
  rw [right_walk, right_walk]
  have h1 := h.len
  have h2 : a ≠ [] ↔ b ≠ [] := by
    cases h with
    | nil => simp
    | cons _ _ => simp
  have h3 : walk a 1 = some [] ↔ walk b 1 = some [] := by
    rcases h.walk rc_ar 1 with ⟨e1, e2⟩ | ⟨r, r', e1, e2, e3⟩
    · rw [e1, e2]
    · rw [e1, e2]
      cases e3 with
      | nil => simp
      | cons _ _ => simp
  rw [h2, h1, h3, h.all (Q := okC) rc_ok]
theorem sm_rel {M : Mp} {a : List C} {x : Rz} (h : Sm M a x) : ∀ {b : List C} {y : Rz}, RightP a → Al (Rc M) a b → Sm M b y → x = y := by
  induction h with
  | @int c t h =>
    intro b y hR hA hy
    cases hA with
    | @cons _ d _ t' hc ht =>
      rcases hc with rfl | ⟨h1, _⟩
      · cases hy with
        | int _ => rfl
        | var h' _ => omega
        | bad h' _ _ => exact absurd h h'
        | op h' _ _ _ => omega
      · omega
  | @var c d t r h hd =>
    intro b y hR hA hy
    obtain rfl : t = [] := by
      obtain ⟨_, _, hw, _⟩ := (right_walk _).1 hR
      have e : ar c = 0 := by unfold ar partsC; rw [if_neg (by omega)]; rfl
      simp only [walk, Nat.zero_add, e, walk_zero, Option.some.injEq] at hw
      exact hw
    cases hA with
    | @cons _ d' _ t' hc ht =>
      cases ht
      rcases hc with rfl | ⟨h1, h2, _, _, h5⟩
      · exact (sm_one (.var h hd) hy).symm
      · have hn : nxt M [c] = some [d'] := by simp only [nxt, h1, if_true]; exact h5
        have := dr_rest (hd.inv hn) (by omega)
        injection this with e1 e2
        cases hy with
        | int _ => rw [e1]; unfold leafZ; rw [if_pos h2]
        | var h' _ => omega
        | bad h' _ _ => exact absurd h2 h'
        | op h' _ _ _ => omega
  | @bad c t h1 h4 h =>
    intro b y hR hA hy
    cases hA with
    | @cons _ d _ t' hc ht =>
      rcases hc with rfl | ⟨h', _⟩
      · cases hy with
        | int h' => exact absurd h' h1
        | var h' _ => exact absurd h' h4
        | bad _ _ _ => rfl
        | op h' h'' _ _ => exact absurd ⟨h', h''⟩ h
      · exact absurd h' h4
  | @op c t rs hk ho hl h ih =>
    intro b y hR hA hy
    have hRb := (rel_right hA).1 hR
    cases hA with
    | @cons _ d _ t' hc ht =>
      rcases hc with rfl | ⟨h', _⟩
      · cases hy with
        | int h' => omega
        | var h' _ => omega
        | bad _ _ h' => exact absurd ⟨hk, ho⟩ h'
        | @op _ _ zs _ _ hl' h' =>
          have e1 := (args_facts hR hk).1
          have e2 := (args_facts hRb hk).1
          have n1 := (args_facts hR hk).2.1
          have n2 := (args_facts hRb hk).2.1
          congr 1
          apply List.ext_getElem?
          intro i
          by_cases hi : i < rs.length
          · obtain ⟨x, hx⟩ : ∃ x, rs[i]? = some x := ⟨_, List.getElem?_eq_getElem hi⟩
            obtain ⟨a, ha⟩ : ∃ a, (argsR (c :: t))[i]? = some a := ⟨_, List.getElem?_eq_getElem (by omega)⟩
            obtain ⟨y, hy⟩ : ∃ y, zs[i]? = some y := ⟨_, List.getElem?_eq_getElem (by omega)⟩
            have ha' := ha
            rw [e1] at ha'
            obtain ⟨b, hb, hab⟩ := Al.split rc_ar (ar c) ht i a ha'
            rw [← e2] at hb
            have hRa := (args_facts hR hk).2.2.2 a (List.mem_of_getElem? ha)
            rw [hx, hy, ih i a x ha hx hRa hab (h' i b y hb hy)]
          · rw [List.getElem?_eq_none (by omega), List.getElem?_eq_none (by omega)]
      · omega
end Tree.H6
