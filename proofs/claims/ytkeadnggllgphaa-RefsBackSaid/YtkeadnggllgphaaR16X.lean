/- RefsSafe, the plain law: counts of a variable on four nodes, whatever comes when. -/
import Derived.Test.YtkeadnggllgphaaR16W
set_option autoImplicit false
set_option linter.unusedVariables false
set_option linter.unusedSimpArgs false
namespace Tree.R16
open Go Tree
abbrev Gq := Nat → List (Nte × Nat)
/-- Adds of a holder that were sent before a time. -/
def cntB (i τ : Nat) : List (Nte × Nat) → Int
  | [] => 0
  | m :: r => (if m.1.1 = 1 ∧ m.1.2.1 = (i : Int) ∧ m.2 < τ then 1 else 0) + cntB i τ r
def rel : List (Nte × Nat) → Int
  | [] => 0
  | m :: r => (if m.1.1 = 2 then m.1.2.2 else 0) + rel r
def cntR : List Nte → Int
  | [] => 0
  | m :: r => (if m.1 = 0 then 1 else 0) + cntR r
theorem cntB_app (i τ : Nat) : ∀ a b, cntB i τ (a ++ b) = cntB i τ a + cntB i τ b
  | [], b => by simp [cntB]
  | m :: a, b => by simp only [List.cons_append, cntB, cntB_app i τ a b]; omega
theorem rel_app : ∀ a b, rel (a ++ b) = rel a + rel b
  | [], b => by simp [rel]
  | m :: a, b => by simp only [List.cons_append, rel, rel_app a b]; omega
theorem cntR_app : ∀ a b, cntR (a ++ b) = cntR a + cntR b
  | [], b => by simp [cntR]
  | m :: a, b => by simp only [List.cons_append, cntR, cntR_app a b]; omega
theorem cntR_nn : ∀ a, 0 ≤ cntR a
  | [] => by simp [cntR]
  | m :: a => by have := cntR_nn a; simp only [cntR]; split <;> omega
theorem cntB_nn (i τ : Nat) : ∀ a, 0 ≤ cntB i τ a
  | [] => by simp [cntB]
  | m :: a => by have := cntB_nn i τ a; simp only [cntB]; split <;> omega
theorem cntB_late (i τ τ' : Nat) (h : τ ≤ τ') : ∀ a : List (Nte × Nat), (∀ m ∈ a, m.2 < τ) → cntB i τ' a = cntB i τ a
  | [], _ => rfl
  | m :: a, hm => by
    have h1 := hm m (List.mem_cons_self ..)
    simp only [cntB, cntB_late i τ τ' h a fun x hx => hm x (List.mem_cons_of_mem _ hx)]
    congr 1
    by_cases e : m.1.1 = 1 ∧ m.1.2.1 = (i : Int)
    · rw [if_pos ⟨e.1, e.2, by omega⟩, if_pos ⟨e.1, e.2, h1⟩]
    · rw [if_neg (fun q => e ⟨q.1, q.2.1⟩), if_neg (fun q => e ⟨q.1, q.2.1⟩)]
def s3 (g : Nat → Int) : Int := g 1 + g 2 + g 3
def upQ (q : Gq) (f : Nat) (x : List (Nte × Nat)) : Gq := fun k => if k = f then x else q k
theorem s3_up (F : List (Nte × Nat) → Int) (q : Gq) (f : Nat) (hf : 1 ≤ f) (hf4 : f < 4) (x : List (Nte × Nat)) : s3 (fun k => F (upQ q f x k)) = s3 (fun k => F (q k)) - F (q f) + F x := by
  have : f = 1 ∨ f = 2 ∨ f = 3 := by omega
  rcases this with rfl | rfl | rfl <;> simp only [s3, upQ] <;> simp <;> omega
def r4 (g : Nat → Int) : Int := g 0 + g 1 + g 2 + g 3
theorem r4_up (F : List Nte → Int) (w : Ways) (f t i : Nat) (hf : f < 4) (x : List Nte) : r4 (fun k => F (upW w f t x k i)) = r4 (fun k => F (w k i)) + if i = t then F x - F (w f t) else 0 := by
  by_cases e : i = t
  · subst e
    rw [if_pos rfl]
    have : f = 0 ∨ f = 1 ∨ f = 2 ∨ f = 3 := by omega
    rcases this with rfl | rfl | rfl | rfl <;> simp only [r4, upW] <;> simp <;> omega
  · rw [if_neg e]
    simp only [r4, upW, e, and_false, if_false]; omega
def Old (E : Int → Int) (q : Gq) : Prop := ∀ i : Nat, 1 ≤ i → i < 4 → ∀ pre m post, q i = pre ++ m :: post → m.1.1 = 1 → 1 ≤ E i + s3 (fun k => cntB i m.2 (q k)) - rel pre
theorem Old.mono {E E' : Int → Int} {q : Gq} (h : Old E q) (hE : ∀ j, E j ≤ E' j) : Old E' q := by
  intro i h1 h2 pre m post e hm
  have := h i h1 h2 pre m post e hm
  have := hE i
  omega
theorem Old.push {E : Int → Int} {q : Gq} {c : Nat} (h : Old E q) (ht : ∀ i, 1 ≤ i → i < 4 → ∀ m ∈ q i, m.2 < c) (f : Nat) (hf : 1 ≤ f) (hf4 : f < 4) (x : Nte)
    (hx : x.1 = 1 → 1 ≤ E f + s3 (fun k => cntB f c (q k)) - rel (q f)) : Old E (upQ q f (q f ++ [(x, c)])) := by
  intro i h1 h2 pre m post e hm
  have hs : ∀ τ, s3 (fun k => cntB i τ (upQ q f (q f ++ [(x, c)]) k)) = s3 (fun k => cntB i τ (q k)) + cntB i τ [(x, c)] := by
    intro τ
    rw [s3_up (cntB i τ) q f hf hf4, cntB_app]; omega
  rw [hs]
  have hnn := cntB_nn i m.2 [(x, c)]
  unfold upQ at e
  by_cases hi : i = f
  · subst hi
    rw [if_pos rfl] at e
    rcases List.append_eq_append_iff.1 e with ⟨l, e1, e2⟩ | ⟨l, e1, e2⟩
    · -- pre = q i ++ l
      cases l with
      | nil =>
        simp only [List.append_nil, List.nil_append, List.cons.injEq] at e1 e2
        obtain ⟨e2, e3⟩ := e2
        subst e1
        rw [← e2] at hm ⊢
        have := hx hm
        have := cntB_nn i c [(x, c)]
        show 1 ≤ E i + (s3 (fun k => cntB i c (q k)) + cntB i c [(x, c)]) - rel (q i)
        omega
      | cons z l => simp at e2
    · -- q i = pre ++ l
      cases l with
      | nil =>
        simp only [List.append_nil, List.nil_append, List.cons.injEq] at e1 e2
        obtain ⟨e2, e3⟩ := e2
        subst e1
        rw [e2] at hm ⊢
        have := hx hm
        have := cntB_nn i c [(x, c)]
        show 1 ≤ E i + (s3 (fun k => cntB i c (q k)) + cntB i c [(x, c)]) - rel (q i)
        omega
      | cons z l =>
        simp only [List.cons_append, List.cons.injEq] at e2
        obtain ⟨e2, e3⟩ := e2
        subst e2
        have := h i h1 h2 pre m l e1 hm
        omega
  · rw [if_neg hi] at e
    have := h i h1 h2 pre m post e hm
    omega
theorem Old.pop {E : Int → Int} {q : Gq} (h : Old E q) (f : Nat) (hf : 1 ≤ f) (hf4 : f < 4) (m : Nte × Nat) (r : List (Nte × Nat)) (he : q f = m :: r) : Old (cE E f 0 m.1) (upQ q f r) := by
  intro i h1 h2 pre m' post e hm
  have hs : s3 (fun k => cntB i m'.2 (upQ q f r k)) = s3 (fun k => cntB i m'.2 (q k)) - (if m.1.1 = 1 ∧ m.1.2.1 = (i : Int) ∧ m.2 < m'.2 then 1 else 0) := by
    rw [s3_up (cntB i m'.2) q f hf hf4, he]; simp only [cntB]; omega
  rw [hs]
  unfold upQ at e
  have key : 1 ≤ E i + s3 (fun k => cntB i m'.2 (q k)) - ((if i = f ∧ m.1.1 = 2 then m.1.2.2 else 0) + rel pre) := by
    by_cases hi : i = f
    · subst hi
      rw [if_pos rfl] at e
      have := h i h1 h2 (m :: pre) m' post (by rw [he, e]; rfl) hm
      simp only [rel] at this
      by_cases h2 : m.1.1 = 2
      · rw [if_pos ⟨rfl, h2⟩]; rw [if_pos h2] at this; exact this
      · rw [if_neg (fun q => h2 q.2)]; rw [if_neg h2] at this; exact this
    · rw [if_neg hi] at e
      have := h i h1 h2 pre m' post e hm
      rw [if_neg (fun q => hi q.1)]; omega
  unfold cE
  by_cases k1 : m.1.1 = 1
  · rw [if_pos k1]
    rw [if_neg (fun q => by omega)] at key
    unfold upE
    by_cases k2 : (i : Int) = m.1.2.1
    · rw [if_pos k2]; split <;> omega
    · rw [if_neg k2, if_neg (fun q => k2 q.2.1.symm)]; omega
  · rw [if_neg k1, if_neg (show ¬ (m.1.1 = 1 ∧ m.1.2.1 = (i : Int) ∧ m.2 < m'.2) from fun q => k1 q.1)]
    by_cases k2 : m.1.1 = 2
    · rw [if_pos k2]
      unfold upE
      by_cases k3 : i = f
      · rw [if_pos ⟨k3, k2⟩] at key
        rw [if_pos (by omega)]; omega
      · rw [if_neg (fun q => k3 q.1)] at key
        rw [if_neg (by omega)]; omega
    · rw [if_neg k2]
      rw [if_neg (fun q => k2 q.2)] at key
      omega
end Tree.R16
