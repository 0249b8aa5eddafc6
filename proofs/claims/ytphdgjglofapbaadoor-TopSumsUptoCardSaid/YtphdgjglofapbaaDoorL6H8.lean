/- Layer 6: sums, by the program and by the document: every term. -/
import Derived.Test.YtphdgjglofapbaaDoorL6Sm
set_option autoImplicit false
set_option linter.unusedVariables false
set_option linter.unusedSimpArgs false
namespace Tree.H6
open Go
set_option maxHeartbeats 8000000
set_option maxRecDepth 100000
def spOk (sp : List (List LV)) : Prop := ∀ n, LV.noRefss n sp = true
theorem exists_list {α β : Type} {P : α → β → Prop} : ∀ l : List α, (∀ a ∈ l, ∃ x, P a x) → ∃ xs : List β, xs.length = l.length ∧ ∀ (i : Nat) a x, l[i]? = some a → xs[i]? = some x → P a x
  | [], _ => ⟨[], rfl, fun i a x h => by cases h⟩
  | a :: l, h => by
    obtain ⟨x, hx⟩ := h a (List.mem_cons_self ..)
    obtain ⟨xs, h1, h2⟩ := exists_list l fun b hb => h b (List.mem_cons_of_mem _ hb)
    refine ⟨x :: xs, by simp [h1], fun i b y hb hy => ?_⟩
    cases i with
    | zero => cases hb; cases hy; exact hx
    | succ i => exact h2 i b y hb hy
theorem sum_le (xs : List Rz) : ∀ l : List (List C), xs.length = l.length → (∀ (i : Nat) a x, l[i]? = some a → xs[i]? = some x → x.2.2.length ≤ a.length) → (xs.map fun x => x.2.2.length).sum ≤ l.flatten.length := by
  induction xs with
  | nil => intro l _ _; simp
  | cons x xs ih =>
    intro l h1 h2
    cases l with
    | nil => simp at h1
    | cons a l =>
      have h3 := ih l (by simpa using h1) fun i b y hb hy => h2 (i + 1) b y hb hy
      have h4 := h2 0 a x rfl rfl
      simp only [List.map_cons, List.sum_cons, List.flatten_cons, List.length_append]
      omega
section
variable {ob : Obs} {M : Mp} (hM : MOk M) {p q : LV} (hp : isPtr p) (hv : ∀ (k : NV) (pb : Nat), Gives env6 253 [p, nm k.1 k.2] ob pb (.tup [nv (M k), .bool (M k).isSome], ob)) (hq : isPtr q) (hu : ∀ (k : NV) (pb : Nat), Gives env6 268 [q, nm k.1 k.2] ob pb (.tup [nv (M k), .bool (M k).isSome], ob)) (hch : ∀ cs, ∃ l, Ch M cs l ∧ l.length ≤ 4294967296)
include hM hp hv hq hu hch
end
end Tree.H6
