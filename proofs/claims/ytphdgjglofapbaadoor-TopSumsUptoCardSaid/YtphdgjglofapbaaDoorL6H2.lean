/- Layer 6: the document's heap, what is read of it. -/
import Derived.Test.YtphdgjglofapbaaDoorL6H1
set_option autoImplicit false
set_option linter.unusedVariables false
set_option linter.unusedSimpArgs false
namespace Tree.H6
open Go
set_option maxHeartbeats 8000000
set_option maxRecDepth 100000
abbrev Bd := NV × List C
def brow (b : Bd) : List LV := [.int .i64 b.1.1, .int .i64 b.1.2, sl5 false 0 b.2 []]
def lkB : List Bd → NV → Option (List C)
  | [], _ => none
  | e :: r, k => if e.1 = k then some e.2 else lkB r k
/-- The document's heap. -/
structure HpR (ob : Obs) (id : Nat) (L : List Bd) (M : Mp) : Prop where
  hid : ob[id]? = some [.sl true 0 3 (L.map brow) []]
  hl : ∀ k, lkB L k = M k
def PtrR (ob : Obs) (p : LV) (M : Mp) : Prop := (p = .nilptr ∧ ∀ k, M k = none) ∨ ∃ id L, p = .optr id 0 ∧ HpR ob id L M ∧ L.length ≤ 4294967296
theorem PtrR.ptr {ob : Obs} {p : LV} {M : Mp} (h : PtrR ob p M) : isPtr p := by
  rcases h with ⟨rfl, _⟩ | ⟨id, L, rfl, _⟩
  · exact .inl rfl
  · exact .inr ⟨id, rfl⟩
/-- The terms that a term leads to, one behind the other. -/
inductive Ch (M : Mp) : List C → List (List C) → Prop
  | stop {cs : List C} (h : nxt M cs = none) : Ch M cs []
  | step {cs u : List C} {l : List (List C)} (h : nxt M cs = some u) (h2 : Ch M u l) : Ch M cs (u :: l)
section
variable {ob : Obs} {p : LV} {M : Mp} (hp : isPtr p) (hv : ∀ (k : NV) (pb : Nat), Gives env6 268 [p, nm k.1 k.2] ob pb (.tup [nv (M k), .bool (M k).isSome], ob))
include hp hv
end
end Tree.H6
