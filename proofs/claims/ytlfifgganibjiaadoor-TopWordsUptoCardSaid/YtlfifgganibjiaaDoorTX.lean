/- A part of the interpreter over trees and of its proof. -/
import Derived.Test.YtlfifgganibjiaaDoorTF
import Derived.Laws.AppendOwn
import Derived.Shelf.SlicesE.Clone
import Derived.Shelf.Spec.SlicesGrow
set_option autoImplicit false
set_option linter.unusedVariables false
set_option linter.unusedSimpArgs false
namespace Tree
open Go Go.RowKit
section
variable {T : Tab} {pb : Nat} {m m' : Mem}

theorem ObjsOk.ext {ob : Obs} (h : ObjsOk T ob m) (he : m.ext m') (hn : m'.n = m.n) : ObjsOk T ob m' := by
  have hob : ∀ (id : Nat) (cs : List LV), ob[id]? = some cs → m'.ob id = m.ob id := fun id cs hi => he.le.ob id (by rw [h.n]; exact (List.getElem?_eq_some_iff.1 hi).1)
  refine ⟨hn.trans h.n, fun id cs hi => ?_, fun id i l z xs sp cs hi hc => ?_⟩
  · rw [hob id cs hi]; exact (h.obj id cs hi).ext he
  · obtain ⟨v, h1, h2⟩ := h.own id i l z xs sp cs hi hc
    exact ⟨v, by rw [hob id cs hi]; exact he.cell h1, h2.ext he⟩

end
end Tree

set_option autoImplicit false
set_option linter.unusedVariables false
set_option linter.unusedSimpArgs false
namespace Tree
open Go Go.RowKit Go.Shelf Go.Proofs
def cloneF0 (size bytes : Nat) : List LV → Option LV
  | [.sl _ _ z xs _] => if z = size ∧ xs.length ≤ maxLen ∧ xs.length * bytes ≤ 140737488355328 then some (.sl true 0 size xs []) else none
  | _ => none
def cloneF (size bytes : Nat) (args : List LV) (_ : Obs) : Option LV := cloneF0 size bytes args
end Tree

set_option autoImplicit false
set_option linter.unusedVariables false
set_option linter.unusedSimpArgs false
namespace Tree
open Go Go.RowKit Go.Shelf Go.Proofs
def growF0 (size bytes : Nat) : List LV → Option LV
  | [.sl true _ z [] [], .int .i64 n] => if z = size ∧ 0 ≤ n ∧ n * bytes ≤ 140737488355328 ∧ n ≤ 4611686018427387904 then some (.sl true 0 size [] []) else none
  | _ => none
def growF (size bytes : Nat) (args : List LV) (_ : Obs) : Option LV := growF0 size bytes args
theorem ObjsOk.ren {T : Tab} {ob : Obs} {m : Mem} (h : ObjsOk T ob m) (f : Kd → Kd) (h1 : ∀ l, f (.imm l) = .imm l) (h2 : ∀ i, f (.obj i) = .obj i) (h3 : ∀ i c, f (.tail ⟨.obj i, c⟩) = .tail ⟨.obj i, c⟩) : ObjsOk T ob (m.ren f) := by
  refine ⟨h.n, fun id cs hi => (h.obj id cs hi).ren f h1 (h2 id), fun id i l z xs sp cs hi hc => ?_⟩
  obtain ⟨v, w1, w2⟩ := h.own id i l z xs sp cs hi hc
  have := w2.ren f
  rw [h3] at this
  exact ⟨v, w1, this⟩
end Tree
