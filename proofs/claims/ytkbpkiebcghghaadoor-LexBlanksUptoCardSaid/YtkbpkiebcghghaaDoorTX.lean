/- A part of the interpreter over trees and of its proof. -/
import Derived.Test.YtkbpkiebcghghaaDoorTF
import Derived.Laws.AppendOwn
set_option autoImplicit false
set_option linter.unusedVariables false
set_option linter.unusedSimpArgs false
namespace Tree
open Go Go.RowKit
section
variable {T : Tab} {pb : Nat} {m m' : Mem}

theorem ObjsOk.ext {ob : Obs} (h : ObjsOk T ob m) (he : m.ext m') (hn : m'.n = m.n) : ObjsOk T ob m' := by
  have hob : ∀ (id : Nat) (cs : List LV), ob[id]? = some cs → m'.ob id = m.ob id := fun id cs hi => he.le.ob id (by rw [h.n]; exact (List.getElem?_eq_some_iff.1 hi).1)
  refine ⟨hn.trans h.n, fun id cs hi => ?_, fun id i l z xs sp cs hi hc => ?_⟩
  · rw [hob id cs hi]; exact (h.obj id cs hi).ext he
  · obtain ⟨v, h1, h2⟩ := h.own id i l z xs sp cs hi hc
    exact ⟨v, by rw [hob id cs hi]; exact he.cell h1, h2.ext he⟩

end
end Tree
