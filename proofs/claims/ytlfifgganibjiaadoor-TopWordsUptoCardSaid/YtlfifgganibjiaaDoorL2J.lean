/- purlinlaw02.LexAll: what E answers. -/
import Derived.Test.YtlfifgganibjiaaDoorL2I
import Derived.Test.YtlfifgganibjiaaDoorL2Live
set_option autoImplicit false
set_option linter.unusedVariables false
set_option linter.unusedSimpArgs false
namespace Tree.X02
open Go
set_option maxHeartbeats 8000000
set_option maxRecDepth 100000
theorem lx_kinds {s : ByteArray} {a : Nat} {ts : List Tk} {e p : Nat} (h : Lx s a ts e p) : a ≤ s.size → (∀ t ∈ ts, t.k ≤ 5) ∧ ts.length ≤ s.size - a + 1 := by
  induction h with
  | bad _ _ => intro _; exact ⟨fun t ht => (nomatch ht), Nat.zero_le _⟩
  | @stop a r h he hk =>
    intro ha
    refine ⟨fun t ht => ?_, by simp⟩
    rw [List.mem_singleton] at ht; subst ht; omega
  | @go a r ts e p h he hk ht ih =>
    intro ha
    have h1 := next_prog s a ha (by rw [h]; exact he)
    rw [h] at h1
    have h2 := h1.2.1 hk
    have := ih h1.1
    refine ⟨fun t ht => ?_, by rw [List.length_cons]; omega⟩
    rcases List.mem_cons.1 ht with rfl | ht
    · exact h1.2.2
    · exact this.1 t ht
theorem row_tk {kk : IntKind} {ts : List Tk} {i : Nat} {t : Tk} (h : ts[i]? = some t) : (ts.map (Tk.cells kk))[((i : Nat) : Int).toNat]? = some (t.cells kk) := by
  show (ts.map (Tk.cells kk))[i]? = _
  rw [List.getElem?_map, h]; rfl
end Tree.X02
