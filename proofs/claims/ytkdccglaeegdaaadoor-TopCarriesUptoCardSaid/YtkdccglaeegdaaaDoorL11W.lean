/- Layer 11, WireTerms: what E answers. -/
import Derived.Test.YtkdccglaeegdaaaDoorL11V
import Derived.Test.YtkdccglaeegdaaaDoorTLb
import Derived.Test.YtkdccglaeegdaaaDoorTW
set_option autoImplicit false
set_option linter.unusedVariables false
set_option linter.unusedSimpArgs false
namespace Tree.W11
open Go
set_option maxHeartbeats 8000000
set_option maxRecDepth 100000
theorem ok_text {c : C} (h : okC c) : c.text.size ≤ 1000 := by
  have hn : NameP c.text.data.toList → c.text.size ≤ 1000 := by
    intro h
    have := h.2.1
    have e : c.text.size = c.text.data.toList.length := rfl
    omega
  have hs : SignP c.text → c.text.size ≤ 1000 := by
    intro h
    have e : c.text.size = c.text.data.toList.length := rfl
    have key : ∀ l ∈ sgn, l.length ≤ 1000 := by decide
    have := key _ h
    omega
  have he : c.text = emptyS → c.text.size ≤ 1000 := fun h => by rw [h]; exact Nat.zero_le _
  rcases h with h | h | h | h
  · exact he h.2.1
  · exact hn h.2.1
  · rcases h.2.2 with h | h
    · exact hn h.1
    · exact hs h.1
  · exact he h.2.1
theorem cok_of {cs : List C} (h : TermOk cs) : ∀ c ∈ cs, Cok c := by
  intro c hc
  have hk := ((right_walk _).1 h.1.1).2.2.2 c hc
  refine ⟨ok_text hk, fun h1 => ?_, fun h4 => ?_⟩
  · rcases hk with g | g | g | g
    · exact ⟨g.2.2.2.1, g.2.2.2.2⟩
    · omega
    · omega
    · omega
  · have := h.2 c hc h4
    unfold nameOk at this; omega
theorem cell_len {c : C} (h : Cok c) : (cellB c).length ≤ 1022 := by
  have g1 := numB_len c.text.size (by have := h.1; omega)
  have g2 := bytesI_len c.text
  have g0 := h.1
  unfold cellB restB
  rw [List.length_cons]
  split
  · rename_i hk
    have := numB_len (zig c.n) (by have := h.2.1 hk; unfold zig; split <;> omega)
    omega
  · split
    · unfold strB; rw [List.length_append]; omega
    · split
      · unfold strB; rw [List.length_append, List.length_append, List.length_singleton]; omega
      · split
        · rename_i hk
          have := numB_len c.num.toNat (by have := h.2.2 hk; omega)
          unfold nameB; rw [List.length_cons]; omega
        · simp
theorem flat_len {cs : List C} (h : ∀ c ∈ cs, Cok c) : (cs.flatMap cellB).length ≤ 1022 * cs.length := by
  induction cs with
  | nil => simp
  | cons c cs ih =>
    have h1 := cell_len (h c (List.mem_cons_self ..))
    have h2 := ih fun d hd => h d (List.mem_cons_of_mem _ hd)
    rw [List.flatMap_cons, List.length_append, List.length_cons]; omega
end Tree.W11
