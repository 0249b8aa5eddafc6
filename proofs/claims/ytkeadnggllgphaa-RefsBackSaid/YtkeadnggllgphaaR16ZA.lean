/- RefsSafe: the law's walk. -/
import Derived.Test.YtkeadnggllgphaaR16Z
set_option autoImplicit false
set_option linter.unusedVariables false
set_option linter.unusedSimpArgs false
namespace Tree.R16
open Go Tree
set_option maxHeartbeats 8000000
set_option maxRecDepth 100000
structure Mv where
  kind : Int
  f : Int
  t : Int
def Mv.row (m : Mv) : List LV := [.int .i64 m.kind, .int .i64 m.f, .int .i64 m.t]
/-- The world while its tables are made. -/
structure WP (cs : List LV) (i : Nat) : Prop where
  len : cs.length = 20
  tab : ∀ j, j < i → cs[j]? = some (.optr (0 + 3 + 3 * j) 0)
  way : ∀ f t, f < 4 → t < 4 → cs[4 + 4 * f + t]? = some (.sl true 0 3 [] [])
  notM : isMapC cs = false
theorem WP.set {cs : List LV} {i : Nat} (h : WP cs i) (hi : i < 4) : WP (cs.set i (.optr (0 + 3 + 3 * i) 0)) (i + 1) := by
  refine ⟨by simp [h.len], fun j hj => ?_, fun f t hf ht => ?_, ?_⟩
  · by_cases e : j = i
    · subst e; rw [List.getElem?_set_self (by rw [h.len]; omega)]
    · rw [List.getElem?_set_ne (by omega)]; exact h.tab j (by omega)
  · rw [List.getElem?_set_ne (by omega)]; exact h.way f t hf ht
  · have hn := h.notM
    cases cs with
    | nil => rfl
    | cons x r => cases i with
      | zero => rfl
      | succ i => cases x <;> first | exact hn | rfl
def w0 : Ways := fun _ _ => []
def S0 : Ws := ⟨fun _ => 0, fun _ => 0, w0⟩
theorem WP.WC {cs : List LV} (h : WP cs 4) : WC cs 0 w0 := ⟨h.len, h.tab, h.way⟩
structure Mk (ob : Obs) (i : Nat) : Prop where
  len : ob.length = 1 + 3 * i
  cell : ∃ cs, ob[0]? = some cs ∧ WP cs i
  tab : ∀ j : Nat, j < i → TB (0 + 1 + 3 * j) j ob (fun _ => 0) (fun _ => 0) 0
theorem Mk.ws {ob : Obs} (h : Mk ob 4) (y : Int) : WS 0 y ob S0 0 := by
  obtain ⟨cs, h1, h2⟩ := h.cell
  refine ⟨⟨cs, h1, h2.WC⟩, ?_, fun i i1 i2 => ?_⟩
  · have := h.tab 0 (by omega)
    refine TB.congr this (fun k => ?_) fun _ => rfl
    unfold dE; split <;> rfl
  · refine TB.congr (h.tab i i2) (fun _ => rfl) fun k => ?_
    unfold dH; split <;> rfl
theorem Mk.next {ob ob' : Obs} {i : Nat} (h : Mk ob i) (hi : i < 4) (hT : TB ob.length (i : Nat) ob' (fun _ => 0) (fun _ => 0) 0) (hk : ∀ j, j < ob.length → ob'[j]? = ob[j]?) (hl : ob'.length = ob.length + 3) :
    ∃ cs, ob'[0]? = some cs ∧ WP cs i ∧ Mk (ob'.set 0 (cs.set i (.optr (0 + 3 + 3 * i) 0))) (i + 1) := by
  obtain ⟨cs, h1, h2⟩ := h.cell
  have hl0 := h.len
  have h3 : ob'[0]? = some cs := by rw [hk 0 (by omega)]; exact h1
  have hid : 0 < ob'.length := by omega
  refine ⟨cs, h3, h2, ⟨by rw [List.length_set]; omega, ⟨_, List.getElem?_set_self hid, h2.set hi⟩, fun j hj => ?_⟩⟩
  by_cases e : j = i
  · subst e
    have e2 : 0 + 1 + 3 * j = ob.length := by omega
    rw [e2]
    exact hT.frame fun k k1 k2 => List.getElem?_set_ne (by omega)
  · exact (h.tab j (by omega)).frame fun k k1 k2 => by rw [List.getElem?_set_ne (by omega)]; exact hk k (by omega)
end Tree.R16
