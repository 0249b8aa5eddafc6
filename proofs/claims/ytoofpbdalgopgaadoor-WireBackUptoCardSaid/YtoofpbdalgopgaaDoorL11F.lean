/- Layer 11, WireMessages: what E answers. -/
import Derived.Test.YtoofpbdalgopgaaDoorL11E
import Derived.Test.YtoofpbdalgopgaaDoorTLb
import Derived.Test.YtoofpbdalgopgaaDoorTLg
set_option autoImplicit false
set_option linter.unusedVariables false
set_option linter.unusedSimpArgs false
namespace Tree.W11
open Go
set_option maxHeartbeats 8000000
set_option maxRecDepth 100000
theorem sameM_ok (m : M) (l1 : Nat) (s1 : List (List LV)) (l2 : Nat) (s2 : List (List LV)) (k1 : Nat) (u1 : List (List LV)) (k2 : Nat) (u2 : List (List LV)) (hc : m.cs.length ≤ 1048576) (hb : m.bits.length ≤ 1048576) (ob : Obs) (pb : Nat) : Gives env11 485 [m.lv l1 s1 l2 s2, m.lv k1 u1 k2 u2] ob pb (.bool true, ob) := by
  obtain ⟨tg, v1, v2, g1, g2, cs, cn, fl, w, bits⟩ := m
  simp only at hc hb
  have hlb : (bits.map zr).length = bits.length := by simp
  have g := fun pb => (equal_ok l1 k1 cs cs s1 u1 (by omega) ob pb true (by simp)).le le111
  have hz : ∀ {i : Nat} {b : Int}, bits[i]? = some b → (bits.map zr)[i]? = some [.int .i64 b] := fun h => by rw [List.getElem?_map, h]; rfl
  refine gives_code (f := tf485) rfl ?_
  conv => whnf
  refine sel_f (by simp) ?_
  conv => whnf
  refine sel_f (by simp) ?_
  conv => whnf
  refine loop_v (V := fun i : Nat => [(5, .int .i64 i)]) (O := fun _ => ob) (m := fun i => bits.length - i) (P := fun i => i ≤ bits.length) ?_ 0 (Nat.zero_le _) rfl
  intro R i hi hN hE hR
  conv => whnf
  refine sel_split (fun h => ?_) (fun h => ?_)
  · conv => whnf
    have h := of_decide_eq_true h
    rw [hlb] at h
    obtain ⟨b, hbb⟩ : ∃ b, bits[i]? = some b := ⟨_, List.getElem?_eq_getElem (show i < bits.length by omega)⟩
    have e : IntKind.i64.wrap ((i : Int) + 1) = ((i + 1 : Nat) : Int) := by rw [wrap64] <;> omega
    refine ⟨_, ⟨by omega, hz hbb⟩, ?_⟩
    conv => whnf
    refine ⟨_, ⟨by omega, hz hbb⟩, ?_⟩
    conv => whnf
    refine sel_f (by simp) ?_
    conv => whnf
    refine hN (i + 1) _ (by omega) (by omega) ?_
    rw [← e]; rfl
  · conv => whnf
    refine hE _ _ ?_
    have e1 : (tg == tg) = true := by simp
    have e2 : (v1 == v1 && (v2 == v2 && true)) = true := by simp
    have e3 : (g1 == g1 && (g2 == g2 && true)) = true := by simp
    conv => whnf
    repeat' ((first | refine sel_t (by simp) ?_ | refine ⟨_, _, g _, fun _ => rfl, ?_⟩) <;> conv => whnf)
    refine ⟨rfl, ?_, rfl⟩
    simp
    rfl
theorem encM_noRef (b : Bool) (m : M) (n : Nat) : (encM b m).noRef n = true := by
  unfold encM
  split
  · split
    · rfl
    · simp only [LV.noRef, LV.noRefs, noRef_b, LV.noRefss, Bool.and_self]
  · rfl
def encP (r : Bool) (m : M) : List Int × Int := if r then (if (msgB m).length > 65536 then ([], 5) else (msgB m, 0)) else ([], 6)
theorem encM_eq (r : Bool) (m : M) : encM r m = .tup [slB false (encP r m).1, .int .i64 (encP r m).2] ∧ (encP r m).1.length ≤ 65536 := by
  unfold encM encP
  cases r with
  | false => exact ⟨rfl, by simp⟩
  | true =>
    simp only [if_true]
    split
    · exact ⟨rfl, by simp⟩
    · rename_i h; exact ⟨rfl, by simp only; omega⟩
end Tree.W11
