/- Package refs' law RefsSafe: four nodes, the ways between them; send, held, comes. -/
import Derived.Test.YtkeadnggllgphaaR16R
import Derived.Test.YtkeadnggllgphaaTW
set_option autoImplicit false
set_option linter.unusedVariables false
set_option linter.unusedSimpArgs false
namespace Tree.R16
open Go Tree
set_option maxHeartbeats 8000000
set_option maxRecDepth 100000
/-- A message: its kind, holder, times. -/
abbrev Nte := Int × Int × Int
def ntr (m : Nte) : List LV := [.int .i64 m.1, .int .i64 m.2.1, .int .i64 m.2.2]
abbrev Ways := Nat → Nat → List Nte
def upW (w : Ways) (f t : Nat) (l : List Nte) : Ways := fun f' t' => if f' = f ∧ t' = t then l else w f' t'
/-- The world's cells: the tables' addresses, and the ways. -/
structure WC (cs : List LV) (a : Nat) (w : Ways) : Prop where
  len : cs.length = 20
  tab : ∀ i, i < 4 → cs[i]? = some (.optr (a + 3 + 3 * i) 0)
  way : ∀ f t, f < 4 → t < 4 → cs[4 + 4 * f + t]? = some (.sl true 0 3 ((w f t).map ntr) [])
theorem WC.notMap {cs : List LV} {a : Nat} {w : Ways} (h : WC cs a w) : isMapC cs = false := by
  have := h.tab 0 (by omega)
  cases cs with
  | nil => cases this
  | cons x r => simp only [List.getElem?_cons_zero, Option.some.injEq] at this; subst this; rfl
theorem WC.put {cs : List LV} {a : Nat} {w : Ways} (h : WC cs a w) (f t : Nat) (hf : f < 4) (ht : t < 4) (l : List Nte) : WC (cs.set (4 + 4 * f + t) (.sl true 0 3 (l.map ntr) [])) a (upW w f t l) := by
  refine ⟨by simp [h.len], fun i hi => ?_, fun f' t' hf' ht' => ?_⟩
  · rw [List.getElem?_set_ne (by omega)]; exact h.tab i hi
  · unfold upW
    by_cases e : f' = f ∧ t' = t
    · rw [if_pos e, e.1, e.2, List.getElem?_set_self (by rw [h.len]; omega)]
    · rw [if_neg e, List.getElem?_set_ne (by omega)]; exact h.way f' t' hf' ht'
theorem put_raw (v : LV) : ∀ (cs : List LV) (c : Nat), c < cs.length → (cs.modify c LV.bare1).take c ++ [v] ++ (cs.modify c LV.bare1).drop (c + 1) = cs.set c v
  | [], c, h => by simp at h
  | x :: r, 0, _ => by simp
  | x :: r, c + 1, h => by
    have ih := put_raw v r c (by simpa using h)
    simp only [List.modify_succ_cons, List.take_succ_cons, List.drop_succ_cons, List.cons_append, List.set_cons_succ]
    rw [ih]
theorem put_off {cs : List LV} {c : Nat} (hc : c < cs.length) (v : LV) : splice (cs.modify c LV.bare1) c [v] = some (cs.set c v) := by
  unfold splice
  rw [if_pos (by simp; omega)]
  exact congrArg some (put_raw v cs c hc)
theorem notMap_mod {cs : List LV} {c : Nat} (hc : 1 ≤ c) (h : isMapC cs = false) : isMapC (cs.modify c LV.bare1) = false := by
  cases cs with
  | nil => simp [isMapC]
  | cons x r =>
    obtain ⟨c, rfl⟩ : ∃ k, c = k + 1 := ⟨c - 1, by omega⟩
    rw [List.modify_succ_cons]; cases x <;> first | exact h | exact rfl
theorem off_eq (f t : Nat) : 0 + 4 + (f : Int).toNat * 4 + (t : Int).toNat * 1 = 4 + 4 * f + t := by omega
theorem send_ok {a : Nat} {w : Ways} {cs : List LV} (h : WC cs a w) (f t : Nat) (hf : f < 4) (ht : t < 4) (m : Nte) (hl : (w f t).length ≤ 1099511627776) (ob : Obs) (hob : ob[a]? = some cs) (pb : Nat) (hpb : pb ≤ a) :
    Gives env16z 420 [.optr a 0, .int .i64 f, .int .i64 t, .agg (ntr m)] ob pb (.tup [], ob.set a (cs.set (4 + 4 * f + t) (.sl true 0 3 ((w f t ++ [m]).map ntr) []))) := by
  have hn := h.notMap
  have hw := h.way f t hf ht
  have hid : a < ob.length := (List.getElem?_eq_some_iff.1 hob).1
  have hg1 : ∀ c : List LV, (ob.set a c)[a]? = some c := fun c => List.getElem?_set_self hid
  have eo := off_eq f t
  have hp : partE false (0 + 4 + (f : Int).toNat * 4 + (t : Int).toNat * 1) 1 cs = some (.sl true 0 3 ((w f t).map ntr) []) := by rw [eo]; exact hw
  have hs := fun v => put_off (cs := cs) (c := 4 + 4 * f + t) (by rw [h.len]; omega) v
  rw [← eo] at hs
  have hml : ((w f t).map ntr).length = (w f t).length := by simp
  have hm : (w f t ++ [m]).map ntr = (w f t).map ntr ++ [ntr m] := by simp
  have hnm : isMapC (cs.modify (0 + 4 + (f : Int).toNat * 4 + (t : Int).toNat * 1) LV.bare1) = false := notMap_mod (by omega) hn
  rw [hm]
  refine gives_code (f := tf420) rfl ?_
  conv => whnf
  refine ⟨by omega, ?_⟩
  conv => whnf
  refine ⟨by omega, ?_⟩
  conv => whnf
  refine ⟨_, _, ⟨hob, hn, hp⟩, ?_⟩
  conv => whnf
  refine ⟨_, _, _, _, ⟨hpb, hob, hp⟩, ?_⟩
  conv => whnf
  refine ⟨(w f t).map ntr ++ [ntr m], ⟨.inl rfl, ?_, rfl⟩, ?_⟩
  · rw [hml]; show ((w f t).length + 1) * 24 ≤ _; omega
  conv => whnf
  refine ⟨by omega, ?_⟩
  conv => whnf
  refine ⟨by omega, ?_⟩
  conv => whnf
  refine ⟨_, _, ⟨hpb, hg1 _, hnm, hs _⟩, ?_⟩
  conv => whnf
  refine ⟨rfl, rfl, ?_⟩
  show (ob.set a _).set a (cs.set (0 + 4 + (f : Int).toNat * 4 + (t : Int).toNat * 1) _) = _
  rw [List.set_set, eo]
end Tree.R16
