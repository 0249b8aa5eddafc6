/- Layer 1: copies and comparisons of terms and of rows of terms, what E answers. -/
import Derived.Test.YtlfifgganibjiaaDoorTLa
set_option autoImplicit false
set_option linter.unusedVariables false
set_option linter.unusedSimpArgs false
namespace Tree
open Go
set_option maxHeartbeats 4000000
set_option maxRecDepth 100000
abbrev sl5 (o : Bool) (l : Nat) (cs : List C) (sp : List (List LV)) : LV := .sl o l 5 (cs.map C.row) sp
/-- A term in a row of terms. -/
structure T1 where
  lab : Nat
  cs : List C
  sp : List (List LV)
def T1.row (t : T1) : List LV := [.sl false t.lab 5 (t.cs.map C.row) t.sp]
def T1.own (t : T1) : T1 := ⟨0, t.cs, []⟩
theorem noRef_rows (n : Nat) : ∀ cs : List C, LV.noRefss n (cs.map C.row) = true
  | [] => by simp [LV.noRefss]
  | c :: cs => by simp [LV.noRefss, noRef_rows n cs, C.row, LV.noRefs, LV.noRef]
theorem noRef5 (n : Nat) (o : Bool) (l : Nat) (cs : List C) : (sl5 o l cs []).noRef n = true := by simp [LV.noRef, LV.noRefss, noRef_rows]
end Tree

set_option autoImplicit false
set_option linter.unusedVariables false
set_option linter.unusedSimpArgs false
namespace Tree
open Go
set_option maxHeartbeats 4000000
set_option maxRecDepth 100000
theorem single_right (c : C) (hk : c.k ≠ 3) : RightP [c] ↔ okC c := by
  have hp : partsC c = 0 := by unfold partsC; rw [if_neg hk]
  have he : endE [c] 0 = 1 := by
    simp [endE, scanE, hp]
    decide
  constructor
  · intro h; exact h.2.2.2 c (List.mem_singleton.2 rfl)
  · intro h; exact ⟨by simp, by simp, by simpa using he, by simpa using h⟩
theorem single_ok (c : C) (hf : c.fine) (hk : c.k ≠ 3) (ob : Obs) (pb : Nat) (r : Bool) (hr : r = true ↔ okC c) : Gives env1 37 [c.lv] ob pb (sl5 true 0 (if r then [c] else []) [], ob) := by
  rw [← single_right c hk] at hr
  refine gives_code (f := tf37) rfl ?_
  conv => whnf
  refine ⟨_, _, right_ok 0 [c] [] (by simp) (fun d hd => by rw [List.mem_singleton.1 hd]; exact hf) ob _ r hr, fun _ => rfl, ?_⟩
  conv => whnf
  refine sel_split (fun h => ?_) (fun h => ?_)
  · conv => whnf
    refine ⟨rfl, ?_, rfl⟩
    rw [h]; rfl
  · conv => whnf
    refine ⟨rfl, ?_, rfl⟩
    rw [h]; rfl
def cAtom (s : ByteArray) : C := ⟨2, s, 0, 0, 0⟩
theorem fineAtom (s : ByteArray) (h : s.size ≤ maxLen) : (cAtom s).fine := ⟨h, (by decide : (0 : Int) ≤ 2), (by decide : (2 : Int) ≤ 255)⟩
theorem ofAtom_ok (s : ByteArray) (hs : s.size ≤ maxLen) (ob : Obs) (pb : Nat) (r : Bool) (hr : r = true ↔ okC (cAtom s)) : Gives env1 12 [.str s] ob pb (sl5 true 0 (if r then [cAtom s] else []) [], ob) := by
  refine gives_code (f := tf12) rfl ?_
  conv => whnf
  refine ⟨_, _, single_ok (cAtom s) (fineAtom s hs) (by show (2 : Int) ≠ 3; decide) ob _ r hr, fun _ => noRef5 _ _ _ _, ?_⟩
  conv => whnf
  exact ⟨rfl, rfl, rfl⟩
def T1.fine (t : T1) : Prop := t.cs.length ≤ 4611686018427387904 ∧ ∀ c ∈ t.cs, c.fine
end Tree
