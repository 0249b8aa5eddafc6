/- Layer 1: which cells and rows of cells are right, what E answers (the program's own functions). -/
import Derived.Test.YtpjoppajohmmnaaDoorL1End
import Derived.Test.YtpjoppajohmmnaaDoorL1IsName
set_option autoImplicit false
set_option linter.unusedVariables false
set_option linter.unusedSimpArgs false
namespace Tree
open Go
set_option maxHeartbeats 4000000
set_option maxRecDepth 100000
theorem bool_of {a r : Bool} {P : Prop} (hr : r = true ↔ P) (h : a = true ↔ P) : LV.bool a = LV.bool r := by
  congr 1; rw [Bool.eq_iff_iff, h, hr]
theorem bytes_eq {a b : ByteArray} : a.toList = b.toList ↔ a = b := by
  rw [strList, strList]
  constructor
  · intro h; obtain ⟨⟨l⟩⟩ := a; obtain ⟨⟨m⟩⟩ := b; simp at h; subst h; rfl
  · intro h; rw [h]
theorem C.ext_iff' {c d : C} : c = d ↔ c.k = d.k ∧ c.text = d.text ∧ c.n = d.n ∧ c.node = d.node ∧ c.num = d.num := by
  cases c; cases d; simp
theorem only_ok (c d : C) (ob : Obs) (pb : Nat) (r : Bool) (hr : r = true ↔ c = d) : Gives env1 57 [c.lv, d.lv] ob pb (.bool r, ob) := by
  refine gives_code (f := tf57) rfl ?_
  conv => whnf
  refine ⟨rfl, ?_, rfl⟩
  refine bool_of hr ?_
  simp [C.ext_iff', bytes_eq]
def sgn : List (List UInt8) := [[61],[58,61],[64],[43],[45],[42],[60],[61,60],[62],[62,61],[61,58,61],[61,92,61]]
def SignP (s : ByteArray) : Prop := s.data.toList ∈ sgn
def zeroVar (c : C) : Prop := c.node = 0 ∧ c.num = 0
def emptyS : ByteArray := ⟨#[]⟩
/-- A cell that is whole in itself. -/
def okC (c : C) : Prop :=
  (c.k = 1 ∧ c.text = emptyS ∧ zeroVar c ∧ -2147483648 ≤ c.n ∧ c.n ≤ 2147483648) ∨
  (c.k = 2 ∧ NameP c.text.data.toList ∧ zeroVar c ∧ c.n = 0) ∨
  (c.k = 3 ∧ zeroVar c ∧ (NameP c.text.data.toList ∧ 1 ≤ c.n ∧ c.n ≤ 8 ∨ SignP c.text ∧ c.n = 2)) ∨
  (c.k = 4 ∧ c.text = emptyS ∧ c.n = 0 ∧ -1 ≤ c.node ∧ c.node < 4 ∧ 0 ≤ c.num)
theorem boolOf (P : Prop) : ∃ r : Bool, r = true ↔ P := ⟨@decide P (Classical.propDecidable _), @decide_eq_true_iff _ (Classical.propDecidable _)⟩
theorem rule1_ok (c : C) (ob : Obs) (pb : Nat) (r : Bool) (hk : c.k = 1) (hr : r = true ↔ okC c) : Gives env1 48 [c.lv] ob pb (.bool r, ob) := by
  obtain ⟨q, hq⟩ := boolOf (c = ⟨1, emptyS, c.n, 0, 0⟩)
  have he : c = ⟨1, emptyS, c.n, 0, 0⟩ ↔ c.text = emptyS ∧ zeroVar c := by simp [C.ext_iff', zeroVar, hk]
  have hok : okC c ↔ c.text = emptyS ∧ zeroVar c ∧ -2147483648 ≤ c.n ∧ c.n ≤ 2147483648 := by simp [okC, hk]
  refine gives_code (f := tf48) rfl ?_
  conv => whnf
  refine sel_split (fun h => ?_) (fun h => ?_)
  · conv => whnf
    refine sel_split (fun h2 => ?_) (fun h2 => ?_)
    · conv => whnf
      refine ⟨_, _, only_ok c ⟨1, emptyS, c.n, 0, 0⟩ ob _ q hq, fun _ => rfl, ?_⟩
      conv => whnf
      refine ⟨rfl, ?_, rfl⟩
      refine bool_of hr ?_
      rw [hq, he, hok]
      simp at h h2
      constructor
      · rintro ⟨a, b⟩; exact ⟨a, b, by omega, by omega⟩
      · rintro ⟨a, b, _⟩; exact ⟨a, b⟩
    · conv => whnf
      refine ⟨rfl, ?_, rfl⟩
      refine bool_of hr ?_
      rw [hok]
      simp at h2
      constructor
      · intro e; cases e
      · rintro ⟨_, _, _, e⟩; omega
  · conv => whnf
    refine ⟨rfl, ?_, rfl⟩
    refine bool_of hr ?_
    rw [hok]
    simp at h
    constructor
    · intro e; cases e
    · rintro ⟨_, _, e, _⟩; omega
theorem rule2_ok (c : C) (ob : Obs) (pb : Nat) (r : Bool) (hk : c.k = 2) (hs : c.text.size ≤ maxLen) (hr : r = true ↔ okC c) : Gives env1 49 [c.lv] ob pb (.bool r, ob) := by
  obtain ⟨q, hq⟩ := boolOf (c = ⟨2, c.text, 0, 0, 0⟩)
  obtain ⟨p, hp⟩ := boolOf (NameP c.text.data.toList)
  have he : c = ⟨2, c.text, 0, 0, 0⟩ ↔ c.n = 0 ∧ zeroVar c := by simp [C.ext_iff', zeroVar, hk]
  have hok : okC c ↔ NameP c.text.data.toList ∧ zeroVar c ∧ c.n = 0 := by simp [okC, hk]
  refine gives_code (f := tf49) rfl ?_
  conv => whnf
  refine ⟨_, _, isName_ok c.text hs ob _ p hp, fun _ => rfl, ?_⟩
  conv => whnf
  refine sel_split (fun h => ?_) (fun h => ?_)
  · conv => whnf
    refine ⟨_, _, only_ok c ⟨2, c.text, 0, 0, 0⟩ ob _ q hq, fun _ => rfl, ?_⟩
    conv => whnf
    refine ⟨rfl, ?_, rfl⟩
    refine bool_of hr ?_
    rw [hq, he, hok, ← hp]
    simp [h]; exact And.comm
  · conv => whnf
    refine ⟨rfl, ?_, rfl⟩
    refine bool_of hr ?_
    rw [hok, ← hp]
    simp [h]
theorem rule4_ok (c : C) (ob : Obs) (pb : Nat) (r : Bool) (hk : c.k = 4) (hr : r = true ↔ okC c) : Gives env1 51 [c.lv] ob pb (.bool r, ob) := by
  obtain ⟨q, hq⟩ := boolOf (c = ⟨4, emptyS, 0, c.node, c.num⟩)
  have he : c = ⟨4, emptyS, 0, c.node, c.num⟩ ↔ c.text = emptyS ∧ c.n = 0 := by simp [C.ext_iff', hk]
  have hok : okC c ↔ c.text = emptyS ∧ c.n = 0 ∧ -1 ≤ c.node ∧ c.node < 4 ∧ 0 ≤ c.num := by simp [okC, hk]
  refine gives_code (f := tf51) rfl ?_
  conv => whnf
  refine sel_split (fun h => ?_) (fun h => ?_)
  · conv => whnf
    refine sel_split (fun h2 => ?_) (fun h2 => ?_)
    · conv => whnf
      refine sel_split (fun h3 => ?_) (fun h3 => ?_)
      · conv => whnf
        refine ⟨_, _, only_ok c ⟨4, emptyS, 0, c.node, c.num⟩ ob _ q hq, fun _ => rfl, ?_⟩
        conv => whnf
        refine ⟨rfl, ?_, rfl⟩
        refine bool_of hr ?_
        rw [hq, he, hok]
        simp at h h2 h3
        constructor
        · rintro ⟨a, b⟩; exact ⟨a, b, by omega, by omega, by omega⟩
        · rintro ⟨a, b, _⟩; exact ⟨a, b⟩
      · conv => whnf
        refine ⟨rfl, ?_, rfl⟩
        refine bool_of hr ?_
        rw [hok]
        simp at h3
        constructor
        · intro e; cases e
        · rintro ⟨_, _, _, _, e⟩; omega
    · conv => whnf
      refine ⟨rfl, ?_, rfl⟩
      refine bool_of hr ?_
      rw [hok]
      simp at h2
      constructor
      · intro e; cases e
      · rintro ⟨_, _, _, e, _⟩; omega
  · conv => whnf
    refine ⟨rfl, ?_, rfl⟩
    refine bool_of hr ?_
    rw [hok]
    simp at h
    constructor
    · intro e; cases e
    · rintro ⟨_, _, e, _⟩; omega
end Tree
