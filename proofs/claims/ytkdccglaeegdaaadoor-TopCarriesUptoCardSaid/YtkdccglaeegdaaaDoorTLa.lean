/- Layer 1: IsName, what E answers. -/
import Derived.Test.YtkdccglaeegdaaaDoorL1Env
import Derived.Laws.Strings
set_option autoImplicit false
set_option linter.unusedVariables false
set_option linter.unusedSimpArgs false
namespace Tree
open Go
set_option maxHeartbeats 4000000
set_option maxRecDepth 100000
def smallB (n : Nat) : Prop := 97 ≤ n ∧ n ≤ 122
def okB (j n : Nat) : Prop := smallB n ∨ (j ≠ 0 ∧ ((65 ≤ n ∧ n ≤ 90) ∨ (48 ≤ n ∧ n ≤ 57) ∨ n = 95))
def NameP (l : List UInt8) : Prop := l ≠ [] ∧ l.length ≤ 16 ∧ ∀ (j : Nat) (b : UInt8), l[j]? = some b → okB j b.toNat
def S1 (s : ByteArray) (ob : Obs) (x : Int) : WSt := ⟨.val (.str s) :: (List.replicate 6 (.val .undef)) ++ .val (.int .i64 s.size) :: .val (.int .i64 x) :: List.replicate 45 (.val .undef), ob, []⟩
theorem strList (s : ByteArray) : s.toList = s.data.toList := by
  exact Go.ByteArray.toList_eq s
theorem strNil {s : ByteArray} (h : s.data.toList = []) : s.toList = [] := by rw [strList, h]
theorem isName_ok (s : ByteArray) (hs : s.size ≤ maxLen) (ob : Obs) (pb : Nat) (r : Bool) (hr : r = true ↔ NameP s.data.toList) : Gives env1 1 [.str s] ob pb (.bool r, ob) := by
  refine gives_code (f := tf1) rfl ?_
  conv => whnf
  refine loop_rule (S := fun i : Nat => S1 s ob i) (m := fun i => s.size - i) (P := fun i => i ≤ s.size ∧ ∀ (j : Nat) (b : UInt8), j < i → s.data.toList[j]? = some b → okB j b.toNat) ?_ 0 ⟨Nat.zero_le _, fun j b h => by omega⟩ rfl
  rintro i ⟨hi, hP⟩
  conv => whnf
  refine sel_split (fun h => ?_) (fun h => ?_)
  · conv => whnf
    have hlt : i < s.size := by simpa using h
    have hb : s.data.toList[i]? = some (s.data.toList[i]'(by simpa using hlt)) := List.getElem?_eq_getElem _
    generalize (s.data.toList[i]'(by simpa using hlt)) = b at hb
    refine ⟨b, ⟨by omega, by simpa using hb⟩, ?_⟩
    conv => whnf
    repeat' (refine sel_split (fun _ => ?_) (fun _ => ?_) <;> (conv => whnf))
    all_goals first
      | (have key : okB i b.toNat := by
           clear hr hP hb
           unfold okB smallB
           simp at *
           omega
         refine ⟨i + 1, ⟨by omega, fun j b' hj hb' => ?_⟩, by omega, ?_⟩
         · by_cases hji : j = i
           · subst hji
             rw [hb] at hb'
             cases hb'
             exact key
           · exact hP j b' (by omega) hb'
         · have e : IntKind.i64.wrap ((i : Int) + 1) = ((i + 1 : Nat) : Int) := by
             unfold maxLen at hs
             rw [wrap64] <;> omega
           rw [← e]
           rfl)
      | (have key : ¬ okB i b.toNat := by
           clear hr hP hb
           unfold okB smallB
           simp at *
           omega
         refine ⟨rfl, ?_, rfl⟩
         cases r with
         | false => rfl
         | true => exact absurd ((hr.1 rfl).2.2 i b hb) key)
  · conv => whnf
    have hlt : i = s.size := by simp at h; omega
    subst hlt
    have hall : ∀ (j : Nat) (b : UInt8), s.data.toList[j]? = some b → okB j b.toNat := by
      intro j b hb
      refine hP j b ?_ hb
      have := (List.getElem?_eq_some_iff.1 hb).1
      simpa using this
    repeat' (refine sel_split (fun _ => ?_) (fun _ => ?_) <;> (conv => whnf))
    · rename_i hne
      refine ⟨rfl, ?_, rfl⟩
      show LV.bool _ = LV.bool r
      congr 1
      rw [Bool.eq_iff_iff, hr]
      have hl : s.data.toList.length = s.size := by simp
      simp only [decide_eq_true_eq, NameP, hl]
      constructor
      · intro h16
        exact ⟨fun hn => by simp [strNil hn] at hne, by omega, hall⟩
      · intro hn; omega
    · rename_i hne
      refine ⟨rfl, ?_, rfl⟩
      cases r with
      | false => rfl
      | true =>
        refine absurd ?_ (hr.1 rfl).1
        simpa [strList] using hne
end Tree

set_option autoImplicit false
set_option linter.unusedVariables false
set_option linter.unusedSimpArgs false
namespace Tree
open Go
set_option maxHeartbeats 4000000
set_option maxRecDepth 100000
structure C where
  k : Int
  text : ByteArray
  n : Int
  node : Int
  num : Int
def C.row (c : C) : List LV := [.int .u8 c.k, .str c.text, .int .i64 c.n, .int .i64 c.node, .int .i64 c.num]
def C.lv (c : C) : LV := .agg c.row
abbrev w64 (x : Int) : Int := IntKind.i64.wrap x
def partsC (c : C) : Int := if c.k = 3 then (if c.n < 0 then 0 else c.n) else 0
def scanE (L : Nat) : List C → Int → Nat → Int
  | [], o, p => if o ≤ 0 then p else 0
  | c :: r, o, p => if o ≤ 0 then p else if partsC c > L then 0 else scanE L r (w64 (o + w64 (partsC c - 1))) (p + 1)
def endE (cs : List C) (i : Int) : Int := if i < 0 ∨ i ≥ cs.length then 0 else scanE cs.length (cs.drop i.toNat) 1 i.toNat
theorem parts_ok (c : C) (ob : Obs) (pb : Nat) : Gives env1 47 [c.lv] ob pb (.int .i64 (partsC c), ob) := by
  refine gives_code (f := tf47) rfl ?_
  conv => whnf
  refine sel_split (fun h => ?_) (fun h => ?_)
  · conv => whnf
    have h : c.k ≠ 3 := by simpa using h
    refine ⟨rfl, ?_, rfl⟩
    simp [partsC, h, tupE]
  · conv => whnf
    have h : c.k = 3 := by simpa using h
    refine ⟨rfl, ?_, rfl⟩
    simp [partsC, h, tupE]
theorem idx_row {cs : List C} {i : Nat} {c : C} (h : cs[i]? = some c) : (cs.map C.row)[i]? = some [.int .u8 c.k, .str c.text, .int .i64 c.n, .int .i64 c.node, .int .i64 c.num] := by
  rw [List.getElem?_map, h]; rfl
theorem drop_at {α : Type} {l : List α} {i : Nat} {c : α} (h : l[i]? = some c) : l.drop i = c :: l.drop (i + 1) := by
  obtain ⟨h1, h2⟩ := List.getElem?_eq_some_iff.1 h
  rw [List.drop_eq_getElem_cons h1, h2]
def S31 (v : LV) (at_ op : Int) (ob : Obs) : WSt := ⟨.val v :: .val (.int .i64 at_) :: .val .undef :: .val .undef :: .val .undef :: .val (.int .i64 op) :: List.replicate 35 (.val .undef), ob, []⟩
theorem end_ok (lab : Nat) (cs : List C) (sp : List (List LV)) (i : Int) (hl : cs.length ≤ 4611686018427387904) (ob : Obs) (pb : Nat) : Gives env1 31 [.sl false lab 5 (cs.map C.row) sp, .int .i64 i] ob pb (.int .i64 (endE cs i), ob) := by
  refine gives_code (f := tf31) rfl ?_
  conv => whnf
  have hlen : (cs.map C.row).length = cs.length := by simp
  refine sel_split (fun h => ?_) (fun h => ?_)
  · conv => whnf
    have h : i < 0 := by simpa using h
    refine ⟨rfl, ?_, rfl⟩
    simp [endE, h, tupE]
  · conv => whnf
    have h : ¬ i < 0 := by simpa using h
    refine sel_split (fun h2 => ?_) (fun h2 => ?_)
    · conv => whnf
      have h2 := of_decide_eq_true h2
      rw [hlen] at h2
      refine ⟨rfl, ?_, rfl⟩
      simp [endE, h2, tupE]
    · conv => whnf
      have h2 := of_decide_eq_false h2
      rw [hlen] at h2
      have hend : endE cs i = scanE cs.length (cs.drop i.toNat) 1 i.toNat := by
        unfold endE; rw [if_neg (by omega)]
      refine loop_abs (ι := Nat × Int) (S := fun p => S31 (.sl false lab 5 (cs.map C.row) sp) p.1 p.2 ob) (m := fun p => cs.length - p.1) (P := fun p => p.1 ≤ cs.length ∧ endE cs i = scanE cs.length (cs.drop p.1) p.2 p.1) ?_ (i.toNat, 1) ⟨by omega, hend⟩ (by
        show _ = S31 _ ((i.toNat : Nat) : Int) 1 ob
        rw [Int.toNat_of_nonneg (by omega)]; rfl)
      rintro R ⟨a, o⟩ ⟨ha, hP⟩ hN hE hR
      simp only at ha hP
      conv => whnf
      refine sel_split (fun h3 => ?_) (fun h3 => ?_)
      · conv => whnf
        have h3 := of_decide_eq_true h3
        refine sel_split (fun h4 => ?_) (fun h4 => ?_)
        · conv => whnf
          rw [hlen] at h4
          have h4 : a = cs.length := by simp at h4; omega
          refine hR _ ?_
          conv => whnf
          refine ⟨rfl, ?_, rfl⟩
          rw [hP]
          subst h4
          have : ¬ o ≤ 0 := by omega
          simp [scanE, this, tupE]
        · conv => whnf
          rw [hlen] at h4
          have h4 : a ≠ cs.length := by intro e; subst e; simp at h4
          obtain ⟨c, hc⟩ : ∃ c, cs[a]? = some c := ⟨_, List.getElem?_eq_getElem (show a < cs.length by omega)⟩
          refine ⟨_, ⟨by omega, idx_row hc⟩, ?_⟩
          conv => whnf
          refine ⟨_, _, parts_ok c ob _, fun _ => rfl, ?_⟩
          conv => whnf
          rw [drop_at hc] at hP
          refine sel_split (fun h5 => ?_) (fun h5 => ?_)
          · conv => whnf
            have h5 := of_decide_eq_true h5
            rw [hlen] at h5
            refine hR _ ?_
            conv => whnf
            refine ⟨rfl, ?_, rfl⟩
            have : ¬ o ≤ 0 := by omega
            rw [hP]
            simp only [scanE, if_neg this, if_pos h5]; rfl
          · conv => whnf
            have h5 := of_decide_eq_false h5
            rw [hlen] at h5
            refine ⟨_, ⟨by omega, idx_row hc⟩, ?_⟩
            conv => whnf
            refine ⟨_, _, parts_ok c ob _, fun _ => rfl, ?_⟩
            conv => whnf
            have e : w64 ((a : Int) + 1) = ((a + 1 : Nat) : Int) := by
              unfold w64; rw [wrap64] <;> omega
            have : ¬ o ≤ 0 := by omega
            refine hN (a + 1, w64 (o + w64 (partsC c - 1))) _ ⟨by show a + 1 ≤ _; omega, ?_⟩ (by show cs.length - (a + 1) < _; omega) ?_
            · simp only [scanE, if_neg this, if_neg h5] at hP
              exact hP
            · show _ = S31 _ ((a + 1 : Nat) : Int) _ ob
              rw [← e]
              rfl
      · conv => whnf
        have h3 := of_decide_eq_false h3
        refine hE _ _ ?_
        conv => whnf
        refine ⟨rfl, ?_, rfl⟩
        rw [hP]
        have h3' : o ≤ 0 := by omega
        cases hd : cs.drop a with
        | nil => simp [scanE, h3', tupE]
        | cons c r => simp [scanE, h3', tupE]
end Tree

set_option autoImplicit false
set_option linter.unusedVariables false
set_option linter.unusedSimpArgs false
namespace Tree
open Go
set_option maxHeartbeats 4000000
set_option maxRecDepth 100000
theorem bool_of {a r : Bool} {P : Prop} (hr : r = true ↔ P) (h : a = true ↔ P) : LV.bool a = LV.bool r := by
  congr 1; rw [Bool.eq_iff_iff, h, hr]
theorem bytes_eq {a b : ByteArray} : a.toList = b.toList ↔ a = b := by
  rw [strList, strList]
  constructor
  · intro h; obtain ⟨⟨l⟩⟩ := a; obtain ⟨⟨m⟩⟩ := b; simp at h; subst h; rfl
  · intro h; rw [h]
theorem C.ext_iff' {c d : C} : c = d ↔ c.k = d.k ∧ c.text = d.text ∧ c.n = d.n ∧ c.node = d.node ∧ c.num = d.num := by
  cases c; cases d; simp
theorem only_ok (c d : C) (ob : Obs) (pb : Nat) (r : Bool) (hr : r = true ↔ c = d) : Gives env1 57 [c.lv, d.lv] ob pb (.bool r, ob) := by
  refine gives_code (f := tf57) rfl ?_
  conv => whnf
  refine ⟨rfl, ?_, rfl⟩
  refine bool_of hr ?_
  simp [C.ext_iff', bytes_eq]
def sgn : List (List UInt8) := [[61],[58,61],[64],[43],[45],[42],[60],[61,60],[62],[62,61],[61,58,61],[61,92,61]]
def SignP (s : ByteArray) : Prop := s.data.toList ∈ sgn
def zeroVar (c : C) : Prop := c.node = 0 ∧ c.num = 0
def emptyS : ByteArray := ⟨#[]⟩
/-- A cell that is whole in itself. -/
def okC (c : C) : Prop :=
  (c.k = 1 ∧ c.text = emptyS ∧ zeroVar c ∧ -2147483648 ≤ c.n ∧ c.n ≤ 2147483648) ∨
  (c.k = 2 ∧ NameP c.text.data.toList ∧ zeroVar c ∧ c.n = 0) ∨
  (c.k = 3 ∧ zeroVar c ∧ (NameP c.text.data.toList ∧ 1 ≤ c.n ∧ c.n ≤ 8 ∨ SignP c.text ∧ c.n = 2)) ∨
  (c.k = 4 ∧ c.text = emptyS ∧ c.n = 0 ∧ -1 ≤ c.node ∧ c.node < 4 ∧ 0 ≤ c.num)
theorem boolOf (P : Prop) : ∃ r : Bool, r = true ↔ P := ⟨@decide P (Classical.propDecidable _), @decide_eq_true_iff _ (Classical.propDecidable _)⟩
theorem rule1_ok (c : C) (ob : Obs) (pb : Nat) (r : Bool) (hk : c.k = 1) (hr : r = true ↔ okC c) : Gives env1 48 [c.lv] ob pb (.bool r, ob) := by
  obtain ⟨q, hq⟩ := boolOf (c = ⟨1, emptyS, c.n, 0, 0⟩)
  have he : c = ⟨1, emptyS, c.n, 0, 0⟩ ↔ c.text = emptyS ∧ zeroVar c := by simp [C.ext_iff', zeroVar, hk]
  have hok : okC c ↔ c.text = emptyS ∧ zeroVar c ∧ -2147483648 ≤ c.n ∧ c.n ≤ 2147483648 := by simp [okC, hk]
  refine gives_code (f := tf48) rfl ?_
  conv => whnf
  refine sel_split (fun h => ?_) (fun h => ?_)
  · conv => whnf
    refine sel_split (fun h2 => ?_) (fun h2 => ?_)
    · conv => whnf
      refine ⟨_, _, only_ok c ⟨1, emptyS, c.n, 0, 0⟩ ob _ q hq, fun _ => rfl, ?_⟩
      conv => whnf
      refine ⟨rfl, ?_, rfl⟩
      refine bool_of hr ?_
      rw [hq, he, hok]
      simp at h h2
      constructor
      · rintro ⟨a, b⟩; exact ⟨a, b, by omega, by omega⟩
      · rintro ⟨a, b, _⟩; exact ⟨a, b⟩
    · conv => whnf
      refine ⟨rfl, ?_, rfl⟩
      refine bool_of hr ?_
      rw [hok]
      simp at h2
      constructor
      · intro e; cases e
      · rintro ⟨_, _, _, e⟩; omega
  · conv => whnf
    refine ⟨rfl, ?_, rfl⟩
    refine bool_of hr ?_
    rw [hok]
    simp at h
    constructor
    · intro e; cases e
    · rintro ⟨_, _, e, _⟩; omega
theorem rule2_ok (c : C) (ob : Obs) (pb : Nat) (r : Bool) (hk : c.k = 2) (hs : c.text.size ≤ maxLen) (hr : r = true ↔ okC c) : Gives env1 49 [c.lv] ob pb (.bool r, ob) := by
  obtain ⟨q, hq⟩ := boolOf (c = ⟨2, c.text, 0, 0, 0⟩)
  obtain ⟨p, hp⟩ := boolOf (NameP c.text.data.toList)
  have he : c = ⟨2, c.text, 0, 0, 0⟩ ↔ c.n = 0 ∧ zeroVar c := by simp [C.ext_iff', zeroVar, hk]
  have hok : okC c ↔ NameP c.text.data.toList ∧ zeroVar c ∧ c.n = 0 := by simp [okC, hk]
  refine gives_code (f := tf49) rfl ?_
  conv => whnf
  refine ⟨_, _, isName_ok c.text hs ob _ p hp, fun _ => rfl, ?_⟩
  conv => whnf
  refine sel_split (fun h => ?_) (fun h => ?_)
  · conv => whnf
    refine ⟨_, _, only_ok c ⟨2, c.text, 0, 0, 0⟩ ob _ q hq, fun _ => rfl, ?_⟩
    conv => whnf
    refine ⟨rfl, ?_, rfl⟩
    refine bool_of hr ?_
    rw [hq, he, hok, ← hp]
    simp [h]; exact And.comm
  · conv => whnf
    refine ⟨rfl, ?_, rfl⟩
    refine bool_of hr ?_
    rw [hok, ← hp]
    simp [h]
theorem rule4_ok (c : C) (ob : Obs) (pb : Nat) (r : Bool) (hk : c.k = 4) (hr : r = true ↔ okC c) : Gives env1 51 [c.lv] ob pb (.bool r, ob) := by
  obtain ⟨q, hq⟩ := boolOf (c = ⟨4, emptyS, 0, c.node, c.num⟩)
  have he : c = ⟨4, emptyS, 0, c.node, c.num⟩ ↔ c.text = emptyS ∧ c.n = 0 := by simp [C.ext_iff', hk]
  have hok : okC c ↔ c.text = emptyS ∧ c.n = 0 ∧ -1 ≤ c.node ∧ c.node < 4 ∧ 0 ≤ c.num := by simp [okC, hk]
  refine gives_code (f := tf51) rfl ?_
  conv => whnf
  refine sel_split (fun h => ?_) (fun h => ?_)
  · conv => whnf
    refine sel_split (fun h2 => ?_) (fun h2 => ?_)
    · conv => whnf
      refine sel_split (fun h3 => ?_) (fun h3 => ?_)
      · conv => whnf
        refine ⟨_, _, only_ok c ⟨4, emptyS, 0, c.node, c.num⟩ ob _ q hq, fun _ => rfl, ?_⟩
        conv => whnf
        refine ⟨rfl, ?_, rfl⟩
        refine bool_of hr ?_
        rw [hq, he, hok]
        simp at h h2 h3
        constructor
        · rintro ⟨a, b⟩; exact ⟨a, b, by omega, by omega, by omega⟩
        · rintro ⟨a, b, _⟩; exact ⟨a, b⟩
      · conv => whnf
        refine ⟨rfl, ?_, rfl⟩
        refine bool_of hr ?_
        rw [hok]
        simp at h3
        constructor
        · intro e; cases e
        · rintro ⟨_, _, _, _, e⟩; omega
    · conv => whnf
      refine ⟨rfl, ?_, rfl⟩
      refine bool_of hr ?_
      rw [hok]
      simp at h2
      constructor
      · intro e; cases e
      · rintro ⟨_, _, _, e, _⟩; omega
  · conv => whnf
    refine ⟨rfl, ?_, rfl⟩
    refine bool_of hr ?_
    rw [hok]
    simp at h
    constructor
    · intro e; cases e
    · rintro ⟨_, _, e, _⟩; omega
end Tree

set_option autoImplicit false
set_option linter.unusedVariables false
set_option linter.unusedSimpArgs false
namespace Tree
open Go
set_option maxHeartbeats 4000000
set_option maxRecDepth 100000
def sgnB : List ByteArray := sgn.map fun z => ⟨z.toArray⟩
def rowS (s : ByteArray) : List LV := [.str s]
theorem idx_str {l : List ByteArray} {i : Nat} {s : ByteArray} (h : l[i]? = some s) : (l.map rowS)[i]? = some [.str s] := by
  rw [List.getElem?_map, h]; rfl
def S58 (v x : LV) (n : Nat) (i : Int) (ob : Obs) : WSt := ⟨.val v :: .val x :: List.replicate 5 (.val .undef) ++ .val (.int .i64 n) :: .val (.int .i64 i) :: List.replicate 10 (.val .undef), ob, []⟩
theorem idxStr_ok (lab : Nat) (l : List ByteArray) (x : ByteArray) (hl : l.length ≤ 4611686018427387904) (ob : Obs) (pb : Nat) : ∃ j : Int, (0 ≤ j ↔ x ∈ l) ∧ Gives env1 58 [.sl false lab 1 (l.map rowS) [], .str x] ob pb (.int .i64 j, ob) := by
  obtain ⟨j, hj1, hj2⟩ : ∃ j : Int, (∀ i : Nat, l[i]? = some x → (∀ k s, k < i → l[k]? = some s → s ≠ x) → j = i) ∧ ((∀ (k : Nat) s, l[k]? = some s → s ≠ x) → j = -1) := by
    by_cases h : ∃ i : Nat, l[i]? = some x ∧ ∀ k s, k < i → l[k]? = some s → s ≠ x
    · obtain ⟨i, h1, h2⟩ := h
      refine ⟨i, fun i' h3 h4 => ?_, fun h3 => absurd rfl (h3 i x h1)⟩
      rcases Nat.lt_trichotomy i i' with h5 | h5 | h5
      · exact absurd rfl (h4 i x h5 h1)
      · rw [h5]
      · exact absurd rfl (h2 i' x h5 h3)
    · exact ⟨-1, fun i h1 h2 => absurd ⟨i, h1, h2⟩ h, fun _ => rfl⟩
  refine ⟨j, ?_, ?_⟩
  · constructor
    · intro h0
      apply Classical.byContradiction
      intro hn
      have := hj2 (fun k s hk e => hn (e ▸ List.mem_of_getElem? hk))
      omega
    · intro hm
      apply Classical.byContradiction
      intro hneg
      obtain ⟨i, hi, e⟩ := List.getElem_of_mem hm
      -- the first place
      have : ∀ n : Nat, ∀ k s, k < n → l[k]? = some s → s ≠ x := by
        intro n
        induction n with
        | zero => intro k s h; omega
        | succ n ih =>
          intro k s hk hs e'
          by_cases hkn : k < n
          · exact ih k s hkn hs e'
          · have : k = n := by omega
            subst this; subst e'
            have := hj1 k hs ih
            omega
      exact this (i + 1) i x (by omega) (by rw [List.getElem?_eq_getElem hi, e]) rfl
  refine gives_code (f := tf58) rfl ?_
  have hlen : (l.map rowS).length = l.length := by simp
  conv => whnf
  refine loop_abs (S := fun i : Nat => S58 (.sl false lab 1 (l.map rowS) []) (.str x) (l.map rowS).length i ob) (m := fun i => l.length - i) (P := fun i => i ≤ l.length ∧ ∀ k s, k < i → l[k]? = some s → s ≠ x) ?_ 0 ⟨Nat.zero_le _, fun k s h => by omega⟩ rfl
  rintro R i ⟨hi, hP⟩ hN hE hR
  conv => whnf
  refine sel_split (fun h => ?_) (fun h => ?_)
  · conv => whnf
    have h := of_decide_eq_true h
    rw [hlen] at h
    obtain ⟨s, hs⟩ : ∃ s, l[i]? = some s := ⟨_, List.getElem?_eq_getElem (show i < l.length by omega)⟩
    refine ⟨_, ⟨by omega, idx_str hs⟩, ?_⟩
    conv => whnf
    refine sel_split (fun h2 => ?_) (fun h2 => ?_)
    · conv => whnf
      have h2 : x = s := bytes_eq.1 (by simpa using h2)
      refine hR _ ?_
      conv => whnf
      refine ⟨rfl, ?_, rfl⟩
      rw [hj1 i (by rw [hs, h2]) hP]; rfl
    · conv => whnf
      have h2 : s ≠ x := fun e => by rw [e] at h2; simp at h2
      have e : IntKind.i64.wrap ((i : Int) + 1) = ((i + 1 : Nat) : Int) := by rw [wrap64] <;> omega
      refine hN (i + 1) _ ⟨by omega, fun k s' hk hs' => ?_⟩ (by omega) ?_
      · by_cases hki : k = i
        · subst hki; rw [hs] at hs'; cases hs'; exact h2
        · exact hP k s' (by omega) hs'
      · rw [← e]; rfl
  · conv => whnf
    have h := of_decide_eq_false h
    rw [hlen] at h
    refine hE _ _ ?_
    conv => whnf
    refine ⟨rfl, ?_, rfl⟩
    rw [hj2 (fun k s hk => hP k s (by have := (List.getElem?_eq_some_iff.1 hk).1; omega) hk)]; rfl
theorem hasStr_ok (lab : Nat) (l : List ByteArray) (x : ByteArray) (hl : l.length ≤ 4611686018427387904) (ob : Obs) (pb : Nat) (r : Bool) (hr : r = true ↔ x ∈ l) : Gives env1 248 [.sl false lab 1 (l.map rowS) [], .str x] ob pb (.bool r, ob) := by
  obtain ⟨j, hj, hg⟩ := idxStr_ok lab l x hl ob (max pb ob.length)
  refine gives_code (f := tf248) rfl ?_
  conv => whnf
  refine ⟨_, _, hg, fun _ => rfl, ?_⟩
  conv => whnf
  refine ⟨rfl, ?_, rfl⟩
  refine bool_of hr ?_
  rw [← hj]; simp
theorem sign_mem (s : ByteArray) : s ∈ sgnB ↔ SignP s := by
  unfold sgnB SignP
  rw [List.mem_map]
  constructor
  · rintro ⟨z, hz, rfl⟩; simpa using hz
  · intro h; exact ⟨_, h, by obtain ⟨⟨l⟩⟩ := s; rfl⟩
theorem rule3_ok (c : C) (ob : Obs) (pb : Nat) (r : Bool) (hk : c.k = 3) (hs : c.text.size ≤ maxLen) (hr : r = true ↔ okC c) : Gives env1 50 [c.lv] ob pb (.bool r, ob) := by
  obtain ⟨q, hq⟩ := boolOf (c = ⟨3, c.text, c.n, 0, 0⟩)
  obtain ⟨p, hp⟩ := boolOf (NameP c.text.data.toList)
  obtain ⟨g, hg⟩ := boolOf (c.text ∈ sgnB)
  have he : c = ⟨3, c.text, c.n, 0, 0⟩ ↔ zeroVar c := by simp [C.ext_iff', zeroVar, hk]
  have hok : okC c ↔ zeroVar c ∧ (NameP c.text.data.toList ∧ 1 ≤ c.n ∧ c.n ≤ 8 ∨ SignP c.text ∧ c.n = 2) := by simp [okC, hk]
  rw [← sign_mem, ← hg, ← hp] at hok
  have last : ∀ (b : Bool), (b = true ↔ (p = true ∧ 1 ≤ c.n ∧ c.n ≤ 8 ∨ g = true ∧ c.n = 2)) → (b = true → (LV.bool q = LV.bool r)) ∧ (b = false → LV.bool false = LV.bool r) := by
    intro b hb
    refine ⟨fun e => bool_of hr ?_, fun e => bool_of hr ?_⟩
    · rw [hok, hq, he]
      exact ⟨fun h => ⟨h, hb.1 e⟩, fun h => h.1⟩
    · rw [hok]
      constructor
      · intro e; cases e
      · intro h; rw [hb.2 h.2] at e; cases e
  refine gives_code (f := tf50) rfl ?_
  conv => whnf
  refine ⟨_, _, isName_ok c.text hs ob _ p hp, fun _ => rfl, ?_⟩
  have tail : ∀ (b : Bool), (b = true ↔ (p = true ∧ 1 ≤ c.n ∧ c.n ≤ 8 ∨ g = true ∧ c.n = 2)) → True := fun _ _ => trivial
  conv => whnf
  refine sel_split (fun h1 => ?_) (fun h1 => ?_)
  · conv => whnf
    refine sel_split (fun h2 => ?_) (fun h2 => ?_)
    · conv => whnf
      refine sel_split (fun h3 => ?_) (fun h3 => ?_)
      · conv => whnf
        refine ⟨_, _, only_ok c ⟨3, c.text, c.n, 0, 0⟩ ob _ q hq, fun _ => rfl, ?_⟩
        conv => whnf
        refine ⟨rfl, ?_, rfl⟩
        exact (last true (by simp at h2 h3; simp [h1, h2, h3])).1 rfl
      · conv => whnf
        refine ⟨_, _, hasStr_ok 0 sgnB c.text (by decide) ob _ g hg, fun _ => rfl, ?_⟩
        conv => whnf
        refine sel_split (fun h4 => ?_) (fun h4 => ?_)
        · conv => whnf
          refine sel_split (fun h5 => ?_) (fun h5 => ?_)
          · conv => whnf
            refine ⟨_, _, only_ok c ⟨3, c.text, c.n, 0, 0⟩ ob _ q hq, fun _ => rfl, ?_⟩
            conv => whnf
            refine ⟨rfl, ?_, rfl⟩
            exact (last true (by simp at h5; simp [h4, h5])).1 rfl
          · conv => whnf
            refine ⟨rfl, ?_, rfl⟩
            exact (last false (by simp at h3 h5; simp [h4, h5]; intro _ _; omega)).2 rfl
        · conv => whnf
          refine ⟨rfl, ?_, rfl⟩
          exact (last false (by simp at h3; simp [h4]; intro _ _; omega)).2 rfl
    · conv => whnf
      refine ⟨_, _, hasStr_ok 0 sgnB c.text (by decide) ob _ g hg, fun _ => rfl, ?_⟩
      conv => whnf
      refine sel_split (fun h4 => ?_) (fun h4 => ?_)
      · conv => whnf
        refine sel_split (fun h5 => ?_) (fun h5 => ?_)
        · conv => whnf
          refine ⟨_, _, only_ok c ⟨3, c.text, c.n, 0, 0⟩ ob _ q hq, fun _ => rfl, ?_⟩
          conv => whnf
          refine ⟨rfl, ?_, rfl⟩
          exact (last true (by simp at h5; simp [h4, h5])).1 rfl
        · conv => whnf
          refine ⟨rfl, ?_, rfl⟩
          exact (last false (by simp at h2 h5; simp [h4, h5]; intro _ _; omega)).2 rfl
      · conv => whnf
        refine ⟨rfl, ?_, rfl⟩
        exact (last false (by simp at h2; simp [h4]; intro _ _; omega)).2 rfl
  · conv => whnf
    refine ⟨_, _, hasStr_ok 0 sgnB c.text (by decide) ob _ g hg, fun _ => rfl, ?_⟩
    conv => whnf
    refine sel_split (fun h4 => ?_) (fun h4 => ?_)
    · conv => whnf
      refine sel_split (fun h5 => ?_) (fun h5 => ?_)
      · conv => whnf
        refine ⟨_, _, only_ok c ⟨3, c.text, c.n, 0, 0⟩ ob _ q hq, fun _ => rfl, ?_⟩
        conv => whnf
        refine ⟨rfl, ?_, rfl⟩
        exact (last true (by simp at h5; simp [h4, h5])).1 rfl
      · conv => whnf
        refine ⟨rfl, ?_, rfl⟩
        exact (last false (by simp at h5; simp [h1, h4, h5])).2 rfl
    · conv => whnf
      refine ⟨rfl, ?_, rfl⟩
      exact (last false (by simp [h1, h4])).2 rfl
end Tree

set_option autoImplicit false
set_option linter.unusedVariables false
set_option linter.unusedSimpArgs false
namespace Tree
open Go
set_option maxHeartbeats 4000000
set_option maxRecDepth 100000
def C.fine (c : C) : Prop := c.text.size ≤ maxLen ∧ 0 ≤ c.k ∧ c.k ≤ 255
def ruleFn (k : Int) : Nat := if k = 1 then 48 else if k = 2 then 49 else if k = 3 then 50 else if k = 4 then 51 else 52
theorem rule_ok (k : Int) (h0 : 0 ≤ k) (h1 : k ≤ 255) (ob : Obs) (pb : Nat) : Gives env1 32 [.int .u8 k] ob pb (.agg [.fn (ruleFn k) []], ob) := by
  by_cases e1 : k = 1
  · subst e1
    refine gives_code (f := tf32) rfl ?_
    conv => whnf
    refine ⟨by omega, ?_⟩
    conv => whnf
    exact ⟨rfl, rfl, rfl⟩
  by_cases e2 : k = 2
  · subst e2
    refine gives_code (f := tf32) rfl ?_
    conv => whnf
    refine ⟨by omega, ?_⟩
    conv => whnf
    exact ⟨rfl, rfl, rfl⟩
  by_cases e3 : k = 3
  · subst e3
    refine gives_code (f := tf32) rfl ?_
    conv => whnf
    refine ⟨by omega, ?_⟩
    conv => whnf
    exact ⟨rfl, rfl, rfl⟩
  by_cases e4 : k = 4
  · subst e4
    refine gives_code (f := tf32) rfl ?_
    conv => whnf
    refine ⟨by omega, ?_⟩
    conv => whnf
    exact ⟨rfl, rfl, rfl⟩
  have er : ruleFn k = 52 := by simp [ruleFn, e1, e2, e3, e4]
  rw [er]
  refine gives_code (f := tf32) rfl ?_
  conv => whnf
  refine sel_split (fun h => ?_) (fun h => ?_)
  · conv => whnf
    exact ⟨rfl, rfl, rfl⟩
  · conv => whnf
    have h := of_decide_eq_false h
    refine sel_t ?_ ?_
    · rw [wrap64 (by omega) (by omega)]; simp; omega
    · conv => whnf
      exact ⟨rfl, rfl, rfl⟩
theorem rule5_ok (c : C) (ob : Obs) (pb : Nat) : Gives env1 52 [c.lv] ob pb (.bool false, ob) := by
  refine gives_code (f := tf52) rfl ?_
  conv => whnf
  exact ⟨rfl, rfl, rfl⟩
theorem holds_ok (c : C) (hf : c.fine) (ob : Obs) (pb : Nat) (r : Bool) (hr : r = true ↔ okC c) : Gives env1 (ruleFn c.k) [c.lv] ob pb (.bool r, ob) := by
  unfold ruleFn
  split
  · rename_i h; exact rule1_ok c ob pb r h hr
  split
  · rename_i h; exact rule2_ok c ob pb r h hf.1 hr
  split
  · rename_i h; exact rule3_ok c ob pb r h hf.1 hr
  split
  · rename_i h; exact rule4_ok c ob pb r h hr
  · rename_i h1 h2 h3 h4
    have : r = false := by
      cases r with
      | false => rfl
      | true => have := hr.1 rfl; simp [okC, h1, h2, h3, h4] at this
    rw [this]; exact rule5_ok c ob pb
theorem right1_ok (c : C) (hf : c.fine) (ob : Obs) (pb : Nat) (r : Bool) (hr : r = true ↔ ¬ okC c) : Gives env1 46 [c.lv] ob pb (.bool r, ob) := by
  obtain ⟨q, hq⟩ := boolOf (okC c)
  refine gives_code (f := tf46) rfl ?_
  conv => whnf
  refine ⟨_, _, rule_ok c.k hf.2.1 hf.2.2 ob _, fun _ => rfl, ?_⟩
  conv => whnf
  refine ⟨_, _, holds_ok c hf ob _ q hq, fun _ => rfl, ?_⟩
  conv => whnf
  refine ⟨rfl, ?_, rfl⟩
  refine bool_of hr ?_
  rw [← hq]; simp
def S56 (v x : LV) (n : Nat) (i : Int) (ob : Obs) : WSt := ⟨.val v :: .val x :: List.replicate 5 (.val .undef) ++ .val (.int .i64 n) :: .val (.int .i64 i) :: List.replicate 10 (.val .undef), ob, []⟩
/-- The first cell at which a function of cells holds. -/
theorem idxFn_ok (g lab : Nat) (cs : List C) (sp : List (List LV)) (p : C → Prop) (hl : cs.length ≤ 4611686018427387904) (hg : ∀ c ∈ cs, ∀ ob pb (r : Bool), (r = true ↔ p c) → Gives env1 g [c.lv] ob pb (.bool r, ob)) (ob : Obs) (pb : Nat) :
    ∃ j : Int, (0 ≤ j ↔ ∃ c ∈ cs, p c) ∧ Gives env1 56 [.sl false lab 5 (cs.map C.row) sp, .fn g []] ob pb (.int .i64 j, ob) := by
  obtain ⟨j, hj0, hj1, hj2⟩ : ∃ j : Int, (0 ≤ j ↔ ∃ c ∈ cs, p c) ∧ (∀ (i : Nat) c, cs[i]? = some c → p c → (∀ k d, k < i → cs[k]? = some d → ¬ p d) → j = i) ∧ ((∀ (k : Nat) d, cs[k]? = some d → ¬ p d) → j = -1) := by
    by_cases h : ∃ c ∈ cs, p c
    · have : ∃ (i : Nat) (c : C), cs[i]? = some c ∧ p c ∧ ∀ k d, k < i → cs[k]? = some d → ¬ p d := by
        apply Classical.byContradiction
        intro hn
        have all : ∀ n : Nat, ∀ k d, k < n → cs[k]? = some d → ¬ p d := by
          intro n
          induction n with
          | zero => intro k d hk; omega
          | succ n ih =>
            intro k d hk hd hp
            by_cases hkn : k < n
            · exact ih k d hkn hd hp
            · have : k = n := by omega
              subst this
              exact hn ⟨k, d, hd, hp, ih⟩
        obtain ⟨c, hc, hp⟩ := h
        obtain ⟨i, hi, e⟩ := List.getElem_of_mem hc
        exact all (i + 1) i c (by omega) (by rw [List.getElem?_eq_getElem hi, e]) hp
      obtain ⟨i, c, h1, h2, h3⟩ := this
      refine ⟨i, ⟨fun _ => h, fun _ => by omega⟩, fun i' c' h4 h5 h6 => ?_, fun h4 => absurd h2 (h4 i c h1)⟩
      rcases Nat.lt_trichotomy i i' with h7 | h7 | h7
      · exact absurd h2 (h6 i c h7 h1)
      · rw [h7]
      · exact absurd h5 (h3 i' c' h7 h4)
    · exact ⟨-1, ⟨fun h' => by omega, fun h' => absurd h' h⟩, fun i c h1 h2 _ => absurd ⟨c, List.mem_of_getElem? h1, h2⟩ h, fun _ => rfl⟩
  refine ⟨j, hj0, ?_⟩
  refine gives_code (f := tf56) rfl ?_
  have hlen : (cs.map C.row).length = cs.length := by simp
  conv => whnf
  refine loop_abs (S := fun i : Nat => S56 (.sl false lab 5 (cs.map C.row) sp) (.fn g []) (cs.map C.row).length i ob) (m := fun i => cs.length - i) (P := fun i => i ≤ cs.length ∧ ∀ k d, k < i → cs[k]? = some d → ¬ p d) ?_ 0 ⟨Nat.zero_le _, fun k s h => by omega⟩ rfl
  rintro R i ⟨hi, hP⟩ hN hE hR
  conv => whnf
  refine sel_split (fun h => ?_) (fun h => ?_)
  · conv => whnf
    have h := of_decide_eq_true h
    rw [hlen] at h
    obtain ⟨c, hc⟩ : ∃ c, cs[i]? = some c := ⟨_, List.getElem?_eq_getElem (show i < cs.length by omega)⟩
    refine ⟨_, ⟨by omega, idx_row hc⟩, ?_⟩
    conv => whnf
    obtain ⟨q, hq⟩ := boolOf (p c)
    refine ⟨_, _, hg c (List.mem_of_getElem? hc) ob _ q hq, fun _ => rfl, ?_⟩
    conv => whnf
    refine sel_split (fun h2 => ?_) (fun h2 => ?_)
    · conv => whnf
      refine hR _ ?_
      conv => whnf
      refine ⟨rfl, ?_, rfl⟩
      rw [hj1 i c hc (hq.1 h2) hP]; rfl
    · conv => whnf
      have e : IntKind.i64.wrap ((i : Int) + 1) = ((i + 1 : Nat) : Int) := by rw [wrap64] <;> omega
      refine hN (i + 1) _ ⟨by omega, fun k d hk hd => ?_⟩ (by omega) ?_
      · by_cases hki : k = i
        · subst hki; rw [hc] at hd; cases hd
          intro hp; rw [hq.2 hp] at h2; cases h2
        · exact hP k d (by omega) hd
      · rw [← e]; rfl
  · conv => whnf
    have h := of_decide_eq_false h
    rw [hlen] at h
    refine hE _ _ ?_
    conv => whnf
    refine ⟨rfl, ?_, rfl⟩
    rw [hj2 (fun k d hk => hP k d (by have := (List.getElem?_eq_some_iff.1 hk).1; omega) hk)]; rfl
theorem anyFn_ok (g lab : Nat) (cs : List C) (sp : List (List LV)) (p : C → Prop) (hl : cs.length ≤ 4611686018427387904) (hg : ∀ c ∈ cs, ∀ ob pb (r : Bool), (r = true ↔ p c) → Gives env1 g [c.lv] ob pb (.bool r, ob)) (ob : Obs) (pb : Nat) (r : Bool) (hr : r = true ↔ ∃ c ∈ cs, p c) :
    Gives env1 43 [.sl false lab 5 (cs.map C.row) sp, .fn g []] ob pb (.bool r, ob) := by
  obtain ⟨j, hj, hg⟩ := idxFn_ok g lab cs sp p hl hg ob (max pb ob.length)
  refine gives_code (f := tf43) rfl ?_
  conv => whnf
  refine ⟨_, _, hg, fun _ => rfl, ?_⟩
  conv => whnf
  refine ⟨rfl, ?_, rfl⟩
  refine bool_of hr ?_
  rw [← hj]; simp
/-- A term. -/
def RightP (cs : List C) : Prop := cs ≠ [] ∧ cs.length ≤ 256 ∧ endE cs 0 = cs.length ∧ ∀ c ∈ cs, okC c
theorem right_ok (lab : Nat) (cs : List C) (sp : List (List LV)) (hl : cs.length ≤ 4611686018427387904) (hf : ∀ c ∈ cs, c.fine) (ob : Obs) (pb : Nat) (r : Bool) (hr : r = true ↔ RightP cs) : Gives env1 30 [.sl false lab 5 (cs.map C.row) sp] ob pb (.bool r, ob) := by
  have hlen : (cs.map C.row).length = cs.length := by simp
  obtain ⟨q, hq⟩ := boolOf (∃ c ∈ cs, ¬ okC c)
  have no : ¬ RightP cs → LV.bool false = LV.bool r := fun h => bool_of hr ⟨fun e => (nomatch e), fun e => absurd e h⟩
  refine gives_code (f := tf30) rfl ?_
  conv => whnf
  refine sel_split (fun h1 => ?_) (fun h1 => ?_)
  · conv => whnf
    refine ⟨rfl, no (fun h => h.1 ?_), rfl⟩
    rw [hlen] at h1
    exact List.length_eq_zero_iff.1 (by simp at h1; simp [h1])
  · conv => whnf
    rw [hlen] at h1
    refine sel_split (fun h2 => ?_) (fun h2 => ?_)
    · conv => whnf
      rw [hlen] at h2
      have h2 := of_decide_eq_true h2
      exact ⟨rfl, no (fun h => by have := h.2.1; omega), rfl⟩
    · conv => whnf
      rw [hlen] at h2
      have h2 := of_decide_eq_false h2
      refine ⟨_, _, end_ok lab cs sp 0 hl ob _, fun _ => rfl, ?_⟩
      conv => whnf
      refine sel_split (fun h3 => ?_) (fun h3 => ?_)
      · conv => whnf
        rw [hlen] at h3
        exact ⟨rfl, no (fun h => by rw [h.2.2.1] at h3; simp at h3), rfl⟩
      · conv => whnf
        rw [hlen] at h3
        refine ⟨_, _, anyFn_ok 46 lab cs sp (fun c => ¬ okC c) hl (fun c hc ob pb r hr => right1_ok c (hf c hc) ob pb r hr) ob _ q hq, fun _ => rfl, ?_⟩
        conv => whnf
        refine ⟨rfl, ?_, rfl⟩
        refine bool_of hr ?_
        have hq' : (!q) = true ↔ ∀ c ∈ cs, okC c := by
          rw [Bool.not_eq_true', ← Bool.not_eq_true, hq]
          constructor
          · intro h c hc; exact Classical.byContradiction fun hn => h ⟨c, hc, hn⟩
          · rintro h ⟨c, hc, hn⟩; exact hn (h c hc)
        rw [hq']
        constructor
        · intro h
          exact ⟨fun e => by subst e; simp at h1, by omega, by simpa using h3, h⟩
        · intro h; exact h.2.2.2
end Tree

set_option autoImplicit false
set_option linter.unusedVariables false
set_option linter.unusedSimpArgs false
namespace Tree
open Go
set_option maxHeartbeats 4000000
set_option maxRecDepth 100000
end Tree

set_option autoImplicit false
set_option linter.unusedVariables false
set_option linter.unusedSimpArgs false
namespace Tree
open Go
set_option maxHeartbeats 4000000
set_option maxRecDepth 100000
end Tree
