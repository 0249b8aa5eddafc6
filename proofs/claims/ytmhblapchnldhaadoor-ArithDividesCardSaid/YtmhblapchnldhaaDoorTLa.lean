/- Layer 1: IsName, what E answers. -/
import Derived.Test.YtmhblapchnldhaaDoorL1Env
import Derived.Laws.Strings
set_option autoImplicit false
set_option linter.unusedVariables false
set_option linter.unusedSimpArgs false
namespace Tree
open Go
set_option maxHeartbeats 4000000
set_option maxRecDepth 100000
def smallB (n : Nat) : Prop := 97 ≤ n ∧ n ≤ 122
def okB (j n : Nat) : Prop := smallB n ∨ (j ≠ 0 ∧ ((65 ≤ n ∧ n ≤ 90) ∨ (48 ≤ n ∧ n ≤ 57) ∨ n = 95))
def NameP (l : List UInt8) : Prop := l ≠ [] ∧ l.length ≤ 16 ∧ ∀ (j : Nat) (b : UInt8), l[j]? = some b → okB j b.toNat
def S1 (s : ByteArray) (ob : Obs) (x : Int) : WSt := ⟨.val (.str s) :: (List.replicate 6 (.val .undef)) ++ .val (.int .i64 s.size) :: .val (.int .i64 x) :: List.replicate 45 (.val .undef), ob, []⟩
theorem strList (s : ByteArray) : s.toList = s.data.toList := by
  exact Go.ByteArray.toList_eq s
theorem strNil {s : ByteArray} (h : s.data.toList = []) : s.toList = [] := by rw [strList, h]
theorem isName_ok (s : ByteArray) (hs : s.size ≤ maxLen) (ob : Obs) (pb : Nat) (r : Bool) (hr : r = true ↔ NameP s.data.toList) : Gives env1 1 [.str s] ob pb (.bool r, ob) := by
  refine gives_code (f := tf1) rfl ?_
  conv => whnf
  refine loop_rule (S := fun i : Nat => S1 s ob i) (m := fun i => s.size - i) (P := fun i => i ≤ s.size ∧ ∀ (j : Nat) (b : UInt8), j < i → s.data.toList[j]? = some b → okB j b.toNat) ?_ 0 ⟨Nat.zero_le _, fun j b h => by omega⟩ rfl
  rintro i ⟨hi, hP⟩
  conv => whnf
  refine sel_split (fun h => ?_) (fun h => ?_)
  · conv => whnf
    have hlt : i < s.size := by simpa using h
    have hb : s.data.toList[i]? = some (s.data.toList[i]'(by simpa using hlt)) := List.getElem?_eq_getElem _
    generalize (s.data.toList[i]'(by simpa using hlt)) = b at hb
    refine ⟨b, ⟨by omega, by simpa using hb⟩, ?_⟩
    conv => whnf
    repeat' (refine sel_split (fun _ => ?_) (fun _ => ?_) <;> (conv => whnf))
    all_goals first
      | (have key : okB i b.toNat := by
           clear hr hP hb
           unfold okB smallB
           simp at *
           omega
         refine ⟨i + 1, ⟨by omega, fun j b' hj hb' => ?_⟩, by omega, ?_⟩
         · by_cases hji : j = i
           · subst hji
             rw [hb] at hb'
             cases hb'
             exact key
           · exact hP j b' (by omega) hb'
         · have e : IntKind.i64.wrap ((i : Int) + 1) = ((i + 1 : Nat) : Int) := by
             unfold maxLen at hs
             rw [wrap64] <;> omega
           rw [← e]
           rfl)
      | (have key : ¬ okB i b.toNat := by
           clear hr hP hb
           unfold okB smallB
           simp at *
           omega
         refine ⟨rfl, ?_, rfl⟩
         cases r with
         | false => rfl
         | true => exact absurd ((hr.1 rfl).2.2 i b hb) key)
  · conv => whnf
    have hlt : i = s.size := by simp at h; omega
    subst hlt
    have hall : ∀ (j : Nat) (b : UInt8), s.data.toList[j]? = some b → okB j b.toNat := by
      intro j b hb
      refine hP j b ?_ hb
      have := (List.getElem?_eq_some_iff.1 hb).1
      simpa using this
    repeat' (refine sel_split (fun _ => ?_) (fun _ => ?_) <;> (conv => whnf))
    · rename_i hne
      refine ⟨rfl, ?_, rfl⟩
      show LV.bool _ = LV.bool r
      congr 1
      rw [Bool.eq_iff_iff, hr]
      have hl : s.data.toList.length = s.size := by simp
      simp only [decide_eq_true_eq, NameP, hl]
      constructor
      · intro h16
        exact ⟨fun hn => by simp [strNil hn] at hne, by omega, hall⟩
      · intro hn; omega
    · rename_i hne
      refine ⟨rfl, ?_, rfl⟩
      cases r with
      | false => rfl
      | true =>
        refine absurd ?_ (hr.1 rfl).1
        simpa [strList] using hne
def S4 (s : ByteArray) (ob : Obs) (a b c : Bool) (x : Int) : WSt := ⟨.val (.str s) :: .val .undef :: .val .undef :: .val (.int .i64 x) :: List.replicate 55 (.val .undef), ob, []⟩
theorem refIsName_ok (s : ByteArray) (hs : s.size ≤ maxLen) (ob : Obs) (pb : Nat) (r : Bool) (hr : r = true ↔ NameP s.data.toList) : Gives env1 4 [.str s] ob pb (.bool r, ob) := by
  have hl : s.data.toList.length = s.size := by simp
  refine gives_code (f := tf4) rfl ?_
  conv => whnf
  refine sel_split (fun h1 => ?_) (fun h1 => ?_)
  · conv => whnf
    refine ⟨rfl, ?_, rfl⟩
    cases r with
    | false => rfl
    | true =>
      refine absurd (hr.1 rfl).1 (fun hn => hn ?_)
      rw [← List.length_eq_zero_iff]
      have h1' := of_decide_eq_true h1; rw [hl]; omega
  · conv => whnf
    refine sel_split (fun h2 => ?_) (fun h2 => ?_)
    · conv => whnf
      refine ⟨rfl, ?_, rfl⟩
      cases r with
      | false => rfl
      | true =>
        have := (hr.1 rfl).2.1
        rw [hl] at this
        have h2' := of_decide_eq_true h2; exfalso; omega
    · conv => whnf
      have h0 : 0 < s.size := by have h1' := of_decide_eq_false h1; omega
      have hb : s.data.toList[0]? = some (s.data.toList[0]'(by simpa using h0)) := List.getElem?_eq_getElem _
      generalize (s.data.toList[0]'(by simpa using h0)) = b at hb
      refine ⟨b, ⟨by omega, by simpa using hb⟩, ?_⟩
      conv => whnf
      refine sel_split (fun h3 => ?_) (fun h3 => ?_)
      · conv => whnf
        refine ⟨rfl, ?_, rfl⟩
        cases r with
        | false => rfl
        | true =>
          have := (hr.1 rfl).2.2 0 b hb
          unfold okB smallB at this
          simp at h3 this; omega
      · conv => whnf
        refine ⟨b, ⟨by omega, by simpa using hb⟩, ?_⟩
        conv => whnf
        refine sel_split (fun h4 => ?_) (fun h4 => ?_)
        · conv => whnf
          refine ⟨rfl, ?_, rfl⟩
          cases r with
          | false => rfl
          | true =>
            have := (hr.1 rfl).2.2 0 b hb
            unfold okB smallB at this
            simp at h4 this; omega
        · conv => whnf
          refine loop_rule (S := fun i : Nat => S4 s ob true true true i) (m := fun i => s.size - i) (P := fun i => i ≤ s.size ∧ ∀ (j : Nat) (b : UInt8), j < i → s.data.toList[j]? = some b → okB j b.toNat) ?_ 0 ⟨Nat.zero_le _, fun j b h => by omega⟩ rfl
          rintro i ⟨hi, hP⟩
          conv => whnf
          refine sel_split (fun h => ?_) (fun h => ?_)
          · conv => whnf
            have hlt : i < s.size := by simpa using h
            have hc : s.data.toList[i]? = some (s.data.toList[i]'(by simpa using hlt)) := List.getElem?_eq_getElem _
            generalize (s.data.toList[i]'(by simpa using hlt)) = c at hc
            refine ⟨c, ⟨by omega, by simpa using hc⟩, ?_⟩
            conv => whnf
            repeat' (refine sel_split (fun _ => ?_) (fun _ => ?_) <;> (conv => whnf))
            all_goals first
              | (have key : okB i c.toNat := by
                   by_cases h0 : i = 0
                   · subst h0
                     rw [hb] at hc; cases hc
                     unfold okB smallB
                     simp at h3 h4
                     omega
                   · clear hr hP hb hc
                     unfold okB smallB
                     simp at *
                     omega
                 refine ⟨i + 1, ⟨by omega, fun j b' hj hb' => ?_⟩, by omega, ?_⟩
                 · by_cases hji : j = i
                   · subst hji
                     rw [hc] at hb'
                     cases hb'
                     exact key
                   · exact hP j b' (by omega) hb'
                 · have e : IntKind.i64.wrap ((i : Int) + 1) = ((i + 1 : Nat) : Int) := by
                     unfold maxLen at hs
                     rw [wrap64] <;> omega
                   rw [← e]
                   rfl)
              | (have key : ¬ okB i c.toNat := by
                   clear hr hP hb hc
                   unfold okB smallB
                   simp at *
                   omega
                 refine ⟨rfl, ?_, rfl⟩
                 cases r with
                 | false => rfl
                 | true => exact absurd ((hr.1 rfl).2.2 i c hc) key)
          · conv => whnf
            have hlt : i = s.size := by simp at h; omega
            subst hlt
            have hall : ∀ (j : Nat) (b : UInt8), s.data.toList[j]? = some b → okB j b.toNat := by
              intro j b hb
              refine hP j b ?_ hb
              have := (List.getElem?_eq_some_iff.1 hb).1
              simpa using this
            refine ⟨rfl, ?_, rfl⟩
            have : r = true := by
              rw [hr]
              refine ⟨fun hn => ?_, ?_, hall⟩
              · rw [hn] at hl; simp at hl; omega
              · simp at h2; omega
            rw [this]; rfl
end Tree

set_option autoImplicit false
set_option linter.unusedVariables false
set_option linter.unusedSimpArgs false
namespace Tree
open Go
set_option maxHeartbeats 4000000
set_option maxRecDepth 100000
structure C where
  k : Int
  text : ByteArray
  n : Int
  node : Int
  num : Int
def C.row (c : C) : List LV := [.int .u8 c.k, .str c.text, .int .i64 c.n, .int .i64 c.node, .int .i64 c.num]
def C.lv (c : C) : LV := .agg c.row
abbrev w64 (x : Int) : Int := IntKind.i64.wrap x
def partsC (c : C) : Int := if c.k = 3 then (if c.n < 0 then 0 else c.n) else 0
def scanE (L : Nat) : List C → Int → Nat → Int
  | [], o, p => if o ≤ 0 then p else 0
  | c :: r, o, p => if o ≤ 0 then p else if partsC c > L then 0 else scanE L r (w64 (o + w64 (partsC c - 1))) (p + 1)
def endE (cs : List C) (i : Int) : Int := if i < 0 ∨ i ≥ cs.length then 0 else scanE cs.length (cs.drop i.toNat) 1 i.toNat
theorem parts_ok (c : C) (ob : Obs) (pb : Nat) : Gives env1 47 [c.lv] ob pb (.int .i64 (partsC c), ob) := by
  refine gives_code (f := tf47) rfl ?_
  conv => whnf
  refine sel_split (fun h => ?_) (fun h => ?_)
  · conv => whnf
    have h : c.k ≠ 3 := by simpa using h
    refine ⟨rfl, ?_, rfl⟩
    simp [partsC, h, tupE]
  · conv => whnf
    have h : c.k = 3 := by simpa using h
    refine ⟨rfl, ?_, rfl⟩
    simp [partsC, h, tupE]
theorem idx_row {cs : List C} {i : Nat} {c : C} (h : cs[i]? = some c) : (cs.map C.row)[i]? = some [.int .u8 c.k, .str c.text, .int .i64 c.n, .int .i64 c.node, .int .i64 c.num] := by
  rw [List.getElem?_map, h]; rfl
theorem drop_at {α : Type} {l : List α} {i : Nat} {c : α} (h : l[i]? = some c) : l.drop i = c :: l.drop (i + 1) := by
  obtain ⟨h1, h2⟩ := List.getElem?_eq_some_iff.1 h
  rw [List.drop_eq_getElem_cons h1, h2]
def S31 (v : LV) (at_ op : Int) (ob : Obs) : WSt := ⟨.val v :: .val (.int .i64 at_) :: .val .undef :: .val .undef :: .val .undef :: .val (.int .i64 op) :: List.replicate 35 (.val .undef), ob, []⟩
theorem end_ok (lab : Nat) (cs : List C) (sp : List (List LV)) (i : Int) (hl : cs.length ≤ 4611686018427387904) (ob : Obs) (pb : Nat) : Gives env1 31 [.sl false lab 5 (cs.map C.row) sp, .int .i64 i] ob pb (.int .i64 (endE cs i), ob) := by
  refine gives_code (f := tf31) rfl ?_
  conv => whnf
  have hlen : (cs.map C.row).length = cs.length := by simp
  refine sel_split (fun h => ?_) (fun h => ?_)
  · conv => whnf
    have h : i < 0 := by simpa using h
    refine ⟨rfl, ?_, rfl⟩
    simp [endE, h, tupE]
  · conv => whnf
    have h : ¬ i < 0 := by simpa using h
    refine sel_split (fun h2 => ?_) (fun h2 => ?_)
    · conv => whnf
      have h2 := of_decide_eq_true h2
      rw [hlen] at h2
      refine ⟨rfl, ?_, rfl⟩
      simp [endE, h2, tupE]
    · conv => whnf
      have h2 := of_decide_eq_false h2
      rw [hlen] at h2
      have hend : endE cs i = scanE cs.length (cs.drop i.toNat) 1 i.toNat := by
        unfold endE; rw [if_neg (by omega)]
      refine loop_abs (ι := Nat × Int) (S := fun p => S31 (.sl false lab 5 (cs.map C.row) sp) p.1 p.2 ob) (m := fun p => cs.length - p.1) (P := fun p => p.1 ≤ cs.length ∧ endE cs i = scanE cs.length (cs.drop p.1) p.2 p.1) ?_ (i.toNat, 1) ⟨by omega, hend⟩ (by
        show _ = S31 _ ((i.toNat : Nat) : Int) 1 ob
        rw [Int.toNat_of_nonneg (by omega)]; rfl)
      rintro R ⟨a, o⟩ ⟨ha, hP⟩ hN hE hR
      simp only at ha hP
      conv => whnf
      refine sel_split (fun h3 => ?_) (fun h3 => ?_)
      · conv => whnf
        have h3 := of_decide_eq_true h3
        refine sel_split (fun h4 => ?_) (fun h4 => ?_)
        · conv => whnf
          rw [hlen] at h4
          have h4 : a = cs.length := by simp at h4; omega
          refine hR _ ?_
          conv => whnf
          refine ⟨rfl, ?_, rfl⟩
          rw [hP]
          subst h4
          have : ¬ o ≤ 0 := by omega
          simp [scanE, this, tupE]
        · conv => whnf
          rw [hlen] at h4
          have h4 : a ≠ cs.length := by intro e; subst e; simp at h4
          obtain ⟨c, hc⟩ : ∃ c, cs[a]? = some c := ⟨_, List.getElem?_eq_getElem (show a < cs.length by omega)⟩
          refine ⟨_, ⟨by omega, idx_row hc⟩, ?_⟩
          conv => whnf
          refine ⟨_, _, parts_ok c ob _, fun _ => rfl, ?_⟩
          conv => whnf
          rw [drop_at hc] at hP
          refine sel_split (fun h5 => ?_) (fun h5 => ?_)
          · conv => whnf
            have h5 := of_decide_eq_true h5
            rw [hlen] at h5
            refine hR _ ?_
            conv => whnf
            refine ⟨rfl, ?_, rfl⟩
            have : ¬ o ≤ 0 := by omega
            rw [hP]
            simp only [scanE, if_neg this, if_pos h5]; rfl
          · conv => whnf
            have h5 := of_decide_eq_false h5
            rw [hlen] at h5
            refine ⟨_, ⟨by omega, idx_row hc⟩, ?_⟩
            conv => whnf
            refine ⟨_, _, parts_ok c ob _, fun _ => rfl, ?_⟩
            conv => whnf
            have e : w64 ((a : Int) + 1) = ((a + 1 : Nat) : Int) := by
              unfold w64; rw [wrap64] <;> omega
            have : ¬ o ≤ 0 := by omega
            refine hN (a + 1, w64 (o + w64 (partsC c - 1))) _ ⟨by show a + 1 ≤ _; omega, ?_⟩ (by show cs.length - (a + 1) < _; omega) ?_
            · simp only [scanE, if_neg this, if_neg h5] at hP
              exact hP
            · show _ = S31 _ ((a + 1 : Nat) : Int) _ ob
              rw [← e]
              rfl
      · conv => whnf
        have h3 := of_decide_eq_false h3
        refine hE _ _ ?_
        conv => whnf
        refine ⟨rfl, ?_, rfl⟩
        rw [hP]
        have h3' : o ≤ 0 := by omega
        cases hd : cs.drop a with
        | nil => simp [scanE, h3', tupE]
        | cons c r => simp [scanE, h3', tupE]
end Tree

set_option autoImplicit false
set_option linter.unusedVariables false
set_option linter.unusedSimpArgs false
namespace Tree
open Go
set_option maxHeartbeats 4000000
set_option maxRecDepth 100000
theorem bool_of {a r : Bool} {P : Prop} (hr : r = true ↔ P) (h : a = true ↔ P) : LV.bool a = LV.bool r := by
  congr 1; rw [Bool.eq_iff_iff, h, hr]
theorem bytes_eq {a b : ByteArray} : a.toList = b.toList ↔ a = b := by
  rw [strList, strList]
  constructor
  · intro h; obtain ⟨⟨l⟩⟩ := a; obtain ⟨⟨m⟩⟩ := b; simp at h; subst h; rfl
  · intro h; rw [h]
theorem C.ext_iff' {c d : C} : c = d ↔ c.k = d.k ∧ c.text = d.text ∧ c.n = d.n ∧ c.node = d.node ∧ c.num = d.num := by
  cases c; cases d; simp
theorem only_ok (c d : C) (ob : Obs) (pb : Nat) (r : Bool) (hr : r = true ↔ c = d) : Gives env1 57 [c.lv, d.lv] ob pb (.bool r, ob) := by
  refine gives_code (f := tf57) rfl ?_
  conv => whnf
  refine ⟨rfl, ?_, rfl⟩
  refine bool_of hr ?_
  simp [C.ext_iff', bytes_eq]
def sgn : List (List UInt8) := [[61],[58,61],[64],[43],[45],[42],[60],[61,60],[62],[62,61],[61,58,61],[61,92,61]]
def SignP (s : ByteArray) : Prop := s.data.toList ∈ sgn
def zeroVar (c : C) : Prop := c.node = 0 ∧ c.num = 0
def emptyS : ByteArray := ⟨#[]⟩
/-- A cell that is whole in itself. -/
def okC (c : C) : Prop :=
  (c.k = 1 ∧ c.text = emptyS ∧ zeroVar c ∧ -2147483648 ≤ c.n ∧ c.n ≤ 2147483648) ∨
  (c.k = 2 ∧ NameP c.text.data.toList ∧ zeroVar c ∧ c.n = 0) ∨
  (c.k = 3 ∧ zeroVar c ∧ (NameP c.text.data.toList ∧ 1 ≤ c.n ∧ c.n ≤ 8 ∨ SignP c.text ∧ c.n = 2)) ∨
  (c.k = 4 ∧ c.text = emptyS ∧ c.n = 0 ∧ -1 ≤ c.node ∧ c.node < 4 ∧ 0 ≤ c.num)
theorem boolOf (P : Prop) : ∃ r : Bool, r = true ↔ P := ⟨@decide P (Classical.propDecidable _), @decide_eq_true_iff _ (Classical.propDecidable _)⟩
theorem rule1_ok (c : C) (ob : Obs) (pb : Nat) (r : Bool) (hk : c.k = 1) (hr : r = true ↔ okC c) : Gives env1 48 [c.lv] ob pb (.bool r, ob) := by
  obtain ⟨q, hq⟩ := boolOf (c = ⟨1, emptyS, c.n, 0, 0⟩)
  have he : c = ⟨1, emptyS, c.n, 0, 0⟩ ↔ c.text = emptyS ∧ zeroVar c := by simp [C.ext_iff', zeroVar, hk]
  have hok : okC c ↔ c.text = emptyS ∧ zeroVar c ∧ -2147483648 ≤ c.n ∧ c.n ≤ 2147483648 := by simp [okC, hk]
  refine gives_code (f := tf48) rfl ?_
  conv => whnf
  refine sel_split (fun h => ?_) (fun h => ?_)
  · conv => whnf
    refine sel_split (fun h2 => ?_) (fun h2 => ?_)
    · conv => whnf
      refine ⟨_, _, only_ok c ⟨1, emptyS, c.n, 0, 0⟩ ob _ q hq, fun _ => rfl, ?_⟩
      conv => whnf
      refine ⟨rfl, ?_, rfl⟩
      refine bool_of hr ?_
      rw [hq, he, hok]
      simp at h h2
      constructor
      · rintro ⟨a, b⟩; exact ⟨a, b, by omega, by omega⟩
      · rintro ⟨a, b, _⟩; exact ⟨a, b⟩
    · conv => whnf
      refine ⟨rfl, ?_, rfl⟩
      refine bool_of hr ?_
      rw [hok]
      simp at h2
      constructor
      · intro e; cases e
      · rintro ⟨_, _, _, e⟩; omega
  · conv => whnf
    refine ⟨rfl, ?_, rfl⟩
    refine bool_of hr ?_
    rw [hok]
    simp at h
    constructor
    · intro e; cases e
    · rintro ⟨_, _, e, _⟩; omega
theorem rule2_ok (c : C) (ob : Obs) (pb : Nat) (r : Bool) (hk : c.k = 2) (hs : c.text.size ≤ maxLen) (hr : r = true ↔ okC c) : Gives env1 49 [c.lv] ob pb (.bool r, ob) := by
  obtain ⟨q, hq⟩ := boolOf (c = ⟨2, c.text, 0, 0, 0⟩)
  obtain ⟨p, hp⟩ := boolOf (NameP c.text.data.toList)
  have he : c = ⟨2, c.text, 0, 0, 0⟩ ↔ c.n = 0 ∧ zeroVar c := by simp [C.ext_iff', zeroVar, hk]
  have hok : okC c ↔ NameP c.text.data.toList ∧ zeroVar c ∧ c.n = 0 := by simp [okC, hk]
  refine gives_code (f := tf49) rfl ?_
  conv => whnf
  refine ⟨_, _, isName_ok c.text hs ob _ p hp, fun _ => rfl, ?_⟩
  conv => whnf
  refine sel_split (fun h => ?_) (fun h => ?_)
  · conv => whnf
    refine ⟨_, _, only_ok c ⟨2, c.text, 0, 0, 0⟩ ob _ q hq, fun _ => rfl, ?_⟩
    conv => whnf
    refine ⟨rfl, ?_, rfl⟩
    refine bool_of hr ?_
    rw [hq, he, hok, ← hp]
    simp [h]; exact And.comm
  · conv => whnf
    refine ⟨rfl, ?_, rfl⟩
    refine bool_of hr ?_
    rw [hok, ← hp]
    simp [h]
theorem rule4_ok (c : C) (ob : Obs) (pb : Nat) (r : Bool) (hk : c.k = 4) (hr : r = true ↔ okC c) : Gives env1 51 [c.lv] ob pb (.bool r, ob) := by
  obtain ⟨q, hq⟩ := boolOf (c = ⟨4, emptyS, 0, c.node, c.num⟩)
  have he : c = ⟨4, emptyS, 0, c.node, c.num⟩ ↔ c.text = emptyS ∧ c.n = 0 := by simp [C.ext_iff', hk]
  have hok : okC c ↔ c.text = emptyS ∧ c.n = 0 ∧ -1 ≤ c.node ∧ c.node < 4 ∧ 0 ≤ c.num := by simp [okC, hk]
  refine gives_code (f := tf51) rfl ?_
  conv => whnf
  refine sel_split (fun h => ?_) (fun h => ?_)
  · conv => whnf
    refine sel_split (fun h2 => ?_) (fun h2 => ?_)
    · conv => whnf
      refine sel_split (fun h3 => ?_) (fun h3 => ?_)
      · conv => whnf
        refine ⟨_, _, only_ok c ⟨4, emptyS, 0, c.node, c.num⟩ ob _ q hq, fun _ => rfl, ?_⟩
        conv => whnf
        refine ⟨rfl, ?_, rfl⟩
        refine bool_of hr ?_
        rw [hq, he, hok]
        simp at h h2 h3
        constructor
        · rintro ⟨a, b⟩; exact ⟨a, b, by omega, by omega, by omega⟩
        · rintro ⟨a, b, _⟩; exact ⟨a, b⟩
      · conv => whnf
        refine ⟨rfl, ?_, rfl⟩
        refine bool_of hr ?_
        rw [hok]
        simp at h3
        constructor
        · intro e; cases e
        · rintro ⟨_, _, _, _, e⟩; omega
    · conv => whnf
      refine ⟨rfl, ?_, rfl⟩
      refine bool_of hr ?_
      rw [hok]
      simp at h2
      constructor
      · intro e; cases e
      · rintro ⟨_, _, _, e, _⟩; omega
  · conv => whnf
    refine ⟨rfl, ?_, rfl⟩
    refine bool_of hr ?_
    rw [hok]
    simp at h
    constructor
    · intro e; cases e
    · rintro ⟨_, _, e, _⟩; omega
end Tree
