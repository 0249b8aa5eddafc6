/- Layer 1: IsName, what E answers. -/
import Derived.Test.YtpjoppajohmmnaaDoorL1Env
import Derived.Laws.Strings
set_option autoImplicit false
set_option linter.unusedVariables false
set_option linter.unusedSimpArgs false
namespace Tree
open Go
set_option maxHeartbeats 4000000
set_option maxRecDepth 100000
def smallB (n : Nat) : Prop := 97 ≤ n ∧ n ≤ 122
def okB (j n : Nat) : Prop := smallB n ∨ (j ≠ 0 ∧ ((65 ≤ n ∧ n ≤ 90) ∨ (48 ≤ n ∧ n ≤ 57) ∨ n = 95))
def NameP (l : List UInt8) : Prop := l ≠ [] ∧ l.length ≤ 16 ∧ ∀ (j : Nat) (b : UInt8), l[j]? = some b → okB j b.toNat
def S1 (s : ByteArray) (ob : Obs) (x : Int) : WSt := ⟨.val (.str s) :: (List.replicate 6 (.val .undef)) ++ .val (.int .i64 s.size) :: .val (.int .i64 x) :: List.replicate 45 (.val .undef), ob, []⟩
theorem strList (s : ByteArray) : s.toList = s.data.toList := by
  exact Go.ByteArray.toList_eq s
theorem strNil {s : ByteArray} (h : s.data.toList = []) : s.toList = [] := by rw [strList, h]
theorem isName_ok (s : ByteArray) (hs : s.size ≤ maxLen) (ob : Obs) (pb : Nat) (r : Bool) (hr : r = true ↔ NameP s.data.toList) : Gives env1 1 [.str s] ob pb (.bool r, ob) := by
  refine gives_code (f := tf1) rfl ?_
  conv => whnf
  refine loop_rule (S := fun i : Nat => S1 s ob i) (m := fun i => s.size - i) (P := fun i => i ≤ s.size ∧ ∀ (j : Nat) (b : UInt8), j < i → s.data.toList[j]? = some b → okB j b.toNat) ?_ 0 ⟨Nat.zero_le _, fun j b h => by omega⟩ rfl
  rintro i ⟨hi, hP⟩
  conv => whnf
  refine sel_split (fun h => ?_) (fun h => ?_)
  · conv => whnf
    have hlt : i < s.size := by simpa using h
    have hb : s.data.toList[i]? = some (s.data.toList[i]'(by simpa using hlt)) := List.getElem?_eq_getElem _
    generalize (s.data.toList[i]'(by simpa using hlt)) = b at hb
    refine ⟨b, ⟨by omega, by simpa using hb⟩, ?_⟩
    conv => whnf
    repeat' (refine sel_split (fun _ => ?_) (fun _ => ?_) <;> (conv => whnf))
    all_goals first
      | (have key : okB i b.toNat := by
           clear hr hP hb
           unfold okB smallB
           simp at *
           omega
         refine ⟨i + 1, ⟨by omega, fun j b' hj hb' => ?_⟩, by omega, ?_⟩
         · by_cases hji : j = i
           · subst hji
             rw [hb] at hb'
             cases hb'
             exact key
           · exact hP j b' (by omega) hb'
         · have e : IntKind.i64.wrap ((i : Int) + 1) = ((i + 1 : Nat) : Int) := by
             unfold maxLen at hs
             rw [wrap64] <;> omega
           rw [← e]
           rfl)
      | (have key : ¬ okB i b.toNat := by
           clear hr hP hb
           unfold okB smallB
           simp at *
           omega
         refine ⟨rfl, ?_, rfl⟩
         cases r with
         | false => rfl
         | true => exact absurd ((hr.1 rfl).2.2 i b hb) key)
  · conv => whnf
    have hlt : i = s.size := by simp at h; omega
    subst hlt
    have hall : ∀ (j : Nat) (b : UInt8), s.data.toList[j]? = some b → okB j b.toNat := by
      intro j b hb
      refine hP j b ?_ hb
      have := (List.getElem?_eq_some_iff.1 hb).1
      simpa using this
    repeat' (refine sel_split (fun _ => ?_) (fun _ => ?_) <;> (conv => whnf))
    · rename_i hne
      refine ⟨rfl, ?_, rfl⟩
      show LV.bool _ = LV.bool r
      congr 1
      rw [Bool.eq_iff_iff, hr]
      have hl : s.data.toList.length = s.size := by simp
      simp only [decide_eq_true_eq, NameP, hl]
      constructor
      · intro h16
        exact ⟨fun hn => by simp [strNil hn] at hne, by omega, hall⟩
      · intro hn; omega
    · rename_i hne
      refine ⟨rfl, ?_, rfl⟩
      cases r with
      | false => rfl
      | true =>
        refine absurd ?_ (hr.1 rfl).1
        simpa [strList] using hne
def S4 (s : ByteArray) (ob : Obs) (a b c : Bool) (x : Int) : WSt := ⟨.val (.str s) :: .val .undef :: .val .undef :: .val (.int .i64 x) :: List.replicate 55 (.val .undef), ob, []⟩
theorem refIsName_ok (s : ByteArray) (hs : s.size ≤ maxLen) (ob : Obs) (pb : Nat) (r : Bool) (hr : r = true ↔ NameP s.data.toList) : Gives env1 4 [.str s] ob pb (.bool r, ob) := by
  have hl : s.data.toList.length = s.size := by simp
  refine gives_code (f := tf4) rfl ?_
  conv => whnf
  refine sel_split (fun h1 => ?_) (fun h1 => ?_)
  · conv => whnf
    refine ⟨rfl, ?_, rfl⟩
    cases r with
    | false => rfl
    | true =>
      refine absurd (hr.1 rfl).1 (fun hn => hn ?_)
      rw [← List.length_eq_zero_iff]
      have h1' := of_decide_eq_true h1; rw [hl]; omega
  · conv => whnf
    refine sel_split (fun h2 => ?_) (fun h2 => ?_)
    · conv => whnf
      refine ⟨rfl, ?_, rfl⟩
      cases r with
      | false => rfl
      | true =>
        have := (hr.1 rfl).2.1
        rw [hl] at this
        have h2' := of_decide_eq_true h2; exfalso; omega
    · conv => whnf
      have h0 : 0 < s.size := by have h1' := of_decide_eq_false h1; omega
      have hb : s.data.toList[0]? = some (s.data.toList[0]'(by simpa using h0)) := List.getElem?_eq_getElem _
      generalize (s.data.toList[0]'(by simpa using h0)) = b at hb
      refine ⟨b, ⟨by omega, by simpa using hb⟩, ?_⟩
      conv => whnf
      refine sel_split (fun h3 => ?_) (fun h3 => ?_)
      · conv => whnf
        refine ⟨rfl, ?_, rfl⟩
        cases r with
        | false => rfl
        | true =>
          have := (hr.1 rfl).2.2 0 b hb
          unfold okB smallB at this
          simp at h3 this; omega
      · conv => whnf
        refine ⟨b, ⟨by omega, by simpa using hb⟩, ?_⟩
        conv => whnf
        refine sel_split (fun h4 => ?_) (fun h4 => ?_)
        · conv => whnf
          refine ⟨rfl, ?_, rfl⟩
          cases r with
          | false => rfl
          | true =>
            have := (hr.1 rfl).2.2 0 b hb
            unfold okB smallB at this
            simp at h4 this; omega
        · conv => whnf
          refine loop_rule (S := fun i : Nat => S4 s ob true true true i) (m := fun i => s.size - i) (P := fun i => i ≤ s.size ∧ ∀ (j : Nat) (b : UInt8), j < i → s.data.toList[j]? = some b → okB j b.toNat) ?_ 0 ⟨Nat.zero_le _, fun j b h => by omega⟩ rfl
          rintro i ⟨hi, hP⟩
          conv => whnf
          refine sel_split (fun h => ?_) (fun h => ?_)
          · conv => whnf
            have hlt : i < s.size := by simpa using h
            have hc : s.data.toList[i]? = some (s.data.toList[i]'(by simpa using hlt)) := List.getElem?_eq_getElem _
            generalize (s.data.toList[i]'(by simpa using hlt)) = c at hc
            refine ⟨c, ⟨by omega, by simpa using hc⟩, ?_⟩
            conv => whnf
            repeat' (refine sel_split (fun _ => ?_) (fun _ => ?_) <;> (conv => whnf))
            all_goals first
              | (have key : okB i c.toNat := by
                   by_cases h0 : i = 0
                   · subst h0
                     rw [hb] at hc; cases hc
                     unfold okB smallB
                     simp at h3 h4
                     omega
                   · clear hr hP hb hc
                     unfold okB smallB
                     simp at *
                     omega
                 refine ⟨i + 1, ⟨by omega, fun j b' hj hb' => ?_⟩, by omega, ?_⟩
                 · by_cases hji : j = i
                   · subst hji
                     rw [hc] at hb'
                     cases hb'
                     exact key
                   · exact hP j b' (by omega) hb'
                 · have e : IntKind.i64.wrap ((i : Int) + 1) = ((i + 1 : Nat) : Int) := by
                     unfold maxLen at hs
                     rw [wrap64] <;> omega
                   rw [← e]
                   rfl)
              | (have key : ¬ okB i c.toNat := by
                   clear hr hP hb hc
                   unfold okB smallB
                   simp at *
                   omega
                 refine ⟨rfl, ?_, rfl⟩
                 cases r with
                 | false => rfl
                 | true => exact absurd ((hr.1 rfl).2.2 i c hc) key)
          · conv => whnf
            have hlt : i = s.size := by simp at h; omega
            subst hlt
            have hall : ∀ (j : Nat) (b : UInt8), s.data.toList[j]? = some b → okB j b.toNat := by
              intro j b hb
              refine hP j b ?_ hb
              have := (List.getElem?_eq_some_iff.1 hb).1
              simpa using this
            refine ⟨rfl, ?_, rfl⟩
            have : r = true := by
              rw [hr]
              refine ⟨fun hn => ?_, ?_, hall⟩
              · rw [hn] at hl; simp at hl; omega
              · simp at h2; omega
            rw [this]; rfl
end Tree
