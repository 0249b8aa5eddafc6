/- Layer 2: blanks and remarks, numbers. -/
import Derived.Test.YtlfifgganibjiaaDoorL2A
set_option autoImplicit false
set_option linter.unusedVariables false
set_option linter.unusedSimpArgs false
namespace Tree.X02
open Go
set_option maxHeartbeats 4000000
set_option maxRecDepth 100000
def blk (b : UInt8) : Bool := decide (b.toNat = 32 ∨ b.toNat = 9 ∨ b.toNat = 10 ∨ b.toNat = 13)
theorem blk_iff {b : UInt8} : blk b = true ↔ b.toNat = 32 ∨ b.toNat = 9 ∨ b.toNat = 10 ∨ b.toNat = 13 := by simp [blk]
/-- How many bytes are blanks and remarks (in: within a remark). -/
def skipS : Bool → List UInt8 → Nat
  | _, [] => 0
  | true, c :: r => if lne c then skipS true r + 1 else skipS false r + 1
  | false, c :: r => if blk c then skipS false r + 1 else if c.toNat = 37 then skipS true r + 1 else 0
def skipL (l : List UInt8) (i : Nat) : Nat := i + skipS false (l.drop i)
theorem skip_true : ∀ r : List UInt8, skipS true r = (r.takeWhile lne).length + skipS false (r.drop (r.takeWhile lne).length)
  | [] => rfl
  | c :: r => by
    rw [skipS, List.takeWhile_cons]
    by_cases h : lne c = true
    · rw [if_pos h, if_pos h, skip_true r, List.length_cons, List.drop_succ_cons]; omega
    · rw [if_neg h, if_neg h]
      have hc : c.toNat = 10 := by
        exact Decidable.byContradiction fun h' => h (lne_iff.2 h')
      simp only [List.length_nil, List.drop_zero, Nat.zero_add]
      rw [skipS, if_pos (blk_iff.2 (by omega))]
theorem drop_cons {l : List UInt8} {i : Nat} {b : UInt8} (h : l[i]? = some b) : l.drop i = b :: l.drop (i + 1) := by
  rw [List.drop_eq_getElem_cons (List.getElem?_eq_some_iff.1 h).1, (List.getElem?_eq_some_iff.1 h).2]
theorem skip_blank {l : List UInt8} {i : Nat} {b : UInt8} (h : l[i]? = some b) (hb : blk b = true) : skipL l i = skipL l (i + 1) := by
  unfold skipL; rw [drop_cons h, skipS, if_pos hb]; omega
theorem skip_rem {l : List UInt8} {i : Nat} {b : UInt8} (h : l[i]? = some b) (hb : b.toNat = 37) : skipL l i = skipL l (spanL lne l i) ∧ i < spanL lne l i := by
  have hn : blk b = false := by
    cases hq : blk b with
    | false => rfl
    | true => have := blk_iff.1 hq; omega
  have hl : lne b = true := lne_iff.2 (by omega)
  have e : spanL lne l i = (i + 1) + ((l.drop (i + 1)).takeWhile lne).length := by rw [span_step h hl]; rfl
  refine ⟨?_, by omega⟩
  rw [e]
  unfold skipL
  rw [drop_cons h, skipS, if_neg (by rw [hn]; simp), if_pos hb, skip_true, List.drop_drop]
  omega
theorem skip_stop {l : List UInt8} {i : Nat} (h : ∀ b, l[i]? = some b → blk b = false ∧ b.toNat ≠ 37) : skipL l i = i := by
  unfold skipL
  cases hb : l[i]? with
  | none => rw [List.drop_of_length_le (by rw [List.getElem?_eq_none_iff] at hb; exact hb)]; rfl
  | some b =>
    obtain ⟨h1, h2⟩ := h b hb
    rw [drop_cons hb, skipS, if_neg (by rw [h1]; simp), if_neg h2]; rfl
theorem skipS_le : ∀ (r : List UInt8) (q : Bool), skipS q r ≤ r.length
  | [], q => by cases q <;> simp [skipS]
  | c :: r, q => by
    have h1 := skipS_le r true
    have h2 := skipS_le r false
    cases q <;> simp only [skipS, List.length_cons] <;> (repeat' split) <;> omega
theorem skip_le {l : List UInt8} {i : Nat} (hi : i ≤ l.length) : i ≤ skipL l i ∧ skipL l i ≤ l.length := by
  have := skipS_le (l.drop i) false
  rw [List.length_drop] at this
  unfold skipL; omega
theorem skip_ok (s : ByteArray) (hs : s.size ≤ 4611686018427387904) (a : Nat) (ob : Obs) (pb : Nat) : Gives env2 347 [.str s, .int .i64 a] ob pb (.int .i64 (skipL s.data.toList a), ob) := by
  have hlen := len_eq s
  refine gives_code (f := tf347) rfl ?_
  conv => whnf
  refine loop_v (V := fun i : Nat => [(1, .int .i64 i)]) (O := fun _ => ob) (m := fun i => s.size - i) (P := fun i => skipL s.data.toList a = skipL s.data.toList i) ?_ a rfl rfl
  intro R i hi hN hE hR
  conv => whnf
  refine sel_split (fun h => ?_) (fun h => ?_)
  · conv => whnf
    have h := of_decide_eq_true h
    obtain ⟨b, hb⟩ : ∃ b, s.data.toList[i]? = some b := ⟨_, List.getElem?_eq_getElem (show i < s.data.toList.length by omega)⟩
    have e : IntKind.i64.wrap ((i : Int) + 1) = ((i + 1 : Nat) : Int) := by rw [wrap64] <;> omega
    have gS := fun ob pb => span_ok 367 lne lne_ok s hs i ob pb
    refine ⟨b, ⟨by omega, hb⟩, ?_⟩
    conv => whnf
    repeat' (refine sel_split (fun _ => ?_) (fun _ => ?_) <;> (conv => whnf))
    all_goals first
      | (refine hN (i + 1) _ (by rw [hi]; refine skip_blank hb (blk_iff.2 ?_); simp at *; omega) (by omega) ?_
         rw [← e]; rfl)
      | (refine ⟨_, _, gS _ _, fun _ => rfl, ?_⟩
         conv => whnf
         have h37 : b.toNat = 37 := by simp at *; omega
         obtain ⟨q1, q2⟩ := skip_rem hb h37
         have q3 := (span_le (p := lne) (l := s.data.toList) (i := i)).2 (by omega)
         refine hN (spanL lne s.data.toList i) _ (by rw [hi]; exact q1) (by omega) ?_
         rfl)
      | (refine hR _ ?_
         conv => whnf
         rw [hi, skip_stop (fun c hc => by
           rw [hb] at hc; cases hc
           have : ¬ (b.toNat = 32 ∨ b.toNat = 9 ∨ b.toNat = 10 ∨ b.toNat = 13) ∧ b.toNat ≠ 37 := by simp at *; omega
           refine ⟨?_, this.2⟩
           cases hq : blk b with
           | false => rfl
           | true => exact absurd (blk_iff.1 hq) this.1)]
         exact ⟨rfl, rfl, rfl⟩)
  · conv => whnf
    have h := of_decide_eq_false h
    refine hE _ _ ?_
    conv => whnf
    rw [hi, skip_stop (fun c hc => by have := (List.getElem?_eq_some_iff.1 hc).1; omega)]
    exact ⟨rfl, rfl, rfl⟩
end Tree.X02
