/- Records, one behind the other, and where a cut leaves them. -/
import Derived.Test.YtogeefachdlkiaaLJ1
set_option autoImplicit false
set_option linter.unusedVariables false
set_option linter.unusedSimpArgs false
namespace Tree.J14
open Go
def sumStep (s c : Int) : Int := IntKind.u32.wrap (IntKind.u32.wrap ((BitVec.ofInt IntKind.u32.bits s ^^^ BitVec.ofInt IntKind.u32.bits (IntKind.u32.wrap c)).toNat : Int) * 16777619)
def sumV (p : List Int) : Int := p.foldl sumStep 2166136261
theorem sumV_range (p : List Int) : 0 ≤ sumV p ∧ sumV p < 4294967296 := by
  have key : ∀ (l : List Int) (s : Int), 0 ≤ s ∧ s < 4294967296 → 0 ≤ l.foldl sumStep s ∧ l.foldl sumStep s < 4294967296 := by
    intro l
    induction l with
    | nil => intro s h; exact h
    | cons c r ih => intro s h; exact ih _ (wrapU32_range _)
  exact key p _ ⟨by decide, by decide⟩
def recL (p : List Int) : List Int := fourL p.length ++ (fourL (sumV p) ++ p)
theorem recL_len (p : List Int) : (recL p).length = 8 + p.length := by
  simp only [recL, List.length_append]
  show 4 + (4 + p.length) = _
  omega
/-- The payload with which bytes begin, if its record is whole. -/
def firstO (b : List Int) : Option (List Int) := match b with
  | a0 :: a1 :: a2 :: a3 :: s0 :: s1 :: s2 :: s3 :: r =>
    if ofE a0 a1 a2 a3 ≤ 131072 ∧ ofE a0 a1 a2 a3 ≤ (r.length : Int) ∧ sumV (r.take (ofE a0 a1 a2 a3).toNat) = ofE s0 s1 s2 s3 then some (r.take (ofE a0 a1 a2 a3).toNat) else none
  | _ => none
theorem first_short {b : List Int} (h : b.length < 8) : firstO b = none := by
  match b, h with
  | [], _ => rfl
  | [_], _ => rfl
  | [_, _], _ => rfl
  | [_, _, _], _ => rfl
  | [_, _, _, _], _ => rfl
  | [_, _, _, _, _], _ => rfl
  | [_, _, _, _, _, _], _ => rfl
  | [_, _, _, _, _, _, _], _ => rfl
  | _ :: _ :: _ :: _ :: _ :: _ :: _ :: _ :: _, h => simp at h; omega
theorem rec_eight (p r : List Int) : recL p ++ r = ((p.length : Int) / 16777216 % 256) :: ((p.length : Int) / 65536 % 256) :: ((p.length : Int) / 256 % 256) :: ((p.length : Int) % 256) :: (sumV p / 16777216 % 256) :: (sumV p / 65536 % 256) :: (sumV p / 256 % 256) :: (sumV p % 256) :: (p ++ r) := by
  simp [recL, fourL]
theorem first_whole {p : List Int} (h : p.length ≤ 131072) (r : List Int) : firstO (recL p ++ r) = some p := by
  have h1 := ofE_four (p.length : Int) (by omega) (by omega)
  have h2 := ofE_four (sumV p) (sumV_range p).1 (sumV_range p).2
  rw [rec_eight]
  simp only [firstO, h1, h2, Int.toNat_natCast, List.take_left']
  rw [if_pos ⟨by omega, by rw [List.length_append]; omega, trivial⟩]
theorem first_torn {p : List Int} (h : p.length ≤ 131072) (r : List Int) {k : Nat} (hk : k < 8 + p.length) : firstO ((recL p ++ r).take k) = none := by
  by_cases h8 : k < 8
  · exact first_short (by rw [List.length_take]; omega)
  · have h1 := ofE_four (p.length : Int) (by omega) (by omega)
    obtain ⟨j, rfl⟩ : ∃ j, k = j + 8 := ⟨k - 8, by omega⟩
    rw [rec_eight]
    simp only [List.take_succ_cons, firstO, h1]
    rw [if_neg]
    rintro ⟨_, h3, _⟩
    rw [List.length_take, List.length_append] at h3
    omega
def dsk (P : List (List Int)) : List Int := P.flatMap recL
def offR (P : List (List Int)) (i : Nat) : Nat := (dsk (P.take i)).length
/-- How many records are whole behind a cut. -/
def cntR : List (List Int) → Nat → Nat
  | [], _ => 0
  | p :: P, k => if 8 + p.length ≤ k then cntR P (k - (8 + p.length)) + 1 else 0
theorem dsk_cons (p : List Int) (P : List (List Int)) : dsk (p :: P) = recL p ++ dsk P := by simp [dsk]
theorem offR_zero (P : List (List Int)) : offR P 0 = 0 := by simp [offR, dsk]
theorem offR_succ (p : List Int) (P : List (List Int)) (i : Nat) : offR (p :: P) (i + 1) = 8 + p.length + offR P i := by
  simp only [offR, List.take_succ_cons, dsk_cons, List.length_append, recL_len]
theorem cntR_le : ∀ (P : List (List Int)) (k : Nat), cntR P k ≤ P.length
  | [], _ => Nat.zero_le _
  | p :: P, k => by
    unfold cntR
    have := cntR_le P (k - (8 + p.length))
    split
    · rw [List.length_cons]; omega
    · omega
theorem off_le : ∀ (P : List (List Int)) (k i : Nat), i ≤ cntR P k → offR P i ≤ k
  | P, k, 0, _ => by rw [offR_zero]; omega
  | [], k, i + 1, h => by simp [cntR] at h
  | p :: P, k, i + 1, h => by
    unfold cntR at h
    split at h
    · rename_i hp
      have := off_le P (k - (8 + p.length)) i (by omega)
      rw [offR_succ]; omega
    · omega
theorem off_step {P : List (List Int)} {i : Nat} {p : List Int} (h : P[i]? = some p) : offR P (i + 1) = offR P i + (8 + p.length) := by
  unfold offR dsk
  rw [List.take_add_one, h, List.flatMap_append, List.length_append]
  congr 1
  simp [recL_len]
theorem look_step : ∀ (P : List (List Int)) (k i : Nat), (∀ p ∈ P, p.length ≤ 131072) → i ≤ cntR P k → firstO (((dsk P).take k).drop (offR P i)) = if i < cntR P k then P[i]? else none
  | [], k, i, _, h => by
    obtain rfl : i = 0 := by simpa [cntR] using h
    simp [dsk, cntR, firstO]
  | p :: P, k, 0, hs, _ => by
    rw [offR_zero, List.drop_zero, dsk_cons]
    unfold cntR
    by_cases hp : 8 + p.length ≤ k
    · rw [if_pos hp, if_pos (Nat.succ_pos _), List.take_append, recL_len, List.take_of_length_le (by rw [recL_len]; exact hp)]
      rw [first_whole (hs p (List.mem_cons_self ..))]; rfl
    · rw [if_neg hp, if_neg (Nat.lt_irrefl _)]
      exact first_torn (hs p (List.mem_cons_self ..)) _ (by omega)
  | p :: P, k, i + 1, hs, h => by
    unfold cntR at h ⊢
    split at h
    · rename_i hp
      rw [if_pos hp, offR_succ, dsk_cons, List.take_append, recL_len, List.take_of_length_le (by rw [recL_len]; exact hp), ← List.drop_drop, List.drop_left' (by rw [recL_len])]
      rw [look_step P (k - (8 + p.length)) i (fun q hq => hs q (List.mem_cons_of_mem _ hq)) (by omega), List.getElem?_cons_succ]
      by_cases hi : i < cntR P (k - (8 + p.length))
      · rw [if_pos hi, if_pos (by omega)]
      · rw [if_neg hi, if_neg (by omega)]
    · omega
theorem cnt_all : ∀ (P : List (List Int)), cntR P (dsk P).length = P.length
  | [] => rfl
  | p :: P => by
    unfold cntR
    rw [dsk_cons, List.length_append, recL_len, if_pos (by omega), Nat.add_sub_cancel_left, cnt_all P, List.length_cons]
theorem dsk_take (P : List (List Int)) : ∀ (i : Nat), (dsk P).take (offR P i) = dsk (P.take i) := by
  intro i
  have : dsk P = dsk (P.take i) ++ dsk (P.drop i) := by
    unfold dsk; rw [← List.flatMap_append, List.take_append_drop]
  rw [this]; exact List.take_left' rfl
theorem dsk_snoc (P : List (List Int)) (p : List Int) : dsk (P ++ [p]) = dsk P ++ recL p := by simp [dsk]
end Tree.J14
