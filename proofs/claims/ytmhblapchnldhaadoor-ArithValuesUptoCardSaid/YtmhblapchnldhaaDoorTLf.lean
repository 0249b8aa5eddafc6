/- Layer 6: the hands' lists of numbers, and Reckon of the document. -/
import Derived.Test.YtmhblapchnldhaaDoorTLe
set_option autoImplicit false
set_option linter.unusedVariables false
set_option linter.unusedSimpArgs false
namespace Tree
open Go
set_option maxHeartbeats 8000000
set_option maxRecDepth 100000
theorem tmod_sign {a b : Int} (h : a.tmod b ≠ 0) : (a.tmod b < 0 ↔ a < 0) := by
  by_cases ha : 0 ≤ a
  · have := Int.tmod_nonneg b ha
    omega
  · have h1 : 0 ≤ (-a).tmod b := Int.tmod_nonneg b (by omega)
    rw [Int.neg_tmod] at h1
    omega
theorem fm_tm (a b : Int) (h0 : b ≠ 0) : (a.tmod b ≠ 0 ∧ ¬ (a.tmod b < 0 ↔ b < 0) → a.fdiv b = a.tdiv b - 1 ∧ a.fmod b = a.tmod b + b) ∧ (¬ (a.tmod b ≠ 0 ∧ ¬ (a.tmod b < 0 ↔ b < 0)) → a.fdiv b = a.tdiv b ∧ a.fmod b = a.tmod b) := by
  have e1 := Int.mul_fdiv_add_fmod a b
  have e2 := Int.mul_tdiv_add_tmod a b
  have e3 := fdiv_tdiv a b h0
  have hc : (a.tmod b ≠ 0 ∧ ¬ (a.tmod b < 0 ↔ b < 0)) ↔ (a.tmod b ≠ 0 ∧ ¬ (a < 0 ↔ b < 0)) := by
    constructor
    · rintro ⟨h1, h2⟩; exact ⟨h1, by rw [← tmod_sign h1]; exact h2⟩
    · rintro ⟨h1, h2⟩; exact ⟨h1, by rw [tmod_sign h1]; exact h2⟩
  constructor
  · intro h
    rw [if_pos (hc.1 h)] at e3
    rw [e3, Int.mul_sub, Int.mul_one] at e1
    exact ⟨e3, by omega⟩
  · intro h
    rw [if_neg (fun x => h (hc.2 x))] at e3
    rw [e3] at e1
    exact ⟨e3, by omega⟩
theorem refReckon_ok (op : ByteArray) (l : List Int) (hl : l.length ≤ 4611686018427387904) (o : Bool) (lab : Nat) (sp : List (List LV)) (ob : Obs) (pb : Nat) : Gives env6 223 [.str op, zsl o lab l sp] ob pb (recV (reckonS op l), ob) := by
  have hlen : (l.map zrow).length = l.length := by simp
  refine gives_code (f := tf223) rfl ?_
  conv => whnf
  refine loop_v (V := fun i : Nat => [(6, .int .i64 i)]) (O := fun _ => ob) (m := fun i => l.length - i) (P := fun i => i ≤ l.length ∧ ∀ n ∈ l.take i, mayI n = true) ?_ 0 ⟨Nat.zero_le _, by simp⟩ rfl
  rintro R i ⟨hi, hb⟩ hN hE hR
  conv => whnf
  refine sel_split (fun h => ?_) (fun h => ?_)
  · conv => whnf
    have h := of_decide_eq_true h
    rw [hlen] at h
    obtain ⟨n, hg⟩ : ∃ n, l[i]? = some n := ⟨_, List.getElem?_eq_getElem (show i < l.length by omega)⟩
    have e : IntKind.i64.wrap ((i : Int) + 1) = ((i + 1 : Nat) : Int) := by rw [wrap64] <;> omega
    refine ⟨_, ⟨by omega, idx_z hg⟩, ?_⟩
    conv => whnf
    refine ⟨_, _, may2_ok n _ _, fun _ => rfl, ?_⟩
    conv => whnf
    refine sel_split (fun h2 => ?_) (fun h2 => ?_)
    · conv => whnf
      refine hR _ ?_
      conv => whnf
      have hbad : l.any (fun n => !mayI n) = true := by
        rw [List.any_eq_true]; exact ⟨n, List.mem_of_getElem? hg, h2⟩
      rw [reckon_bad hbad]
      exact ⟨rfl, rfl, rfl⟩
    · conv => whnf
      refine hN (i + 1) _ ⟨by omega, fun x hx => ?_⟩ (by omega) ?_
      · rw [List.take_add_one, hg] at hx
        rcases List.mem_append.1 hx with hx | hx
        · exact hb x hx
        · simp at hx; subst hx; simpa using h2
      · rw [← e]; rfl
  · conv => whnf
    have h := of_decide_eq_false h
    rw [hlen] at h
    have : i = l.length := by omega
    subst this
    rw [List.take_length] at hb
    refine hE _ _ ?_
    clear hN hE hR h hi
    rcases l with _ | ⟨a, _ | ⟨b, _ | ⟨c, r⟩⟩⟩
    · rw [reckon_many (by simp) (by simp)]
      conv => whnf
      repeat' (refine sel_split (fun _ => ?_) (fun _ => ?_) <;> conv => whnf)
      all_goals first
        | exact ⟨rfl, rfl, rfl⟩
        | (exfalso; simp_all; done)
    · have ha := hb a (by simp)
      have ha' := mayI_iff.1 ha
      have hs : reckonS op [a] = if op = bAbs then finI a.natAbs else (0, false) := by simp [reckonS, ha]
      rw [hs]
      have w := (abs_u64 ha).1
      conv => whnf
      repeat' first
        | (refine sel_split (fun _ => ?_) (fun _ => ?_) <;> conv => whnf)
        | (refine ⟨_, ⟨by omega, rfl⟩, ?_⟩; conv => whnf)
      all_goals
        refine ⟨rfl, res2 ?_, rfl⟩
        simp only [w, beq_iff_eq, beq_eq_false_iff_ne, ne_eq, bytes_eq, Bool.not_eq_true', Bool.not_eq_false', decide_eq_true_eq, decide_eq_false_iff_not] at * <;>
        grind [finI, bAbs, mayI]
    · have ha := hb a (by simp)
      have hbb := hb b (by simp)
      have ha' := mayI_iff.1 ha
      have hb' := mayI_iff.1 hbb
      have hs : reckonS op [a, b] = two op a b := by simp [reckonS, ha, hbb]
      rw [hs]
      have w1 : IntKind.i64.wrap (a + b) = a + b := by rw [wrap64] <;> omega
      have w2 : IntKind.i64.wrap (a - b) = a - b := by rw [wrap64] <;> omega
      have w4 : IntKind.i64.wrap (a * b) = a * b := by
        have : (a * b).natAbs ≤ 2147483648 * 2147483648 := by rw [Int.natAbs_mul]; exact Nat.mul_le_mul (by omega) (by omega)
        rw [wrap64] <;> omega
      have hq1 : (a.tdiv b).natAbs ≤ a.natAbs := by rw [Int.natAbs_tdiv]; exact Nat.div_le_self _ _
      have hr1 : (a.tmod b).natAbs ≤ a.natAbs := by rw [Int.natAbs_tmod]; exact Nat.mod_le _ _
      have hfm := fm_tm a b
      have w5 : IntKind.i64.wrap (a.tdiv b) = a.tdiv b := by rw [wrap64] <;> omega
      have w6 : IntKind.i64.wrap (a.tdiv b - 1) = a.tdiv b - 1 := by rw [wrap64] <;> omega
      have w7 : IntKind.i64.wrap (a.tmod b + b) = a.tmod b + b := by rw [wrap64] <;> omega
      conv => whnf
      repeat' first
        | (refine sel_split (fun _ => ?_) (fun _ => ?_) <;> conv => whnf)
        | (refine ⟨_, ⟨by omega, rfl⟩, ?_⟩; conv => whnf)
        | (refine ⟨_, _, may2_ok _ _ _, fun _ => rfl, ?_⟩; conv => whnf)
        | refine ⟨rfl, res2 ?_, rfl⟩
        | (refine ⟨by simp_all; done, ?_⟩; conv => whnf)
      all_goals
        simp only [w1, w2, w4, w5, w6, w7, bne_iff_ne, bne_eq_false_iff_eq, beq_iff_eq, beq_eq_false_iff_ne, ne_eq, bytes_eq, Bool.not_eq_true', Bool.not_eq_false', decide_eq_true_eq, decide_eq_false_iff_not, decide_eq_decide] at * <;>
        grind [finI, bAbs, two, bAdd, bSub, bMul, bDiv, bMod, bMin, bMax]
    · rw [reckon_many (by simp) (by simp)]
      conv => whnf
      repeat' (refine sel_split (fun _ => ?_) (fun _ => ?_) <;> conv => whnf)
      all_goals first
        | exact ⟨rfl, rfl, rfl⟩
        | (exfalso; simp_all; omega)
end Tree
