/- Package journal: the record with which bytes begin. -/
import Derived.Test.YtogeefachdlkiaaLJ3
set_option autoImplicit false
set_option linter.unusedVariables false
set_option linter.unusedSimpArgs false
namespace Tree.J14
open Go
set_option maxHeartbeats 8000000
set_option maxRecDepth 100000
theorem slB_noRef (n : Nat) (o : Bool) (l : List Int) : (slB o l).noRef n = true := by
  simp [slB, LV.noRef, LV.noRefss, bts_noRef]
theorem eight : ∀ (b : List Int), ¬ b.length < 8 → ∃ a0 a1 a2 a3 s0 s1 s2 s3 r, b = a0 :: a1 :: a2 :: a3 :: s0 :: s1 :: s2 :: s3 :: r
  | [], h => absurd (by simp) h
  | [_], h => absurd (by simp) h
  | [_, _], h => absurd (by simp) h
  | [_, _, _], h => absurd (by simp) h
  | [_, _, _, _], h => absurd (by simp) h
  | [_, _, _, _, _], h => absurd (by simp) h
  | [_, _, _, _, _, _], h => absurd (by simp) h
  | [_, _, _, _, _, _, _], h => absurd (by simp) h
  | a0 :: a1 :: a2 :: a3 :: s0 :: s1 :: s2 :: s3 :: r, _ => ⟨a0, a1, a2, a3, s0, s1, s2, s3, r, rfl⟩
/-- What 'first' tells of bytes. -/
theorem first_ok (b : List Int) (hb : b.length ≤ 1099511627776) (hc : ∀ c ∈ b, 0 ≤ c ∧ c < 256) (o : Bool) : ∃ l : List Int, (∀ p, firstO b = some p → l = p) ∧ ∀ ob pb, Gives envJ 640 [slB o b] ob pb (.tup [slB false l, .bool (firstO b).isSome], ob) := by
  have hl := bts_len b
  by_cases h8 : b.length < 8
  · rw [first_short h8]
    refine ⟨[], fun p h => (nomatch h), fun ob pb => ?_⟩
    refine gives_code (f := tf640) rfl ?_
    conv => whnf
    refine sel_t (by rw [hl]; simp; omega) ?_
    conv => whnf
    exact ⟨rfl, rfl, rfl⟩
  · obtain ⟨a0, a1, a2, a3, s0, s1, s2, s3, r, rfl⟩ := eight b h8
    · skip
      have r0 := hc a0 (by simp); have r1 := hc a1 (by simp); have r2 := hc a2 (by simp); have r3 := hc a3 (by simp)
      have hn : 0 ≤ ofE a0 a1 a2 a3 ∧ ofE a0 a1 a2 a3 < 4294967296 := by
        have := ofE_nat a0.toNat a1.toNat a2.toNat a3.toNat (by omega) (by omega) (by omega) (by omega)
        rw [Int.toNat_of_nonneg r0.1, Int.toNat_of_nonneg r1.1, Int.toNat_of_nonneg r2.1, Int.toNat_of_nonneg r3.1] at this
        rw [this]; omega
      have gf := fun o sp ob pb => ofFour_ok a0 a1 a2 a3 (s0 :: s1 :: s2 :: s3 :: r) o sp ob pb
      have gg := fun o sp ob pb => ofFour_ok s0 s1 s2 s3 r o sp ob pb
      simp only [firstO]
      generalize ofE a0 a1 a2 a3 = n at hn gf ⊢
      generalize ofE s0 s1 s2 s3 = u at gg ⊢
      have hlr : (bts (a0 :: a1 :: a2 :: a3 :: s0 :: s1 :: s2 :: s3 :: r)).length = r.length + 8 := by rw [hl]; simp
      have hw : IntKind.i64.wrap n = n := by rw [wrap64] <;> omega
      have hdrop4 : (bts (a0 :: a1 :: a2 :: a3 :: s0 :: s1 :: s2 :: s3 :: r)).drop 4 = bts (s0 :: s1 :: s2 :: s3 :: r) := rfl
      have hdrop8 : (bts (a0 :: a1 :: a2 :: a3 :: s0 :: s1 :: s2 :: s3 :: r)).drop 8 = bts r := rfl
      have hrl : r.length ≤ 1099511627776 := by simp at hb; omega
      generalize hB : bts (a0 :: a1 :: a2 :: a3 :: s0 :: s1 :: s2 :: s3 :: r) = B at *
      have head : ∀ (ob : Obs) (pb : Nat) (R : LV × Obs), True := fun _ _ _ => trivial
      by_cases h1 : n ≤ 131072 ∧ n ≤ (r.length : Int)
      · have gs := fun o sp ob pb => sum_ok (r.take n.toNat) (by rw [List.length_take]; omega) o sp ob pb
        refine ⟨r.take n.toNat, fun p hp => ?_, fun ob pb => ?_⟩
        · split at hp
          · injection hp
          · cases hp
        · have hS : (if n ≤ 131072 ∧ n ≤ (r.length : Int) ∧ sumV (r.take n.toNat) = u then some (r.take n.toNat) else none).isSome = (sumV (r.take n.toNat) == u) := by
            by_cases hq : sumV (r.take n.toNat) = u
            · rw [if_pos ⟨h1.1, h1.2, hq⟩, hq]; simp
            · rw [if_neg (fun h => hq h.2.2)]; simp [hq]
          rw [hS]
          generalize sumV (r.take n.toNat) = sv at gs ⊢
          refine gives_code (f := tf640) rfl ?_
          unfold slB
          rw [hB]
          conv => whnf
          refine sel_f (by rw [hlr]; simp; omega) ?_
          conv => whnf
          refine ⟨_, _, gf _ _ _ _, fun _ => rfl, ?_⟩
          conv => whnf
          rw [hw]
          have hlB : IntKind.i64.wrap ((B.length : Int) - 8) = (r.length : Int) := by rw [hlr, wrap64] <;> omega
          have h8n : IntKind.i64.wrap (8 + n) = n + 8 := by rw [wrap64] <;> omega
          refine sel_f (by simp; omega) ?_
          conv => whnf
          rw [hlB]
          refine sel_f (by simp; omega) ?_
          conv => whnf
          rw [h8n]
          refine ⟨bts (r.take n.toNat), [], ⟨⟨by omega, by omega, by omega, by rw [List.append_nil, hlr]; omega⟩, ?_, ?_⟩, ?_⟩
          · rw [List.append_nil, show (n + 8).toNat = n.toNat + 8 by omega, List.drop_take, bts_take]
            show List.take n.toNat (bts r) = List.take (n.toNat + 8 - 8) (List.drop 8 B)
            rw [hdrop8, Nat.add_sub_cancel]
          · rw [List.drop_take]; simp
          conv => whnf
          refine ⟨_, _, gs _ _ _ _, fun _ => rfl, ?_⟩
          conv => whnf
          refine ⟨bts (s0 :: s1 :: s2 :: s3 :: r), [], ⟨⟨by omega, by omega, by rw [List.append_nil]; omega⟩, by rw [List.append_nil]; show _ = List.drop 4 (B.take B.length); rw [List.take_length]; exact hdrop4.symm, by simp⟩, ?_⟩
          conv => whnf
          refine ⟨_, _, gg _ _ _ _, fun _ => rfl, ?_⟩
          conv => whnf
          exact ⟨rfl, rfl, rfl⟩
      · refine ⟨[], fun p hp => ?_, fun ob pb => ?_⟩
        · rw [if_neg (fun h => h1 ⟨h.1, h.2.1⟩)] at hp; cases hp
        · rw [if_neg (fun h => h1 ⟨h.1, h.2.1⟩)]
          refine gives_code (f := tf640) rfl ?_
          unfold slB
          rw [hB]
          conv => whnf
          refine sel_f (by rw [hlr]; simp; omega) ?_
          conv => whnf
          refine ⟨_, _, gf _ _ _ _, fun _ => rfl, ?_⟩
          conv => whnf
          rw [hw]
          refine sel_split (fun h2 => ?_) (fun h2 => ?_)
          · conv => whnf
            exact ⟨rfl, rfl, rfl⟩
          · conv => whnf
            refine sel_t ?_ ?_
            · have h2 := of_decide_eq_false h2
              have hlB : IntKind.i64.wrap ((B.length : Int) - 8) = (r.length : Int) := by rw [hlr, wrap64] <;> omega
              rw [hlB]; simp; omega
            · conv => whnf
              exact ⟨rfl, rfl, rfl⟩
end Tree.J14
