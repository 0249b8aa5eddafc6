/- purlinlaw02.LexCounts: what E answers. -/
import Derived.Test.YtkbpkiebcghghaaDoorL2BA
set_option autoImplicit false
set_option linter.unusedVariables false
set_option linter.unusedSimpArgs false
namespace Tree.X02
open Go
set_option maxHeartbeats 8000000
set_option maxRecDepth 100000
theorem last_le (s : ByteArray) (c : Int) : ∀ k, -1 ≤ Lib.lastIdx s c k ∧ Lib.lastIdx s c k < k
  | 0 => by unfold Lib.lastIdx; omega
  | k + 1 => by
    have := last_le s c k
    unfold Lib.lastIdx
    split <;> omega
theorem bang_get {s : ByteArray} {i : Nat} {c : UInt8} (h : s.data.toList[i]? = some c) : s.data[i]! = c := by
  have h' : s.data[i]? = some c := by rw [← Array.getElem?_toList]; exact h
  rw [getElem!_def, h']
theorem last_ext' (s : ByteArray) (k : Nat) (hk : k ≤ s.size) (c : Int) : ∀ j, j ≤ k → Lib.lastIdx (s.extract 0 k) c j = Lib.lastIdx s c j
  | 0, _ => rfl
  | j + 1, hj => by
    have hlen := len_eq s
    obtain ⟨x, hx⟩ : ∃ x, s.data.toList[j]? = some x := ⟨_, List.getElem?_eq_getElem (show j < s.data.toList.length by omega)⟩
    have hx2 : (s.extract 0 k).data.toList[j]? = some x := by rw [ext_list, List.getElem?_take, if_pos (by omega), List.drop_zero, hx]
    unfold Lib.lastIdx
    rw [bang_get hx, bang_get hx2, last_ext' s k hk c j (by omega)]
/-- The place's line and column. -/
def lnO (s : ByteArray) (k : Nat) : Int := ((s.data.toList.take k).count 10 : Nat) + 1
def coO (s : ByteArray) (k : Nat) : Int := (k : Int) - Lib.lastIdx s 10 k
theorem ln_le (s : ByteArray) (k : Nat) : 1 ≤ lnO s k ∧ lnO s k ≤ k + 1 := by
  unfold lnO
  have h1 := List.count_le_length (a := (10 : UInt8)) (l := s.data.toList.take k)
  rw [List.length_take] at h1
  omega
theorem co_le (s : ByteArray) (k : Nat) : 1 ≤ coO s k ∧ coO s k ≤ k + 1 := by
  unfold coO
  have := last_le s 10 k
  omega
theorem lnco_step {s : ByteArray} {k : Nat} {c : UInt8} (h : s.data.toList[k]? = some c) : (c.toNat = 10 → lnO s (k + 1) = lnO s k + 1 ∧ coO s (k + 1) = 1) ∧ (c.toNat ≠ 10 → lnO s (k + 1) = lnO s k ∧ coO s (k + 1) = coO s k + 1) := by
  have e1 : Lib.lastIdx s 10 (k + 1) = if (c.toNat : Int) = 10 then (k : Int) else Lib.lastIdx s 10 k := by
    rw [Lib.lastIdx, bang_get h]
  have e2 : (s.data.toList.take (k + 1)).count 10 = (s.data.toList.take k).count 10 + (if c = 10 then 1 else 0) := by
    rw [List.take_add_one, h, List.count_append]
    congr 1
    simp [List.count_cons]
  unfold lnO coO
  rw [e1, e2]
  constructor
  · intro hc
    have : c = 10 := UInt8.toNat_inj.1 hc
    rw [if_pos this, if_pos (by omega)]
    omega
  · intro hc
    have : c ≠ 10 := fun h => hc (by rw [h]; rfl)
    rw [if_neg this, if_neg (by omega)]
    omega
def place (s : ByteArray) (a : Int) : Nat := if a ≤ 0 then 0 else min a.toNat s.size
theorem line_ok (s : ByteArray) (hs : s.size ≤ 1048576) (a : Int) (ha : -9223372036854775808 ≤ a ∧ a ≤ 9223372036854775807) (ob : Obs) (pb : Nat) : Gives env2s 343 [.str s, .int .i64 a] ob pb (.tup [.int .i64 (lnO s (place s a)), .int .i64 (coO s (place s a))], ob) := by
  obtain ⟨k, hk⟩ : ∃ k, k = place s a := ⟨_, rfl⟩
  have hks : k ≤ s.size := by rw [hk]; unfold place; split <;> omega
  rw [← hk]
  have hsz : (s.extract 0 k).size = k := by rw [ext_size2 s 0 k hks]; omega
  have hge : ∀ ob pb, Gives env2s 363 [.str (s.extract 0 k), .str ⟨#[10]⟩] ob pb (.int .i64 (((s.data.toList.take k).count 10 : Nat) : Int), ob) := fun ob pb => by
    refine gives_ext (F := countF) rfl ?_
    show some (LV.int .i64 (Lib.countByte (s.extract 0 k).data.toList 10)) = _
    rw [ext_list, List.drop_zero]; rfl
  have hgl : ∀ ob pb, Gives env2s 364 [.str (s.extract 0 k), .int .u8 10] ob pb (.int .i64 (Lib.lastIdx s 10 k), ob) := fun ob pb => by
    refine gives_ext (F := lastF) rfl ?_
    show (if (s.extract 0 k).size < 4611686018427387904 then some (LV.int .i64 (Lib.lastIndexByte (s.extract 0 k) 10)) else none) = _
    rw [if_pos (by omega)]
    unfold Lib.lastIndexByte
    rw [hsz, last_ext' s k hks 10 k (Nat.le_refl _)]
  have b1 := ln_le s k
  have b2 := co_le s k
  have hmm : (if (s.size : Int) < (if a < 0 then 0 else a) then (s.size : Int) else (if a < 0 then 0 else a)) = (k : Int) := by
    rw [hk]; unfold place
    repeat' split
    all_goals omega
  refine gives_code (f := tf343) rfl ?_
  conv => whnf
  simp only [Bool.false_eq_true, if_false, if_true, hmm]
  refine ⟨s.extract 0 k, ⟨⟨by omega, by omega, by omega⟩, rfl⟩, ?_⟩
  conv => whnf
  refine ⟨_, _, hge _ _, fun _ => rfl, ?_⟩
  conv => whnf
  refine ⟨_, _, hgl _ _, fun _ => rfl, ?_⟩
  conv => whnf
  refine ⟨rfl, ?_, rfl⟩
  show LV.tup [.int .i64 (IntKind.i64.wrap _), .int .i64 (IntKind.i64.wrap _)] = LV.tup [.int .i64 _, .int .i64 _]
  rw [hsz]
  unfold lnO coO at *
  rw [wrap64 (by omega) (by omega), wrap64 (by omega) (by omega)]
theorem lineR_ok (s : ByteArray) (hs : s.size ≤ 1048576) (a : Int) (ha : -9223372036854775808 ≤ a ∧ a ≤ 9223372036854775807) (ob : Obs) (pb : Nat) : Gives env2s 344 [.str s, .int .i64 a] ob pb (.tup [.int .i64 (lnO s (place s a)), .int .i64 (coO s (place s a))], ob) := by
  have hlen := len_eq s
  refine gives_code (f := tf344) rfl ?_
  conv => whnf
  refine loop_v (V := fun i : Nat => [(6, .int .i64 (lnO s i)), (7, .int .i64 (coO s i)), (8, .int .i64 i)]) (O := fun _ => ob) (m := fun i => s.size - i) (P := fun i => i ≤ place s a) ?_ 0 (Nat.zero_le _) rfl
  intro R i hi hN hE hR
  have hps : place s a ≤ s.size := by unfold place; split <;> omega
  have b1 := ln_le s i
  have b2 := co_le s i
  have e1 : IntKind.i64.wrap ((i : Int) + 1) = ((i + 1 : Nat) : Int) := by rw [wrap64] <;> omega
  have e2 : IntKind.i64.wrap (lnO s i + 1) = lnO s i + 1 := by rw [wrap64] <;> omega
  have e3 : IntKind.i64.wrap (coO s i + 1) = coO s i + 1 := by rw [wrap64] <;> omega
  have hst := fun c => lnco_step (s := s) (k := i) (c := c)
  have fin : ¬ ((i : Int) < a ∧ (i : Int) < s.size) → i = place s a := by
    intro h
    unfold place at hi ⊢
    split at hi <;> rename_i h' <;> simp only [h', if_true, if_false] <;> omega
  conv => whnf
  refine sel_split (fun h => ?_) (fun h => ?_)
  · conv => whnf
    have h := of_decide_eq_true h
    refine sel_split (fun h2 => ?_) (fun h2 => ?_)
    · conv => whnf
      have h2 := of_decide_eq_true h2
      obtain ⟨c, hc⟩ : ∃ c, s.data.toList[i]? = some c := ⟨_, List.getElem?_eq_getElem (show i < s.data.toList.length by omega)⟩
      have hpl : i + 1 ≤ place s a := by unfold place; split <;> omega
      obtain ⟨g1, g2⟩ := hst c hc
      refine ⟨c, ⟨by omega, hc⟩, ?_⟩
      conv => whnf
      refine sel_split (fun h3 => ?_) (fun h3 => ?_)
      · conv => whnf
        have h3 : c.toNat = 10 := by simp at h3; omega
        obtain ⟨g3, g4⟩ := g1 h3
        refine hN (i + 1) _ (by omega) (by omega) ?_
        rw [g3.trans e2.symm, g4, ← e1]; rfl
      · conv => whnf
        have h3 : c.toNat ≠ 10 := by simp at h3; omega
        obtain ⟨g3, g4⟩ := g2 h3
        refine hN (i + 1) _ (by omega) (by omega) ?_
        rw [g3, g4.trans e3.symm, ← e1]; rfl
    · conv => whnf
      have h2 := of_decide_eq_false h2
      have hf := fin (fun h => h2 h.2)
      refine hE _ _ ?_
      conv => whnf
      refine ⟨rfl, ?_, rfl⟩
      rw [← hf]; rfl
  · conv => whnf
    have h := of_decide_eq_false h
    have hf := fin (fun h' => h h'.1)
    refine hE _ _ ?_
    conv => whnf
    refine ⟨rfl, ?_, rfl⟩
    rw [← hf]; rfl
end Tree.X02
