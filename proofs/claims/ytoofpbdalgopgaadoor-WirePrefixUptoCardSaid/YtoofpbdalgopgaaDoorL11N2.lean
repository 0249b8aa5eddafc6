/- Layer 11: numbers as bytes, by the program and by the document. -/
import Derived.Test.YtoofpbdalgopgaaDoorL11N
set_option autoImplicit false
set_option linter.unusedVariables false
set_option linter.unusedSimpArgs false
namespace Tree.W11
open Go
set_option maxHeartbeats 8000000
set_option maxRecDepth 100000
theorem wrap8 {n : Int} (h0 : 0 ≤ n) (h : n < 256) : IntKind.u8.wrap n = n := by
  show n.emod 256 = n
  have : n.emod 256 = n % 256 := rfl
  rw [this]; omega
theorem numB_len : ∀ n : Nat, n < 9223372036854775808 → (numB n).length ≤ 10 := by
  intro n h
  have key : ∀ (k n : Nat), n < 128 ^ (k + 1) → (numB n).length ≤ k + 1 := by
    intro k
    induction k with
    | zero => intro n h; rw [numB_lt (by omega)]; simp
    | succ k ih =>
      intro n h
      by_cases h1 : n < 128
      · rw [numB_lt h1]; simp
      · rw [numB_ge h1, List.length_cons]
        have := ih (n / 128) (by rw [Nat.div_lt_iff_lt_mul (by omega)]; rw [Nat.pow_succ] at h; exact h)
        omega
  exact key 9 n (by omega)
theorem set3 (ob : Obs) (id : Nat) (a : List LV) {b c : List LV} : ((ob.set id a).set id b).set id c = ob.set id c := by rw [List.set_set, List.set_set]
section
variable {ob : Obs} {id pb : Nat} {bs : List Int} (hob : ob[id]? = some (obW bs)) (hpb : pb ≤ id)
include hob
theorem set_at {v : List LV} : (ob.set id v)[id]? = some v := by
  have := (List.getElem?_eq_some_iff.1 hob).1
  rw [List.getElem?_set_self this]
include hpb
theorem number_ok (n : Nat) (hn : n < 9223372036854775808) (hb : bs.length ≤ 4294967296) : Gives env11 497 [.optr id 0, .int .i64 n] ob pb (.tup [], ob.set id (obW (bs ++ numB n))) := by
  have hlen := numB_len n hn
  have hself : ob.set id (obW bs) = ob := by
    apply List.ext_getElem?; intro i
    rw [List.getElem?_set]
    split
    · rename_i h; subst h; rw [if_pos (List.getElem?_eq_some_iff.1 hob).1, hob]
    · rfl
  refine gives_code (f := tf497) rfl ?_
  conv => whnf
  refine loop_v (V := fun i : List Int × Nat => [(1, .int .i64 i.2)]) (O := fun i => ob.set id (obW (bs ++ i.1))) (m := fun i => i.2) (P := fun i => i.2 ≤ n ∧ i.1 ++ numB i.2 = numB n) ?_ ([], n) ⟨Nat.le_refl _, rfl⟩ (by show _ = _; rw [List.append_nil, hself]; rfl)
  rintro R ⟨pre, k⟩ ⟨h1, h2⟩ hN hE hR
  dsimp only at h1 h2
  have hpl : pre.length ≤ 10 := by
    have := congrArg List.length h2
    rw [List.length_append] at this; omega
  have hob2 : (ob.set id (obW (bs ++ pre)))[id]? = some (obW (bs ++ pre)) := set_at hob
  conv => whnf
  refine sel_split (fun h => ?_) (fun h => ?_)
  · have h : (k : Int) ≥ 128 := of_decide_eq_true h
    rw [numB_ge (by omega)] at h2
    have e1 := or128 (k : Int) (by omega)
    have e2 : ((k : Int) % 128 + 128) = ((k % 128 + 128 : Nat) : Int) := by omega
    rw [e2] at e1
    have e3 : (k : Int).fdiv (2 ^ min (7 : Int).toNat IntKind.i64.bits) = ((k / 128 : Nat) : Int) := by
      show (k : Int).fdiv 128 = _
      rw [Int.fdiv_eq_ediv_of_nonneg _ (by omega)]; omega
    conv => whnf
    refine ⟨_, _, ⟨hob2, rfl, rfl⟩, ?_⟩
    conv => whnf
    rw [e1]
    refine ⟨_, _, _, _, ⟨hpb, hob2, rfl⟩, ?_⟩
    conv => whnf
    refine ⟨(bs ++ (pre ++ [((k % 128 + 128 : Nat) : Int)])).map brw, ⟨.inl rfl, ?_, by rw [← List.append_assoc, List.map_append (l₁ := bs ++ pre)]; rfl⟩, ?_⟩
    · show (((bs ++ pre).map brw).length + 1) * 1 ≤ _
      rw [List.length_map, List.length_append]; omega
    conv => whnf
    refine ⟨_, obW (bs ++ (pre ++ [((k % 128 + 128 : Nat) : Int)])), ⟨hpb, by rw [set_at hob2], rfl, rfl⟩, ?_⟩
    conv => whnf
    refine hN (pre ++ [((k % 128 + 128 : Nat) : Int)], k / 128) _ ⟨by dsimp only; omega, by rw [List.append_assoc]; exact h2⟩ (by dsimp only; omega) ?_
    dsimp only
    rw [← e3, show ob.set id (obW (bs ++ (pre ++ [((k % 128 + 128 : Nat) : Int)]))) = ((ob.set id (obW (bs ++ pre))).set id ((obW (bs ++ pre)).modify (0 + 0) LV.bare1)).set id (obW (bs ++ (pre ++ [((k % 128 + 128 : Nat) : Int)]))) from (set3 ob id _).symm]
    rfl
  · conv => whnf
    have h : ¬ (k : Int) ≥ 128 := of_decide_eq_false h
    rw [numB_lt (by omega)] at h2
    have e2 : IntKind.u8.wrap (k : Int) = k := wrap8 (by omega) (by omega)
    refine hE _ _ ?_
    conv => whnf
    refine ⟨_, _, ⟨hob2, rfl, rfl⟩, ?_⟩
    conv => whnf
    rw [e2]
    refine ⟨_, _, _, _, ⟨hpb, hob2, rfl⟩, ?_⟩
    conv => whnf
    refine ⟨(bs ++ numB n).map brw, ⟨.inl rfl, ?_, by rw [← h2, ← List.append_assoc, List.map_append (l₁ := bs ++ pre)]; rfl⟩, ?_⟩
    · show (((bs ++ pre).map brw).length + 1) * 1 ≤ _
      rw [List.length_map, List.length_append]; omega
    conv => whnf
    refine ⟨_, obW (bs ++ numB n), ⟨hpb, by rw [set_at hob2], rfl, rfl⟩, ?_⟩
    conv => whnf
    refine ⟨rfl, rfl, ?_⟩
    show ((ob.set id _).set id _).set id _ = _
    rw [List.set_set, List.set_set]
end
end Tree.W11
