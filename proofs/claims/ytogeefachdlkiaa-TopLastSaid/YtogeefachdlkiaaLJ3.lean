/- Package journal: Sum, four, ofFour, Record, first. -/
import Derived.Test.YtogeefachdlkiaaLJ2
import Derived.Test.YtogeefachdlkiaaLJEnv
import Derived.Test.YtogeefachdlkiaaTW
set_option autoImplicit false
set_option linter.unusedVariables false
set_option linter.unusedSimpArgs false
namespace Tree.J14
open Go
set_option maxHeartbeats 8000000
set_option maxRecDepth 100000
def byt (c : Int) : List LV := [.int .u8 c]
def bts (l : List Int) : List (List LV) := l.map byt
def slB (o : Bool) (l : List Int) : LV := .sl o 0 1 (bts l) []
theorem bts_len (l : List Int) : (bts l).length = l.length := by simp [bts]
theorem bts_get {l : List Int} {i : Nat} {c : Int} (h : l[i]? = some c) : (bts l)[((i : Nat) : Int).toNat]? = some [.int .u8 c] := by
  show (bts l)[i]? = _
  unfold bts; rw [List.getElem?_map, h]; rfl
theorem bts_app (a b : List Int) : bts (a ++ b) = bts a ++ bts b := by simp [bts]
theorem bts_take (l : List Int) (k : Nat) : bts (l.take k) = (bts l).take k := by simp [bts, List.map_take]
theorem bts_drop (l : List Int) (k : Nat) : bts (l.drop k) = (bts l).drop k := by simp [bts, List.map_drop]
theorem bts_noRef (n : Nat) : ∀ l : List Int, LV.noRefss n (bts l) = true
  | [] => rfl
  | c :: r => by
    show LV.noRefss n (byt c :: bts r) = true
    simp only [LV.noRefss, byt, LV.noRefs, LV.noRef, Bool.true_and, bts_noRef n r]
theorem sum_ok (p : List Int) (hp : p.length ≤ 1099511627776) (o : Bool) (sp : List (List LV)) (ob : Obs) (pb : Nat) : Gives envJ 642 [.sl o 0 1 (bts p) sp] ob pb (.int .u32 (sumV p), ob) := by
  have hl := bts_len p
  refine gives_code (f := tf642) rfl ?_
  conv => whnf
  refine loop_v (V := fun i : Nat => [(3, .int .u32 ((p.take i).foldl sumStep 2166136261)), (8, .int .i64 i)]) (O := fun _ => ob) (m := fun i => p.length - i) (P := fun i => i ≤ p.length) ?_ 0 (Nat.zero_le _) rfl
  intro R i hi hN hE hR
  conv => whnf
  refine sel_split (fun h => ?_) (fun h => ?_)
  · conv => whnf
    have h := of_decide_eq_true h
    rw [hl] at h
    obtain ⟨c, hc⟩ : ∃ c, p[i]? = some c := ⟨_, List.getElem?_eq_getElem (show i < p.length by omega)⟩
    have e1 : IntKind.i64.wrap ((i : Int) + 1) = ((i + 1 : Nat) : Int) := by rw [wrap64] <;> omega
    have ht : (p.take (i + 1)).foldl sumStep 2166136261 = sumStep ((p.take i).foldl sumStep 2166136261) c := by
      rw [List.take_add_one, hc, List.foldl_append]; rfl
    refine ⟨_, ⟨by omega, bts_get hc⟩, ?_⟩
    conv => whnf
    refine hN (i + 1) _ (by omega) (by omega) ?_
    rw [← e1, ht]; rfl
  · conv => whnf
    have hil : i = p.length := by simp at h; omega
    refine hE _ _ ?_
    conv => whnf
    refine ⟨rfl, ?_, rfl⟩
    rw [hil, List.take_length]; rfl
theorem four_ok (n : Int) (h1 : 0 ≤ n) (h2 : n < 4294967296) (ob : Obs) (pb : Nat) : Gives envJ 641 [.int .u32 n] ob pb (slB true (fourL n), ob) := by
  have e24 : (2 : Int) ^ min (24 : Int).toNat IntKind.u32.bits = 16777216 := by decide
  have e16 : (2 : Int) ^ min (16 : Int).toNat IntKind.u32.bits = 65536 := by decide
  have e8 : (2 : Int) ^ min (8 : Int).toNat IntKind.u32.bits = 256 := by decide
  refine gives_code (f := tf641) rfl ?_
  conv => whnf
  refine ⟨rfl, ?_, rfl⟩
  show LV.sl true 0 1 [[.int .u8 (IntKind.u8.wrap (n.fdiv (2 ^ min (24 : Int).toNat IntKind.u32.bits)))], [.int .u8 (IntKind.u8.wrap (n.fdiv (2 ^ min (16 : Int).toNat IntKind.u32.bits)))], [.int .u8 (IntKind.u8.wrap (n.fdiv (2 ^ min (8 : Int).toNat IntKind.u32.bits)))], [.int .u8 (IntKind.u8.wrap n)]] [] = _
  rw [e24, e16, e8, wrapU8, wrapU8, wrapU8, wrapU8, Int.fdiv_eq_ediv_of_nonneg _ (by omega), Int.fdiv_eq_ediv_of_nonneg _ (by omega), Int.fdiv_eq_ediv_of_nonneg _ (by omega)]
  rfl
theorem ofFour_ok (a b c d : Int) (r : List Int) (o : Bool) (sp : List (List LV)) (ob : Obs) (pb : Nat) : Gives envJ 643 [.sl o 0 1 (bts (a :: b :: c :: d :: r)) sp] ob pb (.int .u32 (ofE a b c d), ob) := by
  refine gives_code (f := tf643) rfl ?_
  conv => whnf
  refine ⟨_, ⟨by omega, rfl⟩, ?_⟩
  conv => whnf
  refine ⟨_, ⟨by omega, rfl⟩, ?_⟩
  conv => whnf
  refine ⟨_, ⟨by omega, rfl⟩, ?_⟩
  conv => whnf
  refine ⟨_, ⟨by omega, rfl⟩, ?_⟩
  conv => whnf
  exact ⟨rfl, rfl, rfl⟩
theorem record_ok (p : List Int) (hp : p.length ≤ 131072) (o : Bool) (sp : List (List LV)) (ob : Obs) (pb : Nat) : Gives envJ 639 [.sl o 0 1 (bts p) sp] ob pb (.tup [slB false (recL p), .int .i64 0], ob) := by
  have hl := bts_len p
  have g1 := fun ob pb => four_ok (p.length : Int) (by omega) (by omega) ob pb
  have gs := fun o ob pb => sum_ok p (by omega) o sp ob pb
  have hr := sumV_range p
  have g2 := fun ob pb => four_ok (sumV p) hr.1 hr.2 ob pb
  have hw : IntKind.u32.wrap ((bts p).length : Int) = (p.length : Int) := by rw [hl]; exact wrapU32 (by omega) (by omega)
  have q1 : (bts (fourL (p.length : Int))).length = 4 := rfl
  have q2 : (bts (fourL (sumV p))).length = 4 := rfl
  have hrl : bts (fourL (p.length : Int)) ++ bts (fourL (sumV p)) ++ bts p = bts (recL p) := by
    rw [recL, bts_app, bts_app, List.append_assoc]
  have n1 := fun n => bts_noRef n (fourL (p.length : Int))
  have n2 := fun n => bts_noRef n (fourL (sumV p))
  unfold slB at *
  generalize sumV p = sv at *
  generalize bts (fourL (p.length : Int)) = f1 at *
  generalize bts (fourL sv) = f2 at *
  refine gives_code (f := tf639) rfl ?_
  conv => whnf
  refine sel_f (by rw [hl]; simp; omega) ?_
  conv => whnf
  rw [hw]
  refine ⟨_, _, g1 _ _, fun _ => by simp [LV.noRef, LV.noRefss, n1], ?_⟩
  conv => whnf
  refine ⟨_, _, gs _ _ _, fun _ => rfl, ?_⟩
  conv => whnf
  refine ⟨_, _, g2 _ _, fun _ => by simp [LV.noRef, LV.noRefss, n2], ?_⟩
  conv => whnf
  refine ⟨f1 ++ f2, ⟨.inl rfl, by rw [q1, q2]; omega, rfl⟩, ?_⟩
  conv => whnf
  refine ⟨f1 ++ f2 ++ bts p, ⟨.inl rfl, by rw [List.length_append, q1, q2, hl]; omega, rfl⟩, ?_⟩
  conv => whnf
  refine ⟨rfl, ?_, rfl⟩
  rw [hrl]; rfl
end Tree.J14
