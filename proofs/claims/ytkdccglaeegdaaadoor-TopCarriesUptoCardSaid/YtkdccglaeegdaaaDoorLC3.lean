/- Package net: out, Deliver, Drop, Double. -/
import Derived.Test.YtkdccglaeegdaaaDoorLC2
set_option autoImplicit false
set_option linter.unusedVariables false
set_option linter.unusedSimpArgs false
namespace Tree.C12
open Go Tree Tree.W11
set_option maxHeartbeats 8000000
set_option maxRecDepth 100000
theorem slice_k (X : List (List LV)) (k : Nat) : ((X ++ []).take ((k : Nat) : Int).toNat).drop (0 : Int).toNat = X.take k := by
  rw [List.append_nil]; rfl
theorem netOut_ok (n : Nt) (k : Nat) (d : Dg) (hk : n.R[k]? = some d) (hR : n.R.length ≤ 1099511627776) (id : Nat) (ob : Obs) (pb : Nat) (hpb : pb ≤ id) (hob : ob[id]? = some n.cells) :
    Gives envC 658 [.optr id 0, .int .i64 k] ob pb (.agg d.row, ob.set id { n with R := n.R.take k ++ n.R.drop (k + 1) }.cells) := by
  have hid : id < ob.length := (List.getElem?_eq_some_iff.1 hob).1
  have hkl : k < n.R.length := (List.getElem?_eq_some_iff.1 hk).1
  have hrow := rowC_get hk
  have hRl : (n.R.map Dg.row).length = n.R.length := by simp
  have gcc := fun ob pb => netConcat_ok ((n.R.map Dg.row).take k) ((n.R.map Dg.row).drop (k + 1)) ((n.R.map Dg.row).drop k) [] (by rw [List.length_take]; omega) (by rw [List.length_drop]; omega) ob pb
  have e1 : IntKind.i64.wrap ((k : Int) + 1) = ((k + 1 : Nat) : Int) := by rw [wrap64] <;> omega
  have hmap : (n.R.take k ++ n.R.drop (k + 1)).map Dg.row = (n.R.map Dg.row).take k ++ (n.R.map Dg.row).drop (k + 1) := by simp
  have nrr : ∀ m, LV.noRef m (.sl true 0 5 ((n.R.map Dg.row).take k ++ (n.R.map Dg.row).drop (k + 1)) []) = true := fun m => by
    rw [← hmap]
    have key : ∀ R : List Dg, LV.noRefss m (R.map Dg.row) = true := by
      intro R
      induction R with
      | nil => rfl
      | cons x r ih =>
        have h1 := row_noRef m x
        simp only [List.map_cons, LV.noRefss, Bool.and_eq_true]
        exact ⟨h1, ih⟩
    simp only [LV.noRef, key, Bool.true_and]; rfl
  unfold Nt.cells at *
  dsimp only at *
  rw [hmap]
  generalize n.R.map Dg.row = X at *
  unfold Dg.row at *
  refine gives_code (f := tf658) rfl ?_
  conv => whnf
  refine ⟨_, _, ⟨hob, rfl, rfl⟩, ?_⟩
  conv => whnf
  refine ⟨_, ⟨by omega, hrow⟩, ?_⟩
  conv => whnf
  refine ⟨_, _, ⟨hob, rfl, rfl⟩, ?_⟩
  conv => whnf
  refine ⟨X.take k, X.drop k, ⟨⟨by omega, by omega, by rw [List.append_nil]; omega⟩, (slice_k X k).symm, by rw [List.append_nil]; rfl⟩, ?_⟩
  conv => whnf
  refine ⟨_, _, ⟨hob, rfl, rfl⟩, ?_⟩
  conv => whnf
  rw [e1]
  refine ⟨X.drop (k + 1), [], ⟨⟨by omega, by omega, by rw [List.append_nil]; omega⟩, ?_, ?_⟩, ?_⟩
  · rw [List.append_nil]
    show _ = (X.take X.length).drop (k + 1)
    rw [List.take_length]
  · rw [List.append_nil]
    show _ = X.drop X.length
    rw [List.drop_length]
  conv => whnf
  refine ⟨_, _, gcc _ _, fun _ => nrr _, ?_⟩
  conv => whnf
  refine ⟨_, _, ⟨hpb, hob, rfl, rfl⟩, ?_⟩
  conv => whnf
  exact ⟨rfl, rfl, rfl⟩
def Nt.less (n : Nt) (k : Nat) : Nt := { n with R := n.R.take k ++ n.R.drop (k + 1) }
theorem netDeliver_ok (n : Nt) (k : Nat) (d : Dg) (hk : n.R[k]? = some d) (hR : n.R.length ≤ 1099511627776) (id : Nat) (ob : Obs) (pb : Nat) (hpb : pb ≤ id) (hob : ob[id]? = some n.cells) :
    Gives envC 654 [.optr id 0, .int .i64 k] ob pb (.tup [.agg d.row, .int .i64 0], ob.set id ({ n with b := inc n.b }.less k).cells) := by
  have hid : id < ob.length := (List.getElem?_eq_some_iff.1 hob).1
  have hkl : k < n.R.length := (List.getElem?_eq_some_iff.1 hk).1
  have ga := fun pb => netAt_ok n k hkl id ob pb hob
  have hg1 : ∀ c : List LV, (ob.set id c)[id]? = some c := fun c => List.getElem?_set_self hid
  have go := netOut_ok { n with b := inc n.b } k d hk hR id (ob.set id { n with b := inc n.b }.cells) pb hpb (hg1 _)
  rw [List.set_set] at go
  unfold Nt.less Nt.cells inc at *
  dsimp only at *
  generalize n.R.map Dg.row = X at *
  generalize (n.R.take k ++ n.R.drop (k + 1)).map Dg.row = Y at *
  unfold Dg.row at *
  refine gives_code (f := tf654) rfl ?_
  conv => whnf
  refine ⟨_, _, ga _, fun _ => rfl, ?_⟩
  conv => whnf
  refine ⟨_, _, ⟨hob, rfl, rfl⟩, ?_⟩
  conv => whnf
  refine ⟨_, _, ⟨hpb, hob, rfl, rfl⟩, ?_⟩
  conv => whnf
  refine ⟨_, _, go, fun h => (nomatch h), ?_⟩
  conv => whnf
  exact ⟨rfl, rfl, rfl⟩
theorem netDrop_ok (n : Nt) (k : Nat) (d : Dg) (hk : n.R[k]? = some d) (hR : n.R.length ≤ 1099511627776) (id : Nat) (ob : Obs) (pb : Nat) (hpb : pb ≤ id) (hob : ob[id]? = some n.cells) :
    Gives envC 653 [.optr id 0, .int .i64 k] ob pb (.int .i64 0, ob.set id ({ n with c := inc n.c }.less k).cells) := by
  have hid : id < ob.length := (List.getElem?_eq_some_iff.1 hob).1
  have hkl : k < n.R.length := (List.getElem?_eq_some_iff.1 hk).1
  have ga := fun pb => netAt_ok n k hkl id ob pb hob
  have hg1 : ∀ c : List LV, (ob.set id c)[id]? = some c := fun c => List.getElem?_set_self hid
  have go := netOut_ok { n with c := inc n.c } k d hk hR id (ob.set id { n with c := inc n.c }.cells) pb hpb (hg1 _)
  rw [List.set_set] at go
  unfold Nt.less Nt.cells inc at *
  dsimp only at *
  generalize n.R.map Dg.row = X at *
  generalize (n.R.take k ++ n.R.drop (k + 1)).map Dg.row = Y at *
  unfold Dg.row at *
  refine gives_code (f := tf653) rfl ?_
  conv => whnf
  refine ⟨_, _, ga _, fun _ => rfl, ?_⟩
  conv => whnf
  refine ⟨_, _, ⟨hob, rfl, rfl⟩, ?_⟩
  conv => whnf
  refine ⟨_, _, ⟨hpb, hob, rfl, rfl⟩, ?_⟩
  conv => whnf
  refine ⟨_, _, go, fun h => (nomatch h), ?_⟩
  conv => whnf
  exact ⟨rfl, rfl, rfl⟩
def Nt.twice (n : Nt) (d : Dg) : Nt := { n with d := inc n.d, R := n.R ++ [d] }
theorem netDouble_ok (n : Nt) (k : Nat) (d : Dg) (hk : n.R[k]? = some d) (hd : d.p.length ≤ 65536) (hR : n.R.length ≤ 1099511627776) (id : Nat) (ob : Obs) (pb : Nat) (hpb : pb ≤ id) (hob : ob[id]? = some n.cells) :
    Gives envC 652 [.optr id 0, .int .i64 k] ob pb (.int .i64 0, ob.set id (n.twice d).cells) := by
  have hid : id < ob.length := (List.getElem?_eq_some_iff.1 hob).1
  have hkl : k < n.R.length := (List.getElem?_eq_some_iff.1 hk).1
  have ga := fun pb => netAt_ok n k hkl id ob pb hob
  have gc := fun ob pb => netCopied_ok d hd ob pb
  have nro := fun n => row_noRef n d
  have hrow := rowC_get hk
  have hg1 : ∀ c : List LV, (ob.set id c)[id]? = some c := fun c => List.getElem?_set_self hid
  have hRl : (n.R.map Dg.row).length = n.R.length := by simp
  have happ : (n.R ++ [d]).map Dg.row = n.R.map Dg.row ++ [d.row] := by simp
  unfold Nt.twice Nt.cells inc at *
  dsimp only at *
  rw [happ]
  generalize n.R.map Dg.row = X at *
  unfold Dg.row at *
  generalize d.p.map brw = B at *
  refine gives_code (f := tf652) rfl ?_
  conv => whnf
  refine ⟨_, _, ga _, fun _ => rfl, ?_⟩
  conv => whnf
  refine ⟨_, _, ⟨hob, rfl, rfl⟩, ?_⟩
  conv => whnf
  refine ⟨_, _, ⟨hpb, hob, rfl, rfl⟩, ?_⟩
  conv => whnf
  refine ⟨_, _, ⟨hg1 _, rfl, rfl⟩, ?_⟩
  conv => whnf
  refine ⟨_, _, ⟨hg1 _, rfl, rfl⟩, ?_⟩
  conv => whnf
  refine ⟨_, ⟨by omega, hrow⟩, ?_⟩
  conv => whnf
  refine ⟨_, _, gc _ _, fun _ => nro _, ?_⟩
  conv => whnf
  refine ⟨_, _, _, _, ⟨hpb, hg1 _, rfl⟩, ?_⟩
  conv => whnf
  refine ⟨_, ⟨.inl rfl, by rw [hRl]; show (_ + 1) * 56 ≤ _; omega, rfl⟩, ?_⟩
  conv => whnf
  refine ⟨_, _, ⟨hpb, List.getElem?_set_self (by rw [List.length_set]; exact hid), rfl, rfl⟩, ?_⟩
  conv => whnf
  refine ⟨rfl, rfl, ?_⟩
  show _ = _
  rw [List.set_set, List.set_set]; rfl
theorem netWhich_ok (n all : Int) (hn : -9223372036854775808 ≤ n ∧ n ≤ 9223372036854775807) (ha : 0 < all ∧ all ≤ 4611686018427387904) : ∃ k : Nat, (k : Int) < all ∧ ∀ ob pb, Gives envC 592 [.int .i64 n, .int .i64 all] ob pb (.int .i64 k, ob) := by
  have h1 := Int.tmod_lt_of_pos n ha.1
  have h2 : -all < n.tmod all := by
    have := Int.tmod_lt_of_pos (-n) ha.1
    rw [Int.neg_tmod] at this; omega
  by_cases hneg : n.tmod all < 0
  · refine ⟨(n.tmod all + all).toNat, by omega, fun ob pb => ?_⟩
    have e1 : IntKind.i64.wrap (n.tmod all + all) = ((n.tmod all + all).toNat : Int) := by rw [wrap64] <;> omega
    refine gives_code (f := tf592) rfl ?_
    conv => whnf
    refine ⟨by omega, ?_⟩
    conv => whnf
    refine sel_t (decide_eq_true hneg) ?_
    conv => whnf
    refine ⟨rfl, ?_, rfl⟩
    rw [← e1]; rfl
  · refine ⟨(n.tmod all).toNat, by omega, fun ob pb => ?_⟩
    have e1 : n.tmod all = ((n.tmod all).toNat : Int) := by omega
    refine gives_code (f := tf592) rfl ?_
    conv => whnf
    refine ⟨by omega, ?_⟩
    conv => whnf
    refine sel_f (decide_eq_false hneg) ?_
    conv => whnf
    refine ⟨rfl, ?_, rfl⟩
    rw [← e1]; rfl
end Tree.C12
