/- Package link: Outbox, a range over a function. -/
import Derived.Test.YtogeefachdlkiaaLK2
import Derived.Test.YtogeefachdlkiaaTW
set_option autoImplicit false
set_option linter.unusedVariables false
set_option linter.unusedSimpArgs false
namespace Tree.J14
open Go
set_option maxHeartbeats 8000000
set_option maxRecDepth 100000
/-- What the rounds find. -/
def snapJ (N : Nat) : List LV := [.undef, .undef, .undef, .optr N 0] ++ List.replicate 11 .undef
def obB (ob : Obs) (l : List Dg) (z : Int) : Obs := ob ++ [[outL l], loopObj 1 z (snapJ ob.length)]
theorem obB_0 (ob : Obs) (l : List Dg) (z : Int) : (obB ob l z)[ob.length]? = some [outL l] := by
  unfold obB; rw [List.getElem?_append_right (Nat.le_refl _), Nat.sub_self]; rfl
theorem obB_1 (ob : Obs) (l : List Dg) (z : Int) : (obB ob l z)[ob.length + 1]? = some (loopObj 1 z (snapJ ob.length)) := by
  unfold obB; rw [List.getElem?_append_right (by omega), Nat.add_sub_cancel_left]; rfl
theorem obB_set1 (ob : Obs) (l : List Dg) (z : Int) (c : List LV) : (obB ob l z).set (ob.length + 1) c = ob ++ [[outL l], c] := by
  unfold obB; rw [List.set_append_right _ _ (by omega), Nat.add_sub_cancel_left]; rfl
theorem rndJ (ob : Obs) (pb : Nat) (hpb : pb ≤ ob.length) (done : List Dg) (d : Dg) (hd : done.length ≤ 1099511627776) :
    roundW envJ pb (ob.length + 1) 1 lp1.1 lp1.2.1 lp1.2.2 [.agg d.row] (snapJ ob.length) (obB ob done 0) (fun q ob' => q = true ∧ ob' = obB ob (done ++ [d]) 0) := by
  have h0 := obB_0 ob done 0
  have h1 := obB_1 ob done 0
  have hs1 := obB_set1 ob done 0 (loopObj 1 (-1) (snapJ ob.length))
  have g0 : ∀ a b : List LV, (ob ++ [a, b])[ob.length]? = some a := fun a b => by rw [List.getElem?_append_right (Nat.le_refl _), Nat.sub_self]; rfl
  have g1 : ∀ a b : List LV, (ob ++ [a, b])[ob.length + 1]? = some b := fun a b => by rw [List.getElem?_append_right (by omega), Nat.add_sub_cancel_left]; rfl
  have s0 : ∀ a b c : List LV, (ob ++ [a, b]).set ob.length c = ob ++ [c, b] := fun a b c => by rw [List.set_append_right _ _ (Nat.le_refl _), Nat.sub_self]; rfl
  have s1 : ∀ a b c : List LV, (ob ++ [a, b]).set (ob.length + 1) c = ob ++ [a, c] := fun a b c => by rw [List.set_append_right _ _ (by omega), Nat.add_sub_cancel_left]; rfl
  have happ : (done ++ [d]).map Dg.row = done.map Dg.row ++ [d.row] := by simp
  have hdl : (done.map Dg.row).length = done.length := by simp
  unfold obB outL at *
  generalize ob.length = N at *
  unfold roundW
  conv => whnf
  refine ⟨snapJ N, h1, ?_⟩
  rw [hs1]
  conv => whnf
  refine ⟨_, _, ⟨g0 _ _, rfl, rfl⟩, ?_⟩
  conv => whnf
  refine ⟨_, _, _, _, ⟨hpb, g0 _ _, rfl⟩, ?_⟩
  conv => whnf
  refine ⟨_, ⟨.inl rfl, by rw [hdl]; show (_ + 1) * 56 ≤ _; omega, happ⟩, ?_⟩
  rw [s0]
  conv => whnf
  refine ⟨_, _, ⟨hpb, g0 _ _, rfl, rfl⟩, ?_⟩
  rw [s0]
  conv => whnf
  refine ⟨-1, snapJ N, g1 _ _, rfl, ?_⟩
  show (ob ++ [_, _]).set (N + 1) _ = _
  rw [s1]; rfl
end Tree.J14
