/- A part of the interpreter over trees and of its proof. -/
import Derived.Test.YtoieakkaopbjaaaL15Law1
set_option autoImplicit false
set_option linter.unusedVariables false
set_option linter.unusedSimpArgs false
namespace Tree.O15
open Go
set_option maxHeartbeats 8000000
set_option maxRecDepth 100000
theorem got_nil (a b : Int) (ob : Obs) (pb : Nat) : Gives env15 75 [.nilptr, .sl false 0 2 [[.int .i64 a, .int .i64 b]] []] ob pb (.tup [], ob) := by
  refine gives_code (f := tf75) rfl ?_
  conv => whnf
  refine loop_v (V := fun i : Nat => [(8, .int .i64 i)]) (O := fun _ => ob) (m := fun i => 1 - i) (P := fun i => i ≤ 1) ?_ 0 (Nat.zero_le _) rfl
  intro R i hi hN hE hR
  have : i = 0 ∨ i = 1 := by omega
  rcases this with rfl | rfl
  · conv => whnf
    refine ⟨_, ⟨by decide, rfl⟩, ?_⟩
    conv => whnf
    refine hN 1 _ (Nat.le_refl _) (by decide) ?_
    rfl
  · conv => whnf
    refine hE _ _ ?_
    conv => whnf
    exact ⟨rfl, rfl, rfl⟩
theorem ask_nil (v : NV) (n : Int) (ob : Obs) (pb : Nat) : Gives env15 61 [.nilptr, nm v.1 v.2, .int .i64 n] ob pb (.bool false, ob) := by
  refine gives_code (f := tf61) rfl ?_
  conv => whnf
  exact ⟨rfl, rfl, rfl⟩
theorem tell_nil (v : NV) (ob : Obs) (pb : Nat) : Gives env15 62 [.nilptr, nm v.1 v.2] ob pb (slI true [], ob) := by
  refine gives_code (f := tf62) rfl ?_
  conv => whnf
  refine ⟨_, _, waiters_nil v ob _, fun _ => rfl, ?_⟩
  conv => whnf
  exact ⟨rfl, rfl, rfl⟩
theorem want_nil (v : NV) (ob : Obs) (pb : Nat) : Gives env15 63 [.nilptr, nm v.1 v.2] ob pb (.bool false, ob) := by
  refine gives_code (f := tf63) rfl ?_
  conv => whnf
  exact ⟨rfl, rfl, rfl⟩
theorem wanted_nil (ob : Obs) (pb : Nat) : Gives env15 70 [.nilptr] ob pb (.sl true 0 2 [] [], ob) := by
  refine gives_code (f := tf70) rfl ?_
  conv => whnf
  exact ⟨rfl, rfl, rfl⟩
theorem asked_nil (ob : Obs) (pb : Nat) : Gives env15 69 [.nilptr] ob pb (.sl true 0 2 [] [], ob) := by
  refine gives_code (f := tf69) rfl ?_
  conv => whnf
  exact ⟨rfl, rfl, rfl⟩
theorem fork_nil (ob : Obs) (pb : Nat) : Gives env15 72 [.nilptr] ob pb (.nilptr, ob) := by
  refine gives_code (f := tf72) rfl ?_
  conv => whnf
  exact ⟨rfl, rfl, rfl⟩
theorem none_ok (v : NV) (n : Int) : ∃ ob', Gives env15 591 [nm v.1 v.2, .int .i64 n] [] 0 (.bool true, ob') := by
  obtain ⟨ob1, hlive⟩ := live_ok [] 0 (Nat.le_refl _)
  refine gives_codeE (f := tf591) rfl ?_
  conv => whnf
  refine ⟨_, _, got_nil v.1 v.2 [] _, (fun h => nomatch h), ?_⟩
  conv => whnf
  refine ⟨_, _, hlive, fun _ => rfl, ?_⟩
  conv => whnf
  refine ⟨_, _, ask_nil v n _ _, (fun h => nomatch h), ?_⟩
  conv => whnf
  refine ⟨_, _, tell_nil v _ _, (fun h => nomatch h), ?_⟩
  conv => whnf
  refine ⟨_, _, waiters_nil v _ _, fun _ => rfl, ?_⟩
  conv => whnf
  refine ⟨_, _, want_nil v _ _, (fun h => nomatch h), ?_⟩
  conv => whnf
  refine ⟨_, _, wanted_nil _ _, fun _ => rfl, ?_⟩
  conv => whnf
  refine ⟨_, _, asked_nil _ _, fun _ => rfl, ?_⟩
  conv => whnf
  refine ⟨_, _, fork_nil _ _, (fun h => nomatch h), ?_⟩
  conv => whnf
  exact ⟨rfl, rfl⟩
/-- A deed. -/
structure Dd where
  k : Int
  v : NV
  n : Int
  lab : Nat
  ms : List NV
  sp : List (List LV)
def Dd.row (x : Dd) : List LV := [.int .i64 x.k, .int .i64 x.v.1, .int .i64 x.v.2, .int .i64 x.n, .sl false x.lab 2 (x.ms.map nrow) x.sp]
/-- What a table's waiters are like. -/
structure Inv (W : Wm) (n : Nat) : Prop where
  o : onceW W
  d : ∀ k, (lkW W k).Nodup
  l : ∀ k, (lkW W k).length ≤ n
end Tree.O15
