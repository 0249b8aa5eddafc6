/- Layer 16: the law RefsNone, what E answers. -/
import Derived.Test.YtkeadnggllgphaaR16Live
set_option autoImplicit false
set_option linter.unusedVariables false
set_option linter.unusedSimpArgs false
namespace Tree.R16
open Go Tree
set_option maxHeartbeats 8000000
set_option maxRecDepth 100000
theorem nLen (ob : Obs) (pb : Nat) : Gives env16z 410 [.nilptr] ob pb (.tup [.int .i64 0, .int .i64 0], ob) := by
  refine gives_code (f := tf410) rfl ?_
  conv => whnf
  exact ⟨rfl, rfl, rfl⟩
theorem nSent (n : Int) (o : Bool) (a z : Nat) (xs sp : List (List LV)) (ob : Obs) (pb : Nat) : Gives env16z 404 [.nilptr, .int .i64 n, .sl o a z xs sp] ob pb (.int .i64 1, ob) := by
  refine gives_code (f := tf404) rfl ?_
  conv => whnf
  exact ⟨rfl, rfl, rfl⟩
theorem nAdded (x y n : Int) (ob : Obs) (pb : Nat) : Gives env16z 411 [.nilptr, .agg [.int .i64 x, .int .i64 y], .int .i64 n] ob pb (.int .i64 1, ob) := by
  refine gives_code (f := tf411) rfl ?_
  conv => whnf
  exact ⟨rfl, rfl, rfl⟩
theorem nReleased (x y n k : Int) (ob : Obs) (pb : Nat) : Gives env16z 405 [.nilptr, .agg [.int .i64 x, .int .i64 y], .int .i64 n, .int .i64 k] ob pb (.int .i64 1, ob) := by
  refine gives_code (f := tf405) rfl ?_
  conv => whnf
  exact ⟨rfl, rfl, rfl⟩
theorem nGot (o : Bool) (a z : Nat) (xs sp : List (List LV)) (ob : Obs) (pb : Nat) : Gives env16z 406 [.nilptr, .sl o a z xs sp] ob pb (.int .i64 1, ob) := by
  refine gives_code (f := tf406) rfl ?_
  conv => whnf
  exact ⟨rfl, rfl, rfl⟩
theorem nHeld (x y : Int) (ob : Obs) (pb : Nat) : Gives env16z 407 [.nilptr, .agg [.int .i64 x, .int .i64 y]] ob pb (.int .i64 0, ob) := by
  refine gives_code (f := tf407) rfl ?_
  conv => whnf
  exact ⟨rfl, rfl, rfl⟩
theorem nFree (x y : Int) (ob : Obs) (pb : Nat) : Gives env16z 408 [.nilptr, .agg [.int .i64 x, .int .i64 y]] ob pb (.int .i64 0, ob) := by
  refine gives_code (f := tf408) rfl ?_
  conv => whnf
  refine ⟨_, _, nHeld x y _ _, fun _ => rfl, ?_⟩
  conv => whnf
  exact ⟨rfl, rfl, rfl⟩
theorem nExported (x y : Int) (ob : Obs) (pb : Nat) : Gives env16z 401 [.nilptr, .agg [.int .i64 x, .int .i64 y]] ob pb (.bool false, ob) := gives_ext (F := exportedF) rfl rfl
theorem nExports (ob : Obs) (pb : Nat) : Gives env16z 397 [.nilptr] ob pb (.sl true 0 4 [] [], ob) := by
  refine gives_code (f := tf397) rfl ?_
  conv => whnf
  exact ⟨rfl, rfl, rfl⟩
theorem nImports (ob : Obs) (pb : Nat) : Gives env16z 409 [.nilptr] ob pb (.sl true 0 4 [] [], ob) := by
  refine gives_code (f := tf409) rfl ?_
  conv => whnf
  exact ⟨rfl, rfl, rfl⟩
theorem nFork (ob : Obs) (pb : Nat) : Gives env16z 412 [.nilptr] ob pb (.nilptr, ob) := by
  refine gives_code (f := tf412) rfl ?_
  conv => whnf
  exact ⟨rfl, rfl, rfl⟩
theorem none_law (x y n : Int) : Gives env16z 667 [.agg [.int .i64 x, .int .i64 y], .int .i64 n] [] 0 (.bool true, []) := by
  refine gives_code (f := tf667) rfl ?_
  conv => whnf
  refine ⟨_, _, nLen _ _, fun _ => rfl, ?_⟩
  conv => whnf
  refine ⟨_, _, live16_ok _ _, fun _ => rfl, ?_⟩
  conv => whnf
  refine ⟨_, _, nSent _ _ _ _ _ _ _ _, fun h => (nomatch h), ?_⟩
  conv => whnf
  refine ⟨_, _, nAdded _ _ _ _ _, fun h => (nomatch h), ?_⟩
  conv => whnf
  refine ⟨_, _, nReleased _ _ _ _ _ _, fun h => (nomatch h), ?_⟩
  conv => whnf
  refine ⟨_, _, nGot _ _ _ _ _ _ _, fun h => (nomatch h), ?_⟩
  conv => whnf
  refine ⟨_, _, nFree _ _ _ _, fun h => (nomatch h), ?_⟩
  conv => whnf
  refine ⟨_, _, nHeld _ _ _ _, fun _ => rfl, ?_⟩
  conv => whnf
  refine ⟨_, _, nExported _ _ _ _, fun _ => rfl, ?_⟩
  conv => whnf
  refine ⟨_, _, nExports _ _, fun _ => rfl, ?_⟩
  conv => whnf
  refine ⟨_, _, nImports _ _, fun _ => rfl, ?_⟩
  conv => whnf
  refine ⟨_, _, nFork _ _, fun h => (nomatch h), ?_⟩
  conv => whnf
  exact ⟨rfl, rfl, rfl⟩
end Tree.R16
