/- Layer 10: the law QueueNone, what E answers. -/
import Derived.Test.YtjbdicceeocgeaaL10Q1
set_option autoImplicit false
set_option linter.unusedVariables false
set_option linter.unusedSimpArgs false
namespace Tree.Q10
open Go
set_option maxHeartbeats 8000000
set_option maxRecDepth 100000
def gl0a : LV := .agg [.int .i64 0, .int .i64 0, .sl false 0 5 [] []]
theorem nPeek (ob : Obs) (pb : Nat) : Gives env10 168 [.nilptr] ob pb (.tup [gl0a, .bool false], ob) := by
  refine gives_code (f := tf168) rfl ?_
  conv => whnf
  exact ⟨rfl, rfl, rfl⟩
theorem nNext (ob : Obs) (pb : Nat) : Gives env10 152 [.nilptr] ob pb (.tup [gl0a, .bool false], ob) := by
  refine gives_code (f := tf152) rfl ?_
  conv => whnf
  refine ⟨_, _, nPeek ob _, fun _ => rfl, ?_⟩
  conv => whnf
  exact ⟨rfl, rfl, rfl⟩
theorem nLen (ob : Obs) (pb : Nat) : Gives env10 156 [.nilptr] ob pb (.tup [.int .i64 0, .int .i64 0], ob) := by
  refine gives_code (f := tf156) rfl ?_
  conv => whnf
  exact ⟨rfl, rfl, rfl⟩
theorem nPut (l : LV) (ob : Obs) (pb : Nat) (hl : ∃ o a z xs sp, l = .sl o a z xs sp) : Gives env10 147 [.nilptr, l] ob pb (.int .i64 1, ob) := by
  obtain ⟨o, a, z, xs, sp, rfl⟩ := hl
  refine gives_code (f := tf147) rfl ?_
  conv => whnf
  exact ⟨rfl, rfl, rfl⟩
theorem nWait (l : LV) (ob : Obs) (pb : Nat) (hl : ∃ o a z xs sp, l = .sl o a z xs sp) : Gives env10 148 [.nilptr, gl0a, l] ob pb (.int .i64 1, ob) := by
  obtain ⟨o, a, z, xs, sp, rfl⟩ := hl
  refine gives_code (f := tf148) rfl ?_
  conv => whnf
  exact ⟨rfl, rfl, rfl⟩
theorem nWake (l : LV) (ob : Obs) (pb : Nat) (hl : ∃ a z xs sp, l = .sl false a z xs sp) : Gives env10 149 [.nilptr, l] ob pb (.sl true 0 3 [] [], ob) := by
  obtain ⟨a, z, xs, sp, rfl⟩ := hl
  refine gives_code (f := tf149) rfl ?_
  conv => whnf
  exact ⟨rfl, rfl, rfl⟩
theorem nReady (ob : Obs) (pb : Nat) : Gives env10 151 [.nilptr] ob pb (.sl true 0 3 [] [], ob) := by
  refine gives_code (f := tf151) rfl ?_
  conv => whnf
  exact ⟨rfl, rfl, rfl⟩
theorem nWaiting (ob : Obs) (pb : Nat) : Gives env10 155 [.nilptr] ob pb (.sl true 0 3 [] [], ob) := by
  refine gives_code (f := tf155) rfl ?_
  conv => whnf
  exact ⟨rfl, rfl, rfl⟩
theorem nVars (ob : Obs) (pb : Nat) : Gives env10 157 [.nilptr] ob pb (.sl true 0 2 [] [], ob) := by
  refine gives_code (f := tf157) rfl ?_
  conv => whnf
  exact ⟨rfl, rfl, rfl⟩
theorem nOn (ob : Obs) (pb : Nat) : Gives env10 160 [.nilptr, nm 0 0] ob pb (.sl true 0 2 [] [], ob) := by
  refine gives_code (f := tf160) rfl ?_
  conv => whnf
  exact ⟨rfl, rfl, rfl⟩
theorem nHas (ob : Obs) (pb : Nat) : Gives env10 169 [.nilptr, nm 0 0] ob pb (.bool false, ob) := by
  refine gives_code (f := tf169) rfl ?_
  conv => whnf
  exact ⟨rfl, rfl, rfl⟩
theorem nFork (ob : Obs) (pb : Nat) : Gives env10 164 [.nilptr] ob pb (.nilptr, ob) := by
  refine gives_code (f := tf164) rfl ?_
  conv => whnf
  exact ⟨rfl, rfl, rfl⟩
theorem none_ok (a b z y : Nat) (xs sp ys s2 : List (List LV)) : Gives env10 589 [.sl false a z xs sp, .sl false b y ys s2] [] 0 (.bool true, []) := by
  refine gives_code (f := tf589) rfl ?_
  conv => whnf
  refine ⟨_, _, nNext _ _, (fun h => nomatch h), ?_⟩
  conv => whnf
  refine ⟨_, _, nPeek _ _, fun _ => rfl, ?_⟩
  conv => whnf
  refine ⟨_, _, nLen _ _, fun _ => rfl, ?_⟩
  conv => whnf
  refine ⟨_, _, live10_ok _ _, fun _ => rfl, ?_⟩
  conv => whnf
  refine ⟨_, _, nPut _ _ _ ⟨_, _, _, _, _, rfl⟩, (fun h => nomatch h), ?_⟩
  conv => whnf
  refine ⟨_, _, nWait _ _ _ ⟨_, _, _, _, _, rfl⟩, (fun h => nomatch h), ?_⟩
  conv => whnf
  refine ⟨_, _, nWake _ _ _ ⟨_, _, _, _, rfl⟩, (fun h => nomatch h), ?_⟩
  conv => whnf
  refine ⟨_, _, nReady _ _, fun _ => rfl, ?_⟩
  conv => whnf
  refine ⟨_, _, nWaiting _ _, fun _ => rfl, ?_⟩
  conv => whnf
  refine ⟨_, _, nVars _ _, fun _ => rfl, ?_⟩
  conv => whnf
  refine ⟨_, _, nOn _ _, fun _ => rfl, ?_⟩
  conv => whnf
  refine ⟨_, _, nHas _ _, fun _ => rfl, ?_⟩
  conv => whnf
  refine ⟨_, _, nFork _ _, (fun h => nomatch h), ?_⟩
  conv => whnf
  exact ⟨rfl, rfl, rfl⟩
end Tree.Q10
