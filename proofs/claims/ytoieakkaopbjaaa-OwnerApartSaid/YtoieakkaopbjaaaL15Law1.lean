/- A part of the interpreter over trees and of its proof. -/
import Derived.Test.YtoieakkaopbjaaaL15O2
import Derived.Test.YtoieakkaopbjaaaWpE
set_option autoImplicit false
set_option linter.unusedVariables false
set_option linter.unusedSimpArgs false
namespace Tree.O15
open Go
set_option maxHeartbeats 8000000
set_option maxRecDepth 100000
theorem live_ok (ob : Obs) (pb : Nat) (hpb : pb ≤ ob.length) : ∃ ob', Gives env15 65 [] ob pb (.bool true, ob') := by
  have h0 := new_tb ob
  have hpb2 : pb ≤ ob.length + 1 := by omega
  have n1 : (1 : Int) ∉ lkW [] (0, 1) := by simp [lkW]
  have h1 := h0.setW (ck (wE []) (0, 1) 0) (setW [] (0, 1) (lkW [] (0, 1) ++ [1]) 0)
  have e1 : setW [] ((0, 1) : NV) (lkW [] (0, 1) ++ [1]) 0 = [((0, 1), [1], 0)] := rfl
  rw [e1] at h1
  have l1 : lkW [(((0, 1) : NV), [1], 0)] (0, 1) = [1] := by simp [lkW]
  have h2 := h1.setW (ck (wE [((0, 1), [1], 0)]) (0, 1) (ck (wE []) (0, 1) 0)) (setW [((0, 1), [1], 0)] (0, 1) (lkW [((0, 1), [1], 0)] (0, 1) ++ [2]) (ck (wE []) (0, 1) 0))
  have e2 : setW [(((0, 1) : NV), [1], 0)] (0, 1) (lkW [((0, 1), [1], 0)] (0, 1) ++ [2]) (ck (wE []) (0, 1) 0) = [((0, 1), [1, 2], 0)] := by rw [l1]; rfl
  rw [e2] at h2
  have l2 : lkW [(((0, 1) : NV), [1, 2], 0)] (0, 1) = [1, 2] := by simp [lkW]
  refine gives_codeE (f := tf65) rfl ?_
  conv => whnf
  refine ⟨_, _, new_ok ob _, (fun h => nomatch h), ?_⟩
  conv => whnf
  refine ⟨_, _, ask_yes (pb := pb) h0 hpb (0, 1) 1 (by simp [lkW]) n1, (fun h => nomatch h), ?_⟩
  conv => whnf
  refine ⟨_, _, ask_yes (pb := pb) h1 hpb (0, 1) 2 (by rw [l1]; simp) (by rw [l1]; simp), (fun h => nomatch h), ?_⟩
  conv => whnf
  refine ⟨_, _, ask_no h2 (0, 1) 1 (by rw [l2]; simp) (by rw [l2]; simp), (fun h => nomatch h), ?_⟩
  conv => whnf
  refine ⟨_, _, tell_ok (pb := pb) h2 hpb (0, 1) (by rw [l2]; simp), (fun h => nomatch h), ?_⟩
  rw [l2]
  conv => whnf
  refine ⟨_, _, sameInts_ok [1, 2] [1, 2] (by simp) _ _ true (by simp), fun _ => rfl, ?_⟩
  conv => whnf
  have h3 := h2.setW (ck (wE [((0, 1), [1], 0)]) (0, 1) (ck (wE []) (0, 1) 0)) (delW [((0, 1), [1, 2], 0)] (0, 1))
  have e3 : delW [(((0, 1) : NV), [1, 2], 0)] (0, 1) = [] := by simp [delW]
  rw [e3] at h3
  refine ⟨_, _, tell_ok (pb := pb) h3 hpb (0, 1) (by simp [lkW]), (fun h => nomatch h), ?_⟩
  conv => whnf
  have h4 := h3.setW (ck (wE [((0, 1), [1], 0)]) (0, 1) (ck (wE []) (0, 1) 0)) (delW [] (0, 1))
  refine ⟨_, _, want_yes (pb := pb) h4 hpb2 (0, 1) (by simp [lkG]), (fun h => nomatch h), ?_⟩
  conv => whnf
  have h5 := h4.setG (ck (gE []) (0, 1) 0) ([] ++ [((0, 1), 0)])
  refine ⟨_, _, want_no h5 (0, 1) (by simp [lkG]), (fun h => nomatch h), ?_⟩
  conv => whnf
  exact ⟨rfl, rfl⟩
end Tree.O15
