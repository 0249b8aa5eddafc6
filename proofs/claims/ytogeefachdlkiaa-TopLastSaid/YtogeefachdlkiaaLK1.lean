/- Package link: New, Send, Outbox. -/
import Derived.Test.YtogeefachdlkiaaLJ6
import Derived.Test.YtogeefachdlkiaaTW
set_option autoImplicit false
set_option linter.unusedVariables false
set_option linter.unusedSimpArgs false
namespace Tree.J14
open Go
set_option maxHeartbeats 8000000
set_option maxRecDepth 100000
structure Dg where
  f : Int
  t : Int
  a : Bool
  s : Int
  p : List Int
def Dg.row (d : Dg) : List LV := [.int .i64 d.f, .int .i64 d.t, .bool d.a, .int .i64 d.s, slB false d.p]
/-- A link as an object. -/
structure Lk where
  own : Int
  nodes : Int
  s : Nat → Int
  out : Nat → List Dg
  nx : Nat → Int
def outL (l : List Dg) : LV := .sl true 0 5 (l.map Dg.row) []
def Lk.cells (k : Lk) : List LV := [.int .i64 k.own, .int .i64 k.nodes, .int .i64 (k.s 0), outL (k.out 0), .int .i64 (k.nx 0), .int .i64 (k.s 1), outL (k.out 1), .int .i64 (k.nx 1), .int .i64 (k.s 2), outL (k.out 2), .int .i64 (k.nx 2), .int .i64 (k.s 3), outL (k.out 3), .int .i64 (k.nx 3)]
def lk0 (own nodes : Int) : Lk := ⟨own, nodes, fun _ => 0, fun _ => [], fun _ => 0⟩
theorem lnew_ok (own nodes : Int) (h : 1 ≤ nodes ∧ nodes ≤ 4 ∧ 0 ≤ own ∧ own < nodes) (ob : Obs) (pb : Nat) : Gives envJ 109 [.int .i64 own, .int .i64 nodes] ob pb (.tup [.optr ob.length 0, .int .i64 0], ob ++ [(lk0 own nodes).cells]) := by
  refine gives_code (f := tf109) rfl ?_
  conv => whnf
  refine sel_f (by simp; omega) ?_
  conv => whnf
  refine sel_f (by simp; omega) ?_
  conv => whnf
  refine sel_f (by simp; omega) ?_
  conv => whnf
  refine sel_f (by simp; omega) ?_
  conv => whnf
  exact ⟨rfl, rfl, rfl⟩
theorem own_ok (d : Dg) (hd : d.p.length ≤ 1099511627776) (o : Bool) (sp : List (List LV)) (ob : Obs) (pb : Nat) : Gives envJ 132 [.agg [.int .i64 d.f, .int .i64 d.t, .bool d.a, .int .i64 d.s, .sl o 0 1 (bts d.p) sp]] ob pb (.agg d.row, ob) := by
  have hbl := bts_len d.p
  have g : ∀ o ob pb, Gives envJ 142 [.sl o 0 1 (bts d.p) sp] ob pb (.sl true 0 1 (bts d.p) [], ob) := fun o ob pb => by
    refine gives_ext (F := cloneF 1 1) rfl ?_
    show (if 1 = 1 ∧ (bts d.p).length ≤ maxLen ∧ (bts d.p).length * 1 ≤ 140737488355328 then some (LV.sl true 0 1 (bts d.p) []) else none) = _
    rw [if_pos ⟨rfl, by rw [hbl]; unfold maxLen; omega, by rw [hbl]; omega⟩]
  have nr : ∀ n, (LV.sl true 0 1 (bts d.p) []).noRef n = true := fun n => slB_noRef n true d.p
  unfold Dg.row slB
  generalize bts d.p = B at *
  refine gives_code (f := tf132) rfl ?_
  conv => whnf
  refine ⟨_, _, g _ _ _, fun _ => nr _, ?_⟩
  conv => whnf
  exact ⟨rfl, rfl, rfl⟩
theorem row_noRef (n : Nat) (d : Dg) : LV.noRef n (.agg d.row) = true := by
  simp [LV.noRef, Dg.row, LV.noRefs, slB_noRef]
theorem peer_ok (k : Lk) (i : Nat) (hi : (i : Int) < k.nodes) (hn : k.nodes ≤ 4) (ho : (i : Int) ≠ k.own) (id : Nat) (ob : Obs) (pb : Nat) (hob : ob[id]? = some k.cells) : Gives envJ 131 [.optr id 0, .int .i64 i] ob pb (.optr id (2 + i * 3), ob) := by
  obtain ⟨own, nodes, s, out, nx⟩ := k
  dsimp only at hi hn ho
  unfold Lk.cells at hob
  dsimp only at hob
  refine gives_code (f := tf131) rfl ?_
  conv => whnf
  refine ⟨_, _, ⟨hob, rfl, rfl⟩, ?_⟩
  conv => whnf
  refine sel_f (by simp; omega) ?_
  conv => whnf
  refine ⟨_, _, ⟨hob, rfl, rfl⟩, ?_⟩
  conv => whnf
  refine sel_f (by simp; omega) ?_
  conv => whnf
  refine ⟨⟨by omega, by omega⟩, ?_⟩
  conv => whnf
  exact ⟨rfl, rfl, rfl⟩
theorem wrong_ok (k : Lk) (i : Nat) (hi : (i : Int) < k.nodes) (hn : k.nodes ≤ 4) (ho : (i : Int) ≠ k.own) (id : Nat) (ob : Obs) (pb : Nat) (hob : ob[id]? = some k.cells) : Gives envJ 130 [.optr id 0, .int .i64 i] ob pb (.int .i64 0, ob) := by
  have g := fun pb => peer_ok k i hi hn ho id ob pb hob
  have hid : id < ob.length := (List.getElem?_eq_some_iff.1 hob).1
  refine gives_code (f := tf130) rfl ?_
  conv => whnf
  refine ⟨_, _, g _, fun _ => decide_eq_true hid, ?_⟩
  conv => whnf
  exact ⟨rfl, rfl, rfl⟩
end Tree.J14
