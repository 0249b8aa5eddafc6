/- Package net: New, Len, look, at, copied. -/
import Derived.Test.YtkdccglaeegdaaaDoorLCEnv
import Derived.Test.YtkdccglaeegdaaaDoorTW
import Derived.Test.YtkdccglaeegdaaaDoorTLv
set_option autoImplicit false
set_option linter.unusedVariables false
set_option linter.unusedSimpArgs false
namespace Tree.C12
open Go Tree Tree.W11
set_option maxHeartbeats 8000000
set_option maxRecDepth 100000
structure Dg where
  f : Int
  t : Int
  a : Bool
  s : Int
  p : List Int
def Dg.row (d : Dg) : List LV := [.int .i64 d.f, .int .i64 d.t, .bool d.a, .int .i64 d.s, .sl false 0 1 (d.p.map brw) []]
/-- A net of two nodes, as an object. -/
structure Nt where
  a : Int
  b : Int
  c : Int
  d : Int
  R : List Dg
def Nt.cells (n : Nt) : List LV := [.int .i64 n.a, .int .i64 n.b, .int .i64 n.c, .int .i64 n.d, .int .i64 2, .sl true 0 5 (n.R.map Dg.row) []]
def inc (x : Int) : Int := IntKind.i64.wrap (x + 1)
theorem netNew_ok (ob : Obs) (pb : Nat) : Gives envC 649 [.int .i64 2] ob pb (.tup [.optr ob.length 0, .int .i64 0], ob ++ [(Nt.mk 0 0 0 0 []).cells]) := by
  refine gives_code (f := tf649) rfl ?_
  conv => whnf
  exact ⟨rfl, rfl, rfl⟩
theorem netLen_ok (n : Nt) (id : Nat) (ob : Obs) (pb : Nat) (hob : ob[id]? = some n.cells) : Gives envC 651 [.optr id 0] ob pb (.int .i64 n.R.length, ob) := by
  have hl : (n.R.map Dg.row).length = n.R.length := by simp
  rw [← hl]
  unfold Nt.cells at hob
  generalize n.R.map Dg.row = X at *
  refine gives_code (f := tf651) rfl ?_
  conv => whnf
  refine ⟨_, _, ⟨hob, rfl, rfl⟩, ?_⟩
  conv => whnf
  exact ⟨rfl, rfl, rfl⟩
theorem netIs_ok (n : Nt) (i : Int) (h : 0 ≤ i ∧ i < 2) (id : Nat) (ob : Obs) (pb : Nat) (hob : ob[id]? = some n.cells) : Gives envC 659 [.int .i64 i, .iptr 0 [.optr id 0] 0] ob pb (.bool true, ob) := by
  unfold Nt.cells at hob
  generalize n.R.map Dg.row = X at *
  refine gives_code (f := tf659) rfl ?_
  conv => whnf
  refine sel_t (decide_eq_true h.1) ?_
  conv => whnf
  refine ⟨_, _, ⟨hob, rfl, rfl⟩, ?_⟩
  conv => whnf
  refine ⟨rfl, ?_, rfl⟩
  show LV.bool (decide (i < 2)) = _
  rw [decide_eq_true h.2]
theorem netLook_ok (n : Nt) (s : Int) (hs : 0 ≤ s) (p : List Int) (hp : p.length ≤ 65536) (id : Nat) (ob : Obs) (pb : Nat) (hob : ob[id]? = some n.cells) : Gives envC 655 [.optr id 0, .agg (Dg.mk 0 1 false s p).row] ob pb (.int .i64 0, ob) := by
  have g0 := fun pb => netIs_ok n 0 (by decide) id ob pb hob
  have g1 := fun pb => netIs_ok n 1 (by decide) id ob pb hob
  have hl : (p.map brw).length = p.length := by simp
  unfold Dg.row
  dsimp only
  generalize hB : p.map brw = B at *
  refine gives_code (f := tf655) rfl ?_
  conv => whnf
  refine ⟨_, _, g0 _, fun _ => rfl, ?_⟩
  conv => whnf
  refine ⟨_, _, g1 _, fun _ => rfl, ?_⟩
  conv => whnf
  refine sel_f (decide_eq_false (by omega)) ?_
  conv => whnf
  refine sel_f (decide_eq_false (by rw [hl]; omega)) ?_
  conv => whnf
  exact ⟨rfl, rfl, rfl⟩
theorem netAt_ok (n : Nt) (k : Nat) (hk : k < n.R.length) (id : Nat) (ob : Obs) (pb : Nat) (hob : ob[id]? = some n.cells) : Gives envC 657 [.optr id 0, .int .i64 k] ob pb (.int .i64 0, ob) := by
  have hl : (n.R.map Dg.row).length = n.R.length := by simp
  unfold Nt.cells at hob
  generalize n.R.map Dg.row = X at *
  refine gives_code (f := tf657) rfl ?_
  conv => whnf
  refine ⟨_, _, ⟨hob, rfl, rfl⟩, ?_⟩
  conv => whnf
  refine sel_f (decide_eq_false (by omega)) ?_
  conv => whnf
  exact ⟨rfl, rfl, rfl⟩
theorem netCopied_ok (d : Dg) (hd : d.p.length ≤ 65536) (ob : Obs) (pb : Nat) : Gives envC 656 [.agg d.row] ob pb (.agg d.row, ob) := by
  have g : ∀ ob pb, Gives envC 635 [.sl false 0 1 (d.p.map brw) []] ob pb (.sl true 0 1 (d.p.map brw) [], ob) := fun ob pb => by
    refine gives_ext (F := bcloneF) rfl ?_
    show (byteRows (d.p.map brw)).bind _ = _
    have : byteRows (d.p.map brw) = some d.p := byteRows_map d.p
    rw [this]
    simp only [Option.bind_some]
    rw [if_pos (by omega)]
  have nr : ∀ n, (LV.sl true 0 1 (d.p.map brw) []).noRef n = true := fun n => noRefB n true d.p
  unfold Dg.row
  generalize d.p.map brw = B at *
  refine gives_code (f := tf656) rfl ?_
  conv => whnf
  refine ⟨_, _, g _ _, fun _ => nr _, ?_⟩
  conv => whnf
  exact ⟨rfl, rfl, rfl⟩
theorem row_noRef (n : Nat) (d : Dg) : LV.noRef n (.agg d.row) = true := by
  have := noRefB n false d.p
  show (true && (true && (true && (true && (LV.noRef n (.sl false 0 1 (d.p.map brw) []) && true))))) = true
  rw [show LV.noRef n (.sl false 0 1 (d.p.map brw) []) = true from this]; rfl
end Tree.C12
