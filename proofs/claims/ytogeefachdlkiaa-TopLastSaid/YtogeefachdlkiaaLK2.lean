/- Package link: Send. -/
import Derived.Test.YtogeefachdlkiaaLK1
set_option autoImplicit false
set_option linter.unusedVariables false
set_option linter.unusedSimpArgs false
namespace Tree.J14
open Go
set_option maxHeartbeats 8000000
set_option maxRecDepth 100000
def upd {α : Type} (f : Nat → α) (i : Nat) (v : α) : Nat → α := fun j => if j = i then v else f j
def Lk.sent (k : Lk) (i : Nat) (d : Dg) : Lk := { k with s := upd k.s i (k.s i + 1), out := upd k.out i (k.out i ++ [d]) }
def Lk.dg (k : Lk) (i : Nat) (p : List Int) : Dg := ⟨k.own, i, false, k.s i, p⟩
theorem send_ok (k : Lk) (i : Nat) (hi : (i : Int) < k.nodes) (hn : k.nodes ≤ 4) (ho : (i : Int) ≠ k.own) (hs : 0 ≤ k.s i ∧ k.s i ≤ 4611686018427387904) (hout : (k.out i).length ≤ 1099511627776) (p : List Int) (hp : p.length ≤ 65536) (o : Bool) (sp : List (List LV)) (id : Nat) (ob : Obs) (pb : Nat) (hpb : pb ≤ id) (hob : ob[id]? = some k.cells) :
    Gives envJ 111 [.optr id 0, .int .i64 i, .sl o 0 1 (bts p) sp] ob pb (.tup [.agg (k.dg i p).row, .int .i64 0], ob.set id (k.sent i (k.dg i p)).cells) := by
  have hid : id < ob.length := (List.getElem?_eq_some_iff.1 hob).1
  have gw := fun pb => wrong_ok k i hi hn ho id ob pb hob
  have gp := fun pb => peer_ok k i hi hn ho id ob pb hob
  have go := fun o sp ob pb => own_ok (k.dg i p) (by show p.length ≤ _; omega) o sp ob pb
  have nro := fun n => row_noRef n (k.dg i p)
  have hg1 : ∀ c : List LV, (ob.set id c)[id]? = some c := fun c => List.getElem?_set_self hid
  have hbl : (bts p).length = p.length := bts_len p
  have e1 : IntKind.i64.wrap (k.s i + 1) = k.s i + 1 := by rw [wrap64] <;> omega
  have hol : ((k.out i).map Dg.row).length = (k.out i).length := by simp
  have happ : (k.out i ++ [k.dg i p]).map Dg.row = (k.out i).map Dg.row ++ [(k.dg i p).row] := by simp
  have hg2 : ∀ a b : List LV, ((ob.set id a).set id b)[id]? = some b := fun a b => List.getElem?_set_self (by rw [List.length_set]; exact hid)
  obtain ⟨own, nodes, s, out, nx⟩ := k
  unfold Lk.sent Lk.cells Lk.dg at *
  dsimp only at *
  unfold outL at *
  generalize hB : bts p = B at *
  have hi4 : i = 0 ∨ i = 1 ∨ i = 2 ∨ i = 3 := by omega
  rcases hi4 with rfl | rfl | rfl | rfl
  all_goals
    refine gives_code (f := tf111) rfl ?_
    conv => whnf
    refine ⟨_, _, gw _, fun _ => rfl, ?_⟩
    conv => whnf
    refine sel_f (by simp; omega) ?_
    conv => whnf
    refine ⟨_, _, gp _, fun _ => decide_eq_true hid, ?_⟩
    conv => whnf
    refine ⟨_, _, ⟨hob, rfl, rfl⟩, ?_⟩
    conv => whnf
    refine ⟨_, _, ⟨hob, rfl, rfl⟩, ?_⟩
    conv => whnf
    refine ⟨_, _, ⟨hob, rfl, rfl⟩, ?_⟩
    conv => whnf
    rw [e1]
    refine ⟨_, _, ⟨hpb, hob, rfl, rfl⟩, ?_⟩
    conv => whnf
    refine ⟨_, _, ⟨hg1 _, rfl, rfl⟩, ?_⟩
    conv => whnf
    refine ⟨_, _, go _ _ _ _, fun _ => nro _, ?_⟩
    conv => whnf
    refine ⟨_, _, _, _, ⟨hpb, hg1 _, rfl⟩, ?_⟩
    conv => whnf
    refine ⟨_, ⟨.inl rfl, by rw [hol]; show (_ + 1) * 56 ≤ _; omega, happ⟩, ?_⟩
    conv => whnf
    refine ⟨_, _, ⟨hpb, hg2 _ _, rfl, rfl⟩, ?_⟩
    conv => whnf
    refine ⟨_, _, go _ _ _ _, fun _ => nro _, ?_⟩
    conv => whnf
    refine ⟨rfl, rfl, ?_⟩
    show _ = _
    rw [List.set_set, List.set_set]; rfl
end Tree.J14
