/- purlintop.TopLast: the data; which. -/
import Derived.Test.YtogeefachdlkiaaLK4
set_option autoImplicit false
set_option linter.unusedVariables false
set_option linter.unusedSimpArgs false
namespace Tree.J14
open Go
set_option maxHeartbeats 8000000
set_option maxRecDepth 100000
theorem which_ok (n all : Int) (hn : -9223372036854775808 ≤ n ∧ n ≤ 9223372036854775807) (ha : 0 < all ∧ all ≤ 4611686018427387904) : ∃ k : Nat, (k : Int) < all ∧ ∀ ob pb, Gives envJ 592 [.int .i64 n, .int .i64 all] ob pb (.int .i64 k, ob) := by
  have h1 := Int.tmod_lt_of_pos n ha.1
  have h2 : -all < n.tmod all := by
    have := Int.tmod_lt_of_pos (-n) ha.1
    rw [Int.neg_tmod] at this; omega
  by_cases hneg : n.tmod all < 0
  · refine ⟨(n.tmod all + all).toNat, by omega, fun ob pb => ?_⟩
    have e1 : IntKind.i64.wrap (n.tmod all + all) = ((n.tmod all + all).toNat : Int) := by rw [wrap64] <;> omega
    refine gives_code (f := tf592) rfl ?_
    conv => whnf
    refine ⟨by omega, ?_⟩
    conv => whnf
    refine sel_t (decide_eq_true hneg) ?_
    conv => whnf
    refine ⟨rfl, ?_, rfl⟩
    rw [← e1]; rfl
  · refine ⟨(n.tmod all).toNat, by omega, fun ob pb => ?_⟩
    have e1 : n.tmod all = ((n.tmod all).toNat : Int) := by omega
    refine gives_code (f := tf592) rfl ?_
    conv => whnf
    refine ⟨by omega, ?_⟩
    conv => whnf
    refine sel_f (decide_eq_false hneg) ?_
    conv => whnf
    refine ⟨rfl, ?_, rfl⟩
    rw [← e1]; rfl
/-- Datagrams of payloads, numbered. -/
def dgs (P : List (List Int)) : List Dg := P.zipIdx.map fun q => ⟨0, 1, false, (q.2 : Int), q.1⟩
theorem dgs_snoc (P : List (List Int)) (p : List Int) : dgs (P ++ [p]) = dgs P ++ [⟨0, 1, false, (P.length : Int), p⟩] := by
  unfold dgs
  rw [List.zipIdx_append, List.map_append]; simp
theorem dgs_len (P : List (List Int)) : (dgs P).length = P.length := by simp [dgs]
theorem dgs_get {P : List (List Int)} {i : Nat} {p : List Int} (h : P[i]? = some p) : (dgs P)[i]? = some ⟨0, 1, false, (i : Int), p⟩ := by
  unfold dgs; rw [List.getElem?_map, List.getElem?_zipIdx, h]; simp
/-- The link that has sent them. -/
def lkP (P : List (List Int)) : Lk := ⟨0, 2, upd (fun _ => 0) 1 (P.length : Int), upd (fun _ => []) 1 (dgs P), fun _ => 0⟩
theorem lkP_snoc (P : List (List Int)) (p : List Int) : ((lkP P).sent 1 ((lkP P).dg 1 p)).cells = (lkP (P ++ [p])).cells := by
  simp [Lk.cells, lkP, upd, Lk.sent, Lk.dg, dgs_snoc]
theorem lkP_flat (P : List (List Int)) : (lkP P).flat 4 = dgs P := by
  simp [Lk.flat, lkP, upd]
/-- Payloads as the law finds them. -/
def rowP (q : List Int × List (List LV)) : List LV := [.sl false 0 1 (bts q.1) q.2]
theorem rowP_get {L : List (List Int × List (List LV))} {i : Nat} {q : List Int × List (List LV)} (h : L[i]? = some q) : (L.map rowP)[((i : Nat) : Int).toNat]? = some [.sl false 0 1 (bts q.1) q.2] := by
  show (L.map rowP)[i]? = _
  rw [List.getElem?_map, h]; rfl
theorem dsk_bound : ∀ (P : List (List Int)), (∀ p ∈ P, p.length ≤ 1000) → (dsk P).length ≤ 1008 * P.length
  | [], _ => by simp [dsk]
  | p :: P, h => by
    have := dsk_bound P (fun q hq => h q (List.mem_cons_of_mem _ hq))
    have := h p (List.mem_cons_self ..)
    rw [dsk_cons, List.length_append, recL_len, List.length_cons]; omega
theorem outL_noRef (n : Nat) (l : List Dg) : (outL l).noRef n = true := by
  have : ∀ l : List Dg, LV.noRefss n (l.map Dg.row) = true := by
    intro l
    induction l with
    | nil => rfl
    | cons d r ih =>
      have h := row_noRef n d
      simp only [LV.noRef] at h
      simp only [List.map_cons, LV.noRefss, h, ih, Bool.and_self]
  simp [outL, LV.noRef, LV.noRefss, this]
end Tree.J14
