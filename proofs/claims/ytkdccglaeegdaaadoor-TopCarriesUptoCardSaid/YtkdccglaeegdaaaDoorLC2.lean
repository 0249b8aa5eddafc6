/- Package net: Concat, Send, out, Deliver, Drop, Double. -/
import Derived.Test.YtkdccglaeegdaaaDoorLC1
set_option autoImplicit false
set_option linter.unusedVariables false
set_option linter.unusedSimpArgs false
namespace Tree.C12
open Go Tree Tree.W11
set_option maxHeartbeats 8000000
set_option maxRecDepth 100000
/-- slices.Concat of two rows. -/
theorem netConcat_ok (A B sa sb : List (List LV)) (hA : A.length ≤ 1099511627776) (hB : B.length ≤ 1099511627776) (ob : Obs) (pb : Nat) :
    Gives envC 660 [.sl false 0 1 [[.sl false 0 5 A sa], [.sl false 0 5 B sb]] []] ob pb (.sl true 0 5 (A ++ B) [], ob) := by
  refine gives_code (f := tf660) rfl ?_
  conv => whnf
  refine loop_v (V := fun q : Nat × Int => [(3, .int .i64 q.2), (11, .int .i64 q.1)]) (O := fun _ => ob) (m := fun q => 2 - q.1) (P := fun q => (q.1 = 0 ∧ q.2 = 0) ∨ (q.1 = 1 ∧ q.2 = (A.length : Int)) ∨ (q.1 = 2 ∧ q.2 = (A.length : Int) + B.length)) ?_ (0, 0) (.inl ⟨rfl, rfl⟩) rfl
  rintro R ⟨i, z⟩ hi hN hE hR
  dsimp only at hi
  have e1 : IntKind.i64.wrap (0 + (A.length : Int)) = (A.length : Int) := by rw [wrap64] <;> omega
  have e2 : IntKind.i64.wrap ((A.length : Int) + (B.length : Int)) = (A.length : Int) + (B.length : Int) := by rw [wrap64] <;> omega
  rcases hi with ⟨rfl, rfl⟩ | ⟨rfl, rfl⟩ | ⟨rfl, rfl⟩
  · conv => whnf
    refine ⟨[.sl false 0 5 A sa], ⟨by dsimp only; omega, rfl⟩, ?_⟩
    conv => whnf
    refine sel_f (by rw [e1]; exact decide_eq_false (by omega)) ?_
    conv => whnf
    refine hN (1, (A.length : Int)) _ (.inr (.inl ⟨rfl, rfl⟩)) (by dsimp only; omega) ?_
    rw [e1]; rfl
  · conv => whnf
    refine ⟨[.sl false 0 5 B sb], ⟨by dsimp only; omega, rfl⟩, ?_⟩
    conv => whnf
    refine sel_f (by rw [e2]; exact decide_eq_false (by omega)) ?_
    conv => whnf
    refine hN (2, (A.length : Int) + B.length) _ (.inr (.inr ⟨rfl, rfl⟩)) (by dsimp only; omega) ?_
    rw [e2]; rfl
  · conv => whnf
    refine hE _ _ ?_
    conv => whnf
    refine ⟨_, _, gives_ext (F := growF 5 56) (r := .sl true 0 5 [] []) rfl ?_, fun _ => rfl, ?_⟩
    · show (if 5 = 5 ∧ (0 : Int) ≤ (A.length : Int) + B.length ∧ ((A.length : Int) + B.length) * ((56 : Nat) : Int) ≤ 140737488355328 ∧ (A.length : Int) + B.length ≤ 4611686018427387904 then some (LV.sl true 0 5 [] []) else none) = _
      rw [if_pos ⟨rfl, by omega, by omega, by omega⟩]
    conv => whnf
    refine loop_v (V := fun q : Nat × List (List LV) => [(6, .sl true 0 5 q.2 []), (27, .int .i64 q.1)]) (O := fun _ => ob) (m := fun q => 2 - q.1) (P := fun q => (q.1 = 0 ∧ q.2 = []) ∨ (q.1 = 1 ∧ q.2 = A) ∨ (q.1 = 2 ∧ q.2 = A ++ B)) ?_ (0, []) (.inl ⟨rfl, rfl⟩) rfl
    rintro R2 ⟨j, X⟩ hj hN2 hE2 hR2
    dsimp only at hj
    rcases hj with ⟨rfl, rfl⟩ | ⟨rfl, hX⟩ | ⟨rfl, rfl⟩
    · conv => whnf
      refine ⟨[.sl false 0 5 A sa], ⟨by dsimp only; omega, rfl⟩, ?_⟩
      conv => whnf
      refine ⟨A, ⟨.inl rfl, by show (0 + A.length) * 56 ≤ _; omega, rfl⟩, ?_⟩
      conv => whnf
      exact hN2 (1, A) _ (.inr (.inl ⟨rfl, rfl⟩)) (by dsimp only; omega) rfl
    · conv => whnf
      refine ⟨[.sl false 0 5 B sb], ⟨by dsimp only; omega, rfl⟩, ?_⟩
      conv => whnf
      subst hX
      refine ⟨X ++ B, ⟨.inl rfl, by show (X.length + B.length) * 56 ≤ _; omega, rfl⟩, ?_⟩
      conv => whnf
      exact hN2 (2, X ++ B) _ (.inr (.inr ⟨rfl, rfl⟩)) (by dsimp only; omega) rfl
    · conv => whnf
      refine hE2 _ _ ?_
      conv => whnf
      exact ⟨rfl, rfl, rfl⟩
theorem rowC_get {l : List Dg} {j : Nat} {d : Dg} (h : l[j]? = some d) : (l.map Dg.row)[((j : Nat) : Int).toNat]? = some d.row := by
  show (l.map Dg.row)[j]? = _
  rw [List.getElem?_map, h]; rfl
def Nt.sent (n : Nt) (d : Dg) : Nt := { n with a := inc n.a, R := n.R ++ [d] }
theorem netSend_ok (n : Nt) (s : Int) (hs : 0 ≤ s) (p : List Int) (hp : p.length ≤ 65536) (hR : n.R.length ≤ 1099511627776) (o : Bool) (id : Nat) (ob : Obs) (pb : Nat) (hpb : pb ≤ id) (hob : ob[id]? = some n.cells) :
    Gives envC 650 [.optr id 0, .sl o 0 5 [(Dg.mk 0 1 false s p).row] []] ob pb (.int .i64 0, ob.set id (n.sent (Dg.mk 0 1 false s p)).cells) := by
  have hid : id < ob.length := (List.getElem?_eq_some_iff.1 hob).1
  have gl := fun pb => netLook_ok n s hs p hp id ob pb hob
  have gc := fun ob pb => netCopied_ok (Dg.mk 0 1 false s p) hp ob pb
  have nro := fun n => row_noRef n (Dg.mk 0 1 false s p)
  have hg1 : ∀ c : List LV, (ob.set id c)[id]? = some c := fun c => List.getElem?_set_self hid
  have hg2 : ∀ a b : List LV, ((ob.set id a).set id b)[id]? = some b := fun a b => List.getElem?_set_self (by rw [List.length_set]; exact hid)
  have happ : (n.R ++ [Dg.mk 0 1 false s p]).map Dg.row = n.R.map Dg.row ++ [(Dg.mk 0 1 false s p).row] := by simp
  have hRl : (n.R.map Dg.row).length = n.R.length := by simp
  unfold Nt.sent Nt.cells inc at *
  dsimp only at *
  rw [happ]
  unfold Dg.row at *
  dsimp only at *
  generalize hB : p.map brw = B at *
  generalize n.R.map (fun d => [LV.int .i64 d.f, .int .i64 d.t, .bool d.a, .int .i64 d.s, .sl false 0 1 (d.p.map brw) []]) = X at *
  refine gives_code (f := tf650) rfl ?_
  conv => whnf
  refine loop_v (V := fun i : Nat => [(14, .int .i64 i)]) (O := fun _ => ob) (m := fun i => 1 - i) (P := fun i => i ≤ 1) ?_ 0 (Nat.zero_le _) rfl
  intro R i hi hN hE hR
  have hi2 : i = 0 ∨ i = 1 := by omega
  rcases hi2 with rfl | rfl
  · conv => whnf
    refine ⟨_, ⟨by decide, rfl⟩, ?_⟩
    conv => whnf
    refine ⟨_, _, gl _, fun _ => rfl, ?_⟩
    conv => whnf
    exact hN 1 _ (by omega) (by omega) rfl
  · conv => whnf
    refine hE _ _ ?_
    conv => whnf
    refine loop_v (V := fun i : Nat => [(27, .int .i64 i)]) (O := fun i => if i = 0 then ob else ob.set id [.int .i64 n.a, .int .i64 n.b, .int .i64 n.c, .int .i64 n.d, .int .i64 2, .sl true 0 5 (X ++ [[.int .i64 0, .int .i64 1, .bool false, .int .i64 s, .sl false 0 1 B []]]) []]) (m := fun i => 1 - i) (P := fun i => i ≤ 1) ?_ 0 (Nat.zero_le _) rfl
    intro R2 j hj hN2 hE2 hR2
    have hj2 : j = 0 ∨ j = 1 := by omega
    rcases hj2 with rfl | rfl
    · rw [if_pos rfl]
      conv => whnf
      refine ⟨_, ⟨by decide, rfl⟩, ?_⟩
      conv => whnf
      refine ⟨_, _, ⟨hob, rfl, rfl⟩, ?_⟩
      conv => whnf
      refine ⟨_, _, gc _ _, fun _ => nro _, ?_⟩
      conv => whnf
      refine ⟨_, _, _, _, ⟨hpb, hob, rfl⟩, ?_⟩
      conv => whnf
      refine ⟨_, ⟨.inl rfl, by rw [hRl]; show (_ + 1) * 56 ≤ _; omega, rfl⟩, ?_⟩
      conv => whnf
      refine ⟨_, _, ⟨hpb, hg1 _, rfl, rfl⟩, ?_⟩
      conv => whnf
      refine hN2 1 _ (by omega) (by omega) ?_
      rw [if_neg (by decide), List.set_set]; rfl
    · rw [if_neg (by decide)]
      conv => whnf
      refine hE2 _ _ ?_
      conv => whnf
      refine ⟨_, _, ⟨hg1 _, rfl, rfl⟩, ?_⟩
      conv => whnf
      refine ⟨_, _, ⟨hpb, hg1 _, rfl, rfl⟩, ?_⟩
      conv => whnf
      refine ⟨rfl, rfl, ?_⟩
      show _ = _
      rw [List.set_set]; rfl
end Tree.C12
