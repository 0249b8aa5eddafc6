/- Package refs: the law RefsOrder: deeds in another order lead to the same exports. -/
import Derived.Test.YtkeadnggllgphaaR16R
set_option autoImplicit false
set_option linter.unusedVariables false
set_option linter.unusedSimpArgs false
namespace Tree.R16
open Go Tree
set_option maxHeartbeats 8000000
set_option maxRecDepth 100000
theorem dSent_add (to : Int) : ∀ (vs : List NV3) (D : K3 → Int) (k : K3), dSent to vs D k = D k + dSent to vs (fun _ => 0) k
  | [], D, k => by simp [dSent]
  | x :: vs, D, k => by
    have h1 := dSent_add to vs (upD D (x.1, x.2, to) 1) k
    have h2 := dSent_add to vs (upD (fun _ => 0) (x.1, x.2, to) 1) k
    have e : ∀ E : K3 → Int, dSent to (x :: vs) E = dSent to vs (upD E (x.1, x.2, to) 1) := fun E => rfl
    rw [e, e, h1, h2]
    unfold upD; dsimp only; omega
theorem dD_add (d : Dd) (D : K3 → Int) (k : K3) : dD D d k = D k + dD (fun _ => 0) d k := by
  unfold dD
  split
  · split
    · exact dSent_add _ _ _ _
    · simp
  · split
    · split
      · unfold upD; dsimp only; omega
      · simp
    · split
      · split
        · unfold upD; dsimp only; omega
        · simp
      · simp
def dsum (k : K3) : List Dd → Int
  | [] => 0
  | d :: l => dD (fun _ => 0) d k + dsum k l
theorem dsum_app (k : K3) : ∀ a b : List Dd, dsum k (a ++ b) = dsum k a + dsum k b
  | [], b => by simp [dsum]
  | x :: a, b => by simp only [List.cons_append, dsum, dsum_app k a b]; omega
theorem dsum_rev (k : K3) : ∀ a : List Dd, dsum k a.reverse = dsum k a
  | [] => rfl
  | x :: a => by simp only [List.reverse_cons, dsum_app, dsum, dsum_rev k a]; omega
theorem fold_sum (k : K3) : ∀ (l : List Dd) (D : K3 → Int), l.foldl dD D k = D k + dsum k l
  | [], D => by simp [dsum]
  | d :: l, D => by
    simp only [List.foldl_cons, dsum]
    rw [fold_sum k l, dD_add]; omega
theorem fold_rev (l : List Dd) (k : K3) : l.reverse.foldl dD (fun _ => 0) k = l.foldl dD (fun _ => 0) k := by
  rw [fold_sum, fold_sum, dsum_rev]
theorem wgt_rev (l : List Dd) : wgt l.reverse = wgt l := by
  induction l with
  | nil => rfl
  | cons x l ih =>
    unfold wgt at *
    rw [List.reverse_cons, List.map_append, List.sum_append, ih]
    simp only [List.map_cons, List.map_nil, List.sum_cons, List.sum_nil]; omega
theorem r4 {R : List (K3 × Int)} {i : Nat} {x : K3 × Int} (h : R[i]? = some x) : (R.map row4)[((i : Nat) : Int).toNat]? = some (row4 x) := by
  rw [List.getElem?_map]; show (R[i]?).map _ = _; rw [h]; rfl
theorem same_ok (o o' : Bool) (a a' : Nat) (R : List (K3 × Int)) (sp sp' : List (List LV)) (hl : R.length ≤ 4611686018427387904) (ob : Obs) (pb : Nat) : Gives env16z 398 [.sl o a 4 (R.map row4) sp, .sl o' a' 4 (R.map row4) sp'] ob pb (.bool true, ob) := by
  have hlen : (R.map row4).length = R.length := by simp
  refine gives_code (f := tf398) rfl ?_
  conv => whnf
  refine sel_f (by simp) ?_
  conv => whnf
  refine loop_x (V := fun i : Nat => [(5, .val (.int .i64 i))]) (O := fun _ => ob) (m := fun i => R.length - i) (P := fun i => i ≤ R.length) ?_ 0 (Nat.zero_le _) rfl
  intro Q i hi hN hE hR
  conv => whnf
  refine sel_split (fun hq => ?_) (fun hq => ?_)
  · conv => whnf
    have hq := of_decide_eq_true hq
    rw [hlen] at hq
    obtain ⟨x, hx⟩ : ∃ x, R[i]? = some x := ⟨_, List.getElem?_eq_getElem (show i < R.length by omega)⟩
    have e : IntKind.i64.wrap ((i : Int) + 1) = ((i + 1 : Nat) : Int) := by rw [wrap64] <;> omega
    refine ⟨_, ⟨by omega, r4 hx⟩, ?_⟩
    conv => whnf
    refine ⟨_, ⟨by omega, r4 hx⟩, ?_⟩
    conv => whnf
    rw [show (x.1.1 == x.1.1) = true from beq_self_eq_true _, show (x.1.2.1 == x.1.2.1) = true from beq_self_eq_true _, show (x.1.2.2 == x.1.2.2) = true from beq_self_eq_true _, show (x.2 == x.2) = true from beq_self_eq_true _]
    conv => whnf
    refine hN (i + 1) _ (by omega) (by omega) ?_
    rw [← e]; rfl
  · conv => whnf
    refine hE _ _ ?_
    conv => whnf
    exact ⟨rfl, rfl, rfl⟩
theorem rev_take {l : List Dd} {i : Nat} {d : Dd} (h : l[l.length - 1 - i]? = some d) (hi : i < l.length) : l.reverse.take (i + 1) = l.reverse.take i ++ [d] := by
  rw [List.take_add_one]
  congr 1
  rw [List.getElem?_reverse hi, h]; rfl
theorem order_law (lab : Nat) (l : List Dd) (sp : List (List LV)) (hl : wgt l ≤ 1048576) : ∃ ob', Gives env16z 663 [.sl false lab 4 (l.map Dd.row) sp] [] 0 (.bool true, ob') := by
  have hlen : (l.map Dd.row).length = l.length := by simp
  have hll := wgt_len l
  obtain ⟨ob1, G1, r1, t1, l1⟩ := run_ok false lab l sp (by omega) [] 0 (by simp)
  obtain ⟨c1, es1, w1, n1, k1, x1⟩ := exports_ok t1 (by omega)
  obtain ⟨ob2, G2, r2, t2, l2⟩ := run_ok false 0 l.reverse [] (by rw [wgt_rev]; omega) ob1 0 (by omega)
  rw [wgt_rev] at t2
  obtain ⟨c2, es2, w2, n2, k2, x2⟩ := exports_ok t2 (by omega)
  have es : isortK (es2.map kn) = isortK (es1.map kn) := rows_same w2 w1 fun k => by rw [k1, k2, fold_rev]
  rw [es] at x2
  have hR : (isortK (es1.map kn)).length ≤ 1048576 := by
    rw [(isortK_perm _).length_eq, List.length_map]; omega
  generalize isortK (es1.map kn) = R at x1 x2 hR
  refine gives_codeE (f := tf663) rfl ?_
  conv => whnf
  refine ⟨_, _, live16_ok _ _, fun _ => rfl, ?_⟩
  conv => whnf
  have e0 : IntKind.i64.wrap ((l.length : Int) - 1) = (l.length : Int) - 1 := by rw [wrap64] <;> omega
  refine loop_x (V := fun i : Nat × Int => [(3, .val (.sl true 0 4 ((l.reverse.take i.1).map Dd.row) [])), (4, .val (.int .i64 i.2))]) (O := fun _ => []) (m := fun i => l.length - i.1) (P := fun i => i.1 ≤ l.length ∧ i.2 = (l.length : Int) - 1 - i.1) ?_ (0, (l.length : Int) - 1) ⟨Nat.zero_le _, by show _ = _; omega⟩ ?_
  rotate_left
  · rw [hlen, e0]
    rfl
  rintro Q ⟨i, z⟩ ⟨hi, hz⟩ hN hE hR
  dsimp only at hi hz
  have htl : ((l.reverse.take i).map Dd.row).length = i := by simp; omega
  conv => whnf
  refine sel_split (fun hq => ?_) (fun hq => ?_)
  · conv => whnf
    have hq := of_decide_eq_true hq
    obtain ⟨d, hd⟩ : ∃ d, l[l.length - 1 - i]? = some d := ⟨_, List.getElem?_eq_getElem (show l.length - 1 - i < l.length by omega)⟩
    have e : IntKind.i64.wrap (z - 1) = z - 1 := by rw [wrap64] <;> omega
    have hrow : (l.map Dd.row)[z.toNat]? = some d.row := by
      have : z.toNat = l.length - 1 - i := by omega
      rw [this, List.getElem?_map, hd]; rfl
    have ht := rev_take hd (by omega)
    refine ⟨_, ⟨by omega, hrow⟩, ?_⟩
    conv => whnf
    refine ⟨_, ⟨.inl rfl, ?_, rfl⟩, ?_⟩
    · rw [htl]; show (i + 1) * 48 ≤ _; omega
    conv => whnf
    refine hN (i + 1, z - 1) _ ⟨by show i + 1 ≤ _; omega, by show z - 1 = _; rw [hz]; push_cast; omega⟩ (by show l.length - (i + 1) < l.length - i; omega) ?_
    rw [e]
    show _ = WSt.headX _ _ [(3, .val (.sl true 0 4 ((l.reverse.take (i + 1)).map Dd.row) [])), (4, .val (.int .i64 (z - 1)))] _
    rw [ht, List.map_append]; rfl
  · conv => whnf
    have hq := of_decide_eq_false hq
    have : i = l.length := by omega
    subst this
    refine hE _ _ ?_
    conv => whnf
    have et : l.reverse.take l.length = l.reverse := by rw [← List.length_reverse, List.take_length]
    rw [et]
    refine ⟨_, _, r1, fun h => (nomatch h), ?_⟩
    conv => whnf
    refine ⟨_, _, x1 _, fun _ => rows_noRef4 _ _, ?_⟩
    conv => whnf
    refine ⟨_, _, r2, fun h => (nomatch h), ?_⟩
    conv => whnf
    refine ⟨_, _, x2 _, fun _ => rows_noRef4 _ _, ?_⟩
    conv => whnf
    refine ⟨_, _, same_ok _ _ _ _ R _ _ (by omega) _ _, fun _ => rfl, ?_⟩
    conv => whnf
    exact ⟨rfl, rfl⟩
end Tree.R16
