/- Package refs: a table; Sent, Added, Released. -/
import Derived.Test.YtfdamolkgfcoiaaR16O
set_option autoImplicit false
set_option linter.unusedVariables false
set_option linter.unusedSimpArgs false
namespace Tree.R16
open Go Tree
set_option maxHeartbeats 8000000
set_option maxRecDepth 100000
/-- A table of node me of four at n: raw counts of its exports and imports. -/
def TB (n : Nat) (me : Int) (ob : Obs) (D G : K3 → Int) (L : Nat) : Prop :=
  ∃ c es ci is, ob[n]? = some (m3 c es) ∧ ob[n + 1]? = some (m3 ci is) ∧ ob[n + 2]? = some [.int .i64 me, .int .i64 4, .mref n, .mref (n + 1)] ∧ W3 c es ∧ W3 ci is ∧
    (∀ k, lk3 es k = IntKind.i64.wrap (D k)) ∧ (∀ k, lk3 is k = IntKind.i64.wrap (G k)) ∧ es.length ≤ L ∧ is.length ≤ L
def Keep (n : Nat) (ob ob' : Obs) : Prop := ob'.length = ob.length ∧ ∀ j, j ≠ n → j ≠ n + 1 → ob'[j]? = ob[j]?
theorem Keep.refl (n : Nat) (ob : Obs) : Keep n ob ob := ⟨rfl, fun _ _ _ => rfl⟩
theorem Keep.trans {n : Nat} {a b c : Obs} (h : Keep n a b) (h' : Keep n b c) : Keep n a c := ⟨h'.1.trans h.1, fun j h1 h2 => (h'.2 j h1 h2).trans (h.2 j h1 h2)⟩
theorem TB.mono {n : Nat} {me : Int} {ob : Obs} {D G : K3 → Int} {L L' : Nat} (h : TB n me ob D G L) (hl : L ≤ L') : TB n me ob D G L' := by
  obtain ⟨c, es, ci, is, h1, h2, h3, h4, h5, h6, h7, h8, h9⟩ := h
  exact ⟨c, es, ci, is, h1, h2, h3, h4, h5, h6, h7, by omega, by omega⟩
def upD (D : K3 → Int) (k : K3) (by_ : Int) : K3 → Int := fun k' => D k' + if k' = k then by_ else 0
/-- A count is added to the exports. -/
theorem TB.addE {n : Nat} {me : Int} {ob : Obs} {D G : K3 → Int} {L : Nat} (h : TB n me ob D G L) (k : K3) (by_ : Int) (hk : 0 ≤ k.2.2 ∧ k.2.2 < 4294967296) :
    ∃ ob', (∀ pb, pb ≤ n → Gives env16z 423 [.mref n, .agg (krow k), .int .i64 by_] ob pb (.tup [], ob')) ∧ TB n me ob' (upD D k by_) G (L + 1) ∧ Keep n ob ob' := by
  obtain ⟨c, es, ci, is, h1, h2, h3, h4, h5, h6, h7, h8, h9⟩ := h
  obtain ⟨c', es', g1, g2, g3, g4⟩ := add3 k by_ h4 hk
  have hid : n < ob.length := (List.getElem?_eq_some_iff.1 h1).1
  refine ⟨_, fun pb hpb => g1 n ob pb hpb h1, ⟨c', es', ci, is, List.getElem?_set_self hid, ?_, ?_, g2, h5, fun k' => ?_, h7, by omega, by omega⟩, ?_⟩
  · rw [List.getElem?_set_ne (by omega)]; exact h2
  · rw [List.getElem?_set_ne (by omega)]; exact h3
  · rw [g3, h6, h6, wrap_add]
    unfold upD
    by_cases e : k' = k
    · rw [if_pos e, if_pos e, e]
    · rw [if_neg e, if_neg e, Int.add_zero]
  · exact ⟨by simp, fun j hj _ => List.getElem?_set_ne (fun e => hj e.symm)⟩
theorem TB.row {n : Nat} {me : Int} {ob : Obs} {D G : K3 → Int} {L : Nat} (h : TB n me ob D G L) : ob[n + 2]? = some [.int .i64 me, .int .i64 4, .mref n, .mref (n + 1)] := by
  obtain ⟨c, es, ci, is, h1, h2, h3, _⟩ := h; exact h3
theorem other_node {me i : Int} (h : otherB me 4 i = true) : 0 ≤ i ∧ i < 4294967296 := by
  unfold otherB isB at h
  simp only [Bool.and_eq_true, decide_eq_true_eq] at h
  omega
/-- What Sent makes. -/
def eSent (me to : Int) (vs : List NV3) : Int := if otherB me 4 to then (if vs.any fun x => x.1 != me then 4 else 0) else 2
def dSent (to : Int) (vs : List NV3) (D : K3 → Int) : K3 → Int := vs.foldl (fun D x => upD D (x.1, x.2, to) 1) D
theorem sent_ok {n : Nat} {me : Int} {ob : Obs} {D G : K3 → Int} {L : Nat} (h : TB n me ob D G L) (to : Int) (lab : Nat) (o : Bool) (vs : List NV3) (sp : List (List LV)) (hl : vs.length ≤ 1099511627776) (pb : Nat) (hpb : pb ≤ n) :
    ∃ ob', Gives env16z 404 [.optr (n + 2) 0, .int .i64 to, .sl o lab 2 (vs.map nr3) sp] ob pb (.int .i64 (eSent me to vs), ob') ∧
      TB n me ob' (if eSent me to vs = 0 then dSent to vs D else D) G (L + vs.length) ∧ Keep n ob ob' := by
  have hr := h.row
  have g1 := fun pb => isOther_ok me 4 to ob pb
  have g2 := fun pb => any174 422 0 (n + 2) lab false vs sp (fun x => x.1 != me) (by omega) ob (fun x pb => cl422 x 0 (n + 2) me 4 _ _ ob pb hr) pb
  have hlen : (vs.map nr3).length = vs.length := by simp
  cases ho : otherB me 4 to with
  | false =>
    have e : eSent me to vs = 2 := by unfold eSent; rw [ho]; rfl
    rw [ho] at g1
    rw [e]
    refine ⟨ob, ?_, h.mono (by omega), Keep.refl _ _⟩
    refine gives_code (f := tf404) rfl ?_
    conv => whnf
    refine ⟨_, _, ⟨hr, rfl, rfl⟩, ?_⟩
    conv => whnf
    refine ⟨_, _, g1 _, fun _ => rfl, ?_⟩
    conv => whnf
    exact ⟨rfl, rfl, rfl⟩
  | true =>
    rw [ho] at g1
    cases ha : vs.any (fun x => x.1 != me) with
    | true =>
      have e : eSent me to vs = 4 := by unfold eSent; rw [ho, ha]; rfl
      rw [ha] at g2
      rw [e]
      refine ⟨ob, ?_, h.mono (by omega), Keep.refl _ _⟩
      refine gives_code (f := tf404) rfl ?_
      conv => whnf
      refine ⟨_, _, ⟨hr, rfl, rfl⟩, ?_⟩
      conv => whnf
      refine ⟨_, _, g1 _, fun _ => rfl, ?_⟩
      conv => whnf
      refine ⟨_, _, g2 _, fun _ => rfl, ?_⟩
      conv => whnf
      exact ⟨rfl, rfl, rfl⟩
    | false =>
      have e : eSent me to vs = 0 := by unfold eSent; rw [ho, ha]; rfl
      rw [ha] at g2
      rw [e, if_pos rfl]
      have hto := other_node ho
      -- the states
      have walk : ∀ i, i ≤ vs.length → ∃ obs : Nat → Obs, obs 0 = ob ∧ ∀ j, j ≤ i → TB n me (obs j) (dSent to (vs.take j) D) G (L + j) ∧ Keep n ob (obs j) ∧ (∀ x, j < i → vs[j]? = some x → ∀ pb, pb ≤ n → Gives env16z 423 [.mref n, .agg (krow (x.1, x.2, to)), .int .i64 1] (obs j) pb (.tup [], obs (j + 1))) := by
        intro i
        induction i with
        | zero => exact fun _ => ⟨fun _ => ob, rfl, fun j hj => by have : j = 0 := by omega
                                                                   subst this; exact ⟨h, Keep.refl _ _, fun x hx => by omega⟩⟩
        | succ i ih =>
          intro hi
          obtain ⟨obs, h0, h1⟩ := ih (by omega)
          obtain ⟨x, hx⟩ : ∃ x, vs[i]? = some x := ⟨_, List.getElem?_eq_getElem (show i < vs.length by omega)⟩
          obtain ⟨t1, t2, t3⟩ := h1 i (Nat.le_refl _)
          obtain ⟨ob', s1, s2, s3⟩ := t1.addE (x.1, x.2, to) 1 hto
          refine ⟨fun j => if j ≤ i then obs j else ob', by simp [h0], fun j hj => ?_⟩
          by_cases hji : j ≤ i
          · obtain ⟨u1, u2, u3⟩ := h1 j hji
            simp only [if_pos hji]
            refine ⟨u1, u2, fun y hy hq pb hpb => ?_⟩
            by_cases hji2 : j = i
            · subst hji2
              rw [if_neg (by omega)]
              rw [hx] at hq; cases hq
              exact s1 pb hpb
            · rw [if_pos (by omega)]
              exact u3 y (by omega) hq pb hpb
          · have : j = i + 1 := by omega
            subst this
            simp only [if_neg hji]
            refine ⟨?_, t2.trans s3, fun y hy => by omega⟩
            have e2 : dSent to (vs.take (i + 1)) D = upD (dSent to (vs.take i) D) (x.1, x.2, to) 1 := by
              unfold dSent; rw [List.take_add_one, hx]; simp [List.foldl_append]
            rw [e2]; exact s2
      obtain ⟨obs, h0, h1⟩ := walk vs.length (Nat.le_refl _)
      refine ⟨obs vs.length, ?_, ?_, (h1 _ (Nat.le_refl _)).2.1⟩
      · refine gives_code (f := tf404) rfl ?_
        conv => whnf
        refine ⟨_, _, ⟨hr, rfl, rfl⟩, ?_⟩
        conv => whnf
        refine ⟨_, _, g1 _, fun _ => rfl, ?_⟩
        conv => whnf
        refine ⟨_, _, g2 _, fun _ => rfl, ?_⟩
        conv => whnf
        refine loop_x (V := fun i : Nat => [(26, .val (.int .i64 i))]) (O := fun i => obs i) (m := fun i => vs.length - i) (P := fun i => i ≤ vs.length) ?_ 0 (Nat.zero_le _) (by rw [h0]; rfl)
        intro R i hi hN hE hR
        have hri := (h1 i hi).1.row
        conv => whnf
        refine sel_split (fun hq => ?_) (fun hq => ?_)
        · conv => whnf
          have hq := of_decide_eq_true hq
          rw [hlen] at hq
          obtain ⟨x, hx⟩ : ∃ x, vs[i]? = some x := ⟨_, List.getElem?_eq_getElem (show i < vs.length by omega)⟩
          refine ⟨_, ⟨by omega, row3 hx⟩, ?_⟩
          conv => whnf
          refine ⟨_, _, ⟨hri, rfl, rfl⟩, ?_⟩
          conv => whnf
          refine ⟨_, _, (h1 i hi).2.2 x (by omega) hx _ hpb, fun h => (nomatch h), ?_⟩
          conv => whnf
          have e : IntKind.i64.wrap ((i : Int) + 1) = ((i + 1 : Nat) : Int) := by rw [wrap64] <;> omega
          refine hN (i + 1) _ (by omega) (by omega) ?_
          rw [← e]; rfl
        · conv => whnf
          have hq := of_decide_eq_false hq
          rw [hlen] at hq
          have : i = vs.length := by omega
          subst this
          refine hE _ _ ?_
          conv => whnf
          exact ⟨rfl, rfl, rfl⟩
      · have := (h1 _ (Nat.le_refl _)).1
        rwa [List.take_length] at this
end Tree.R16
