/- RefsSafe: nobody holds it; exported. -/
import Derived.Test.YtkeadnggllgphaaR16V
set_option autoImplicit false
set_option linter.unusedVariables false
set_option linter.unusedSimpArgs false
namespace Tree.R16
open Go Tree
set_option maxHeartbeats 8000000
set_option maxRecDepth 100000
theorem nrow {l : List Nte} {i : Nat} {x : Nte} (h : l[i]? = some x) : (l.map ntr)[((i : Nat) : Int).toNat]? = some (ntr x) := by
  rw [List.getElem?_map]; show (l[i]?).map _ = _; rw [h]; rfl
def FreeS (S : Ws) : Prop := ∀ i, 1 ≤ i → i < 4 → S.H i = 0 ∧ ∀ k, k < 4 → ∀ m ∈ S.w k i, m.1 ≠ 0
theorem held0_ok {a : Nat} {y : Int} {ob : Obs} {S : Ws} {L : Nat} (h : WS a y ob S L) (hS : ∀ f t, (S.w f t).length ≤ 1000000) (hF : FreeS S) (pb : Nat) :
    Gives env16z 402 [.optr a 0, .agg (nr3 (0, y))] ob pb (.bool false, ob) := by
  obtain ⟨cs, hob, hc⟩ := h.cell
  have hn := hc.notMap
  have htab : ∀ i : Nat, i < 4 → partE false (0 + 0 + (i : Int).toNat * 1) 1 cs = some (.optr (a + 3 + 3 * i) 0) := by
    intro i hi
    have : 0 + 0 + (i : Int).toNat * 1 = i := by omega
    rw [this]; exact hc.tab i hi
  have hway : ∀ f t : Nat, f < 4 → t < 4 → partE false (0 + 4 + (f : Int).toNat * 4 + (t : Int).toNat * 1) 1 cs = some (.sl true 0 3 ((S.w f t).map ntr) []) := by
    intro f t hf ht
    rw [off_eq f t]; exact hc.way f t hf ht
  have hheld : ∀ i : Nat, 1 ≤ i → i < 4 → ∀ pb, Gives env16z 407 [.optr (a + 3 + 3 * i) 0, .agg (nr3 (0, y))] ob pb (.int .i64 0, ob) := by
    intro i h1 h2 pb
    have g := held_ok (h.ti i h1 h2) (0, y) pb
    have e1 : dH y (S.H i) (((0, y) : NV3).1, ((0, y) : NV3).2, ((0, y) : NV3).1) = 0 := by unfold dH; rw [if_pos rfl]; exact (hF i h1 h2).1
    rw [e1, wrap_0] at g
    have e2 : a + 3 + 3 * i = a + 1 + 3 * i + 2 := by omega
    rw [e2]; exact g
  refine gives_code (f := tf402) rfl ?_
  conv => whnf
  refine loop_x (V := fun i : Nat => [(5, .val (.int .i64 i))]) (O := fun _ => ob) (m := fun i => 4 - i) (P := fun i => 1 ≤ i ∧ i ≤ 4) ?_ 1 ⟨by omega, by omega⟩ rfl
  rintro R i ⟨hi1, hi⟩ hN hE hR
  have e : IntKind.i64.wrap ((i : Int) + 1) = ((i + 1 : Nat) : Int) := by rw [wrap64] <;> omega
  conv => whnf
  refine sel_split (fun hq => ?_) (fun hq => ?_)
  · conv => whnf
    have hq := of_decide_eq_true hq
    have hi4 : i < 4 := by omega
    refine ⟨by omega, ?_⟩
    conv => whnf
    refine ⟨_, _, ⟨hob, hn, htab i hi4⟩, ?_⟩
    conv => whnf
    refine ⟨_, _, hheld i hi1 hi4 _, fun _ => rfl, ?_⟩
    conv => whnf
    refine loop_x (V := fun k : Nat => [(6, .val (.int .i64 k))]) (O := fun _ => ob) (m := fun k => 4 - k) (P := fun k => k ≤ 4) ?_ 0 (by omega) rfl
    intro R2 k hk hN2 hE2 hR2
    have e2 : IntKind.i64.wrap ((k : Int) + 1) = ((k + 1 : Nat) : Int) := by rw [wrap64] <;> omega
    conv => whnf
    refine sel_split (fun hq2 => ?_) (fun hq2 => ?_)
    · conv => whnf
      have hq2 := of_decide_eq_true hq2
      have hk4 : k < 4 := by omega
      have hlen : ((S.w k i).map ntr).length = (S.w k i).length := by simp
      have hll := hS k i
      refine loop_x (V := fun x : Nat => [(7, .val (.int .i64 x))]) (O := fun _ => ob) (m := fun x => (S.w k i).length - x) (P := fun x => x ≤ (S.w k i).length) ?_ 0 (by omega) rfl
      intro R3 x hx hN3 hE3 hR3
      have e3 : IntKind.i64.wrap ((x : Int) + 1) = ((x + 1 : Nat) : Int) := by rw [wrap64] <;> omega
      conv => whnf
      refine ⟨by omega, ?_⟩
      conv => whnf
      refine ⟨by omega, ?_⟩
      conv => whnf
      refine ⟨_, _, ⟨hob, hn, hway k i hk4 hi4⟩, ?_⟩
      conv => whnf
      refine sel_split (fun hq3 => ?_) (fun hq3 => ?_)
      · conv => whnf
        have hq3 := of_decide_eq_true hq3
        rw [hlen] at hq3
        obtain ⟨m, hm⟩ : ∃ m, (S.w k i)[x]? = some m := ⟨_, List.getElem?_eq_getElem (show x < (S.w k i).length by omega)⟩
        refine ⟨by omega, ?_⟩
        conv => whnf
        refine ⟨by omega, ?_⟩
        conv => whnf
        refine ⟨_, _, ⟨hob, hn, hway k i hk4 hi4⟩, ?_⟩
        conv => whnf
        refine ⟨_, ⟨by omega, nrow hm⟩, ?_⟩
        conv => whnf
        have hm0 := (hF i hi1 hi4).2 k hk4 m (List.mem_of_getElem? hm)
        refine sel_f (by simpa using hm0) ?_
        conv => whnf
        refine hN3 (x + 1) _ (by omega) (by omega) ?_
        rw [← e3]; rfl
      · conv => whnf
        refine hE3 _ _ ?_
        conv => whnf
        refine hN2 (k + 1) _ (by omega) (by omega) ?_
        rw [← e2]; rfl
    · conv => whnf
      refine hE2 _ _ ?_
      conv => whnf
      refine hN (i + 1) _ ⟨by omega, by omega⟩ (by omega) ?_
      rw [← e]; rfl
  · conv => whnf
    refine hE _ _ ?_
    conv => whnf
    exact ⟨rfl, rfl, rfl⟩
theorem hasV_iff (x y : Int) : ∀ es : List En3, hasV x y es = true ↔ ∃ k, k ∈ es.map (·.1) ∧ k.1 = x ∧ k.2.1 = y
  | [] => by simp [hasV]
  | e :: r => by
    simp only [hasV, Bool.or_eq_true, hasV_iff x y r, Bool.and_eq_true, beq_iff_eq, List.map_cons, List.mem_cons]
    constructor
    · rintro (h | ⟨k, h1, h2⟩)
      · exact ⟨e.1, .inl rfl, h.1, h.2⟩
      · exact ⟨k, .inr h1, h2⟩
    · rintro ⟨k, rfl | h1, h2, h3⟩
      · exact .inl ⟨h2, h3⟩
      · exact .inr ⟨k, h1, h2, h3⟩
/-- Whether it is exported. -/
theorem exp_ok {a : Nat} {y : Int} {ob : Obs} {S : Ws} {L : Nat} (h : WS a y ob S L) (hL : L ≤ 1099511627776) (hE : ∀ j, -9223372036854775808 ≤ S.E j ∧ S.E j ≤ 9223372036854775807) :
    ∃ q, (∀ pb, Gives env16z 401 [.optr (a + 3 + 3 * 0) 0, .agg (nr3 (0, y))] ob pb (.bool q, ob)) ∧ (q = false ↔ ∀ j, S.E j = 0) := by
  obtain ⟨c, es, ci, is, h1, h2, h3, h4, h5, h6, h7, h8, h9⟩ := h.t0
  refine ⟨hasV 0 y es, fun pb => gives_ext (F := exportedF) rfl ?_, ?_⟩
  · have e : a + 3 + 3 * 0 = a + 1 + 2 := by omega
    rw [e]
    simp only [exportedF, nr3, h3, h1, parseM3_m3, h4.ok (by omega), if_true]
  · have hw : ∀ j, IntKind.i64.wrap (S.E j) = S.E j := fun j => wrap64 (hE j).1 (hE j).2
    constructor
    · intro hq j
      have hk : ¬ ∃ k, k ∈ es.map (·.1) ∧ k.1 = 0 ∧ k.2.1 = y := by
        intro q; rw [(hasV_iff 0 y es).2 q] at hq; cases hq
      have := h6 (0, y, j)
      unfold dE at this
      rw [if_pos ⟨rfl, rfl⟩, hw] at this
      by_cases e0 : S.E j = 0
      · exact e0
      · exact absurd ⟨(0, y, j), (h4.mem_iff _).2 (by rw [this]; exact e0), rfl, rfl⟩ hk
    · intro hz
      cases hq : hasV 0 y es with
      | false => rfl
      | true =>
        obtain ⟨k, k1, k2, k3⟩ := (hasV_iff 0 y es).1 hq
        have := (h4.mem_iff k).1 k1
        rw [h6] at this
        unfold dE at this
        rw [if_pos ⟨k2, k3⟩, hz, wrap_0] at this
        exact absurd rfl this
end Tree.R16
