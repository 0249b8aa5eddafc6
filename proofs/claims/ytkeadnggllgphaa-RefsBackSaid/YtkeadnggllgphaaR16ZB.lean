/- RefsBack: what was sent, and let go as often, is not exported; what came is let go at one time. -/
import Derived.Test.YtkeadnggllgphaaR16ZA
set_option autoImplicit false
set_option linter.unusedVariables false
set_option linter.unusedSimpArgs false
namespace Tree.R16
open Go Tree
set_option maxHeartbeats 8000000
set_option maxRecDepth 100000
theorem exp_tb {n : Nat} {y : Int} {ob : Obs} {E : Int → Int} {G : K3 → Int} {L : Nat} (h : TB n 0 ob (dE y E) G L) (hL : L ≤ 1099511627776) (hE : ∀ j, -9223372036854775808 ≤ E j ∧ E j ≤ 9223372036854775807) :
    ∃ q, (∀ pb, Gives env16z 401 [.optr (n + 2) 0, .agg (nr3 (0, y))] ob pb (.bool q, ob)) ∧ (q = false ↔ ∀ j, E j = 0) := by
  obtain ⟨c, es, ci, is, h1, h2, h3, h4, h5, h6, h7, h8, h9⟩ := h
  refine ⟨hasV 0 y es, fun pb => gives_ext (F := exportedF) rfl ?_, ?_⟩
  · simp only [exportedF, nr3, h3, h1, parseM3_m3, h4.ok (by omega), if_true]
  · have hw : ∀ j, IntKind.i64.wrap (E j) = E j := fun j => wrap64 (hE j).1 (hE j).2
    constructor
    · intro hq j
      have hk : ¬ ∃ k, k ∈ es.map (·.1) ∧ k.1 = 0 ∧ k.2.1 = y := by
        intro q; rw [(hasV_iff 0 y es).2 q] at hq; cases hq
      have := h6 (0, y, j)
      unfold dE at this
      rw [if_pos ⟨rfl, rfl⟩, hw] at this
      by_cases e0 : E j = 0
      · exact e0
      · exact absurd ⟨(0, y, j), (h4.mem_iff _).2 (by rw [this]; exact e0), rfl, rfl⟩ hk
    · intro hz
      cases hq : hasV 0 y es with
      | false => rfl
      | true =>
        obtain ⟨k, k1, k2, k3⟩ := (hasV_iff 0 y es).1 hq
        have := (h4.mem_iff k).1 k1
        rw [h6] at this
        unfold dE at this
        rw [if_pos ⟨k2, k3⟩, hz, wrap_0] at this
        exact absurd rfl this
theorem es_nil {c : Int} {es : List En3} (h : W3 c es) (hz : ∀ k, lk3 es k = 0) : es = [] := by
  cases es with
  | nil => rfl
  | cons e r => exact absurd (hz e.1) ((h.mem_iff e.1).1 (List.mem_cons_self ..))
/-- What was sent so far; what is not yet let go. -/
def eF (K : Int → Int) (n k : Int) : Int → Int := fun j => if 1 ≤ j ∧ j < n then K j else if j = n then k else 0
def gF (K : Int → Int) (n : Int) : Int → Int := fun j => if n ≤ j ∧ j < 4 then K j else 0
theorem eF_up (K : Int → Int) (n k : Int) : upE (eF K n k) n 1 = eF K n (k + 1) := by
  funext j
  unfold upE eF
  by_cases e : j = n
  · rw [if_pos e, if_neg (by omega), if_pos e, if_neg (by omega), if_pos e]
  · rw [if_neg e]
    by_cases e2 : 1 ≤ j ∧ j < n
    · rw [if_pos e2, if_pos e2]
    · rw [if_neg e2, if_neg e2, if_neg e, if_neg e]
theorem eF_next (K : Int → Int) (n : Int) (hn : 1 ≤ n) : eF K n (K n) = eF K (n + 1) 0 := by
  funext j
  unfold eF
  by_cases e : j = n
  · rw [if_neg (by omega), if_pos e, if_pos (by omega), e]
  · by_cases e2 : 1 ≤ j ∧ j < n
    · rw [if_pos e2, if_pos (by omega)]
    · rw [if_neg e2, if_neg e, if_neg (by omega)]
      split <;> rfl
theorem eF_4 (K : Int → Int) : eF K 4 0 = gF K 1 := by
  funext j
  unfold eF gF
  by_cases e : 1 ≤ j ∧ j < 4
  · rw [if_pos e, if_pos e]
  · rw [if_neg e, if_neg e]; split <;> rfl
theorem gF_next (K : Int → Int) (n : Int) (hn : n < 4) : upE (gF K n) n (-(K n)) = gF K (n + 1) := by
  funext j
  unfold upE gF
  by_cases e : j = n
  · rw [if_pos e, e, if_pos (by omega), if_neg (by omega)]; omega
  · rw [if_neg e]
    by_cases e2 : n ≤ j ∧ j < 4
    · rw [if_pos e2, if_pos (by omega)]
    · rw [if_neg e2, if_neg (by omega)]
def dW (y h : Int) : K3 → Int := fun k => if k = (2, y, 2) then h else 0
theorem dW_up (y h : Int) : upD (dW y h) (2, y, 2) 1 = dW y (h + 1) := by
  funext k
  unfold upD dW
  by_cases h1 : k = (2, y, 2)
  · rw [if_pos h1, if_pos h1, if_pos h1]
  · rw [if_neg h1, if_neg h1, if_neg h1]; omega
theorem dW_off (y h : Int) : offD (dW y h) (2, y, 2) = dW y 0 := by
  funext k
  unfold offD dW
  by_cases h1 : k = (2, y, 2)
  · rw [if_pos h1, if_pos h1]
  · rw [if_neg h1, if_neg h1, if_neg h1]
theorem three_of {α : Type} {l : List α} (h : l.length = 3) : ∃ a b c, l = [a, b, c] := by
  match l, h with
  | [a, b, c], _ => exact ⟨a, b, c, rfl⟩
def kA (a : Int) : Int := (IntKind.i64.wrap a).tmod 20
theorem kA_lt (a : Int) (h1 : 0 ≤ a) (h2 : a ≤ 255) : 0 ≤ kA a ∧ kA a < 20 := by
  unfold kA
  rw [wrap64 (by omega) (by omega), Int.tmod_eq_emod_of_nonneg h1]; omega
theorem back_law (x y a0 a1 a2 : Int) (h0 : 0 ≤ a0 ∧ a0 ≤ 255) (h1 : 0 ≤ a1 ∧ a1 ≤ 255) (h2 : 0 ≤ a2 ∧ a2 ≤ 255) : ∃ ob', Gives env16z 665 [.agg (nr3 (x, y)), .agg [.int .u8 a0, .int .u8 a1, .int .u8 a2]] [] 0 (.bool true, ob') := by
  have k0 := kA_lt a0 h0.1 h0.2
  have k1 := kA_lt a1 h1.1 h1.2
  have k2 := kA_lt a2 h2.1 h2.2
  let K : Int → Int := fun j => if j = 1 then kA a0 else if j = 2 then kA a1 else kA a2
  have hK : ∀ j, 0 ≤ K j ∧ K j < 20 := by
    intro j; show 0 ≤ (if j = 1 then kA a0 else if j = 2 then kA a1 else kA a2) ∧ (if j = 1 then kA a0 else if j = 2 then kA a1 else kA a2) < 20
    split
    · omega
    · split <;> omega
  have hK1 : K 1 = kA a0 := rfl
  have hK2 : K 2 = kA a1 := rfl
  have hK3 : K 3 = kA a2 := rfl
  obtain ⟨ob0, n1, n2, n3, n4⟩ := new_ok 0 rfl [] 0 (Nat.zero_le _)
  have T0 : TB 0 0 ob0 (dE y (eF K 1 0)) (dW y 0) 0 := n2.congr (fun k => by unfold dE eF; split <;> (try split) <;> (try split) <;> first | rfl | omega) (fun k => by unfold dW; split <;> rfl)
  clear n2 n3 n4
  refine gives_codeE (f := tf665) rfl ?_
  conv => whnf
  refine ⟨_, _, live16_ok _ _, fun _ => rfl, ?_⟩
  conv => whnf
  refine ⟨_, _, n1, fun h => (nomatch h), ?_⟩
  conv => whnf
  refine loop_x (V := fun i : Nat × Obs => [(7, .val (.int .i64 i.1))]) (O := fun i => i.2) (m := fun i => 4 - i.1) (P := fun i => 1 ≤ i.1 ∧ i.1 ≤ 4 ∧ TB 0 0 i.2 (dE y (eF K i.1 0)) (dW y 0) (20 * i.1)) ?_ (1, ob0) ⟨Nat.le_refl _, by show 1 ≤ 4; omega, T0.mono (by omega)⟩ rfl
  rintro R ⟨n, ob⟩ ⟨hn1, hn, hT⟩ hN hE hR
  dsimp only at hn1 hn hT
  conv => whnf
  refine sel_split (fun hq => ?_) (fun hq => ?_)
  · conv => whnf
    have hn4 : n < 4 := by have : ((n : Nat) : Int) ≤ 3 := of_decide_eq_true hq; omega
    have hc : n = 1 ∨ n = 2 ∨ n = 3 := by omega
    rcases hc with rfl | rfl | rfl
    · have hr1 : (0 ≤ IntKind.i64.wrap (((1 : Nat) : Int) - 1) ∧ IntKind.i64.wrap (((1 : Nat) : Int) - 1) < ((3 : Nat) : Int)) := by decide
      have ek : K ((1 : Nat) : Int) = kA a0 := rfl
      have en : IntKind.i64.wrap (((1 : Nat) : Int) + 1) = ((1 + 1 : Nat) : Int) := by decide
      refine loop_x (V := fun i : Nat × Obs => [(8, .val (.int .i64 i.1))]) (O := fun i => i.2) (m := fun i => 20 - i.1) (P := fun i => (i.1 : Int) ≤ K ((1 : Nat) : Int) ∧ TB 0 0 i.2 (dE y (eF K ((1 : Nat) : Int) i.1)) (dW y 0) (20 * 1 + i.1)) ?_ (0, ob) ⟨(hK _).1, hT⟩ rfl
      rintro R2 ⟨k, ob1⟩ ⟨hk, hT1⟩ hN2 hE2 hR2
      dsimp only at hk hT1
      have hk20 := (hK ((1 : Nat) : Int)).2
      have e8 : IntKind.i64.wrap ((k : Int) + 1) = ((k + 1 : Nat) : Int) := by rw [wrap64] <;> omega
      conv => whnf
      refine ⟨hr1, ?_⟩
      conv => whnf
      refine ⟨by decide, ?_⟩
      conv => whnf
      refine sel_split (fun hq2 => ?_) (fun hq2 => ?_)
      · conv => whnf
        have hq2 : (k : Int) < K ((1 : Nat) : Int) := by rw [ek]; exact of_decide_eq_true hq2
        obtain ⟨ob2, s1, s2, s3⟩ := sent_ok hT1 ((1 : Nat) : Int) 0 false [(0, y)] [] (by show 1 ≤ 1099511627776; omega) 0 (Nat.le_refl _)
        have e3 : eSent 0 ((1 : Nat) : Int) [(0, y)] = 0 := by
          have e4 : otherB 0 4 ((1 : Nat) : Int) = true := by decide
          unfold eSent; rw [if_pos e4]; rfl
        rw [e3] at s1
        rw [e3, if_pos rfl] at s2
        have h2 : TB 0 0 ob2 (dE y (eF K ((1 : Nat) : Int) ((k + 1 : Nat) : Int))) (dW y 0) (20 * 1 + (k + 1)) := by
          refine (s2.congr (fun q => ?_) fun _ => rfl).mono (by show 20 * 1 + k + 1 ≤ _; omega)
          rw [show ((k + 1 : Nat) : Int) = (k : Int) + 1 by omega, ← eF_up]
          exact dE_up y _ _ _ q
        refine ⟨_, _, s1, fun h => (nomatch h), ?_⟩
        conv => whnf
        refine hN2 (k + 1, ob2) _ ⟨by show ((k + 1 : Nat) : Int) ≤ _; omega, h2⟩ (by show 20 - (k + 1) < 20 - k; omega) ?_
        rw [← e8]; rfl
      · conv => whnf
        have hq2 : ¬ (k : Int) < K ((1 : Nat) : Int) := by rw [ek]; exact of_decide_eq_false hq2
        have hkk : (k : Int) = K ((1 : Nat) : Int) := by omega
        rw [hkk, eF_next K _ (by decide)] at hT1
        refine hE2 _ _ ?_
        conv => whnf
        refine hN (1 + 1, ob1) _ ⟨by show 1 ≤ 1 + 1; omega, by show 1 + 1 ≤ 4; omega, hT1.mono (by show _ ≤ 20 * (1 + 1); omega)⟩ (by show 4 - (1 + 1) < 4 - 1; omega) ?_
        rw [← en]; rfl
    · have hr1 : (0 ≤ IntKind.i64.wrap (((2 : Nat) : Int) - 1) ∧ IntKind.i64.wrap (((2 : Nat) : Int) - 1) < ((3 : Nat) : Int)) := by decide
      have ek : K ((2 : Nat) : Int) = kA a1 := rfl
      have en : IntKind.i64.wrap (((2 : Nat) : Int) + 1) = ((2 + 1 : Nat) : Int) := by decide
      refine loop_x (V := fun i : Nat × Obs => [(8, .val (.int .i64 i.1))]) (O := fun i => i.2) (m := fun i => 20 - i.1) (P := fun i => (i.1 : Int) ≤ K ((2 : Nat) : Int) ∧ TB 0 0 i.2 (dE y (eF K ((2 : Nat) : Int) i.1)) (dW y 0) (20 * 2 + i.1)) ?_ (0, ob) ⟨(hK _).1, hT⟩ rfl
      rintro R2 ⟨k, ob1⟩ ⟨hk, hT1⟩ hN2 hE2 hR2
      dsimp only at hk hT1
      have hk20 := (hK ((2 : Nat) : Int)).2
      have e8 : IntKind.i64.wrap ((k : Int) + 1) = ((k + 1 : Nat) : Int) := by rw [wrap64] <;> omega
      conv => whnf
      refine ⟨hr1, ?_⟩
      conv => whnf
      refine ⟨by decide, ?_⟩
      conv => whnf
      refine sel_split (fun hq2 => ?_) (fun hq2 => ?_)
      · conv => whnf
        have hq2 : (k : Int) < K ((2 : Nat) : Int) := by rw [ek]; exact of_decide_eq_true hq2
        obtain ⟨ob2, s1, s2, s3⟩ := sent_ok hT1 ((2 : Nat) : Int) 0 false [(0, y)] [] (by show 1 ≤ 1099511627776; omega) 0 (Nat.le_refl _)
        have e3 : eSent 0 ((2 : Nat) : Int) [(0, y)] = 0 := by
          have e4 : otherB 0 4 ((2 : Nat) : Int) = true := by decide
          unfold eSent; rw [if_pos e4]; rfl
        rw [e3] at s1
        rw [e3, if_pos rfl] at s2
        have h2 : TB 0 0 ob2 (dE y (eF K ((2 : Nat) : Int) ((k + 1 : Nat) : Int))) (dW y 0) (20 * 2 + (k + 1)) := by
          refine (s2.congr (fun q => ?_) fun _ => rfl).mono (by show 20 * 2 + k + 1 ≤ _; omega)
          rw [show ((k + 1 : Nat) : Int) = (k : Int) + 1 by omega, ← eF_up]
          exact dE_up y _ _ _ q
        refine ⟨_, _, s1, fun h => (nomatch h), ?_⟩
        conv => whnf
        refine hN2 (k + 1, ob2) _ ⟨by show ((k + 1 : Nat) : Int) ≤ _; omega, h2⟩ (by show 20 - (k + 1) < 20 - k; omega) ?_
        rw [← e8]; rfl
      · conv => whnf
        have hq2 : ¬ (k : Int) < K ((2 : Nat) : Int) := by rw [ek]; exact of_decide_eq_false hq2
        have hkk : (k : Int) = K ((2 : Nat) : Int) := by omega
        rw [hkk, eF_next K _ (by decide)] at hT1
        refine hE2 _ _ ?_
        conv => whnf
        refine hN (2 + 1, ob1) _ ⟨by show 1 ≤ 2 + 1; omega, by show 2 + 1 ≤ 4; omega, hT1.mono (by show _ ≤ 20 * (2 + 1); omega)⟩ (by show 4 - (2 + 1) < 4 - 2; omega) ?_
        rw [← en]; rfl
    · have hr1 : (0 ≤ IntKind.i64.wrap (((3 : Nat) : Int) - 1) ∧ IntKind.i64.wrap (((3 : Nat) : Int) - 1) < ((3 : Nat) : Int)) := by decide
      have ek : K ((3 : Nat) : Int) = kA a2 := rfl
      have en : IntKind.i64.wrap (((3 : Nat) : Int) + 1) = ((3 + 1 : Nat) : Int) := by decide
      refine loop_x (V := fun i : Nat × Obs => [(8, .val (.int .i64 i.1))]) (O := fun i => i.2) (m := fun i => 20 - i.1) (P := fun i => (i.1 : Int) ≤ K ((3 : Nat) : Int) ∧ TB 0 0 i.2 (dE y (eF K ((3 : Nat) : Int) i.1)) (dW y 0) (20 * 3 + i.1)) ?_ (0, ob) ⟨(hK _).1, hT⟩ rfl
      rintro R2 ⟨k, ob1⟩ ⟨hk, hT1⟩ hN2 hE2 hR2
      dsimp only at hk hT1
      have hk20 := (hK ((3 : Nat) : Int)).2
      have e8 : IntKind.i64.wrap ((k : Int) + 1) = ((k + 1 : Nat) : Int) := by rw [wrap64] <;> omega
      conv => whnf
      refine ⟨hr1, ?_⟩
      conv => whnf
      refine ⟨by decide, ?_⟩
      conv => whnf
      refine sel_split (fun hq2 => ?_) (fun hq2 => ?_)
      · conv => whnf
        have hq2 : (k : Int) < K ((3 : Nat) : Int) := by rw [ek]; exact of_decide_eq_true hq2
        obtain ⟨ob2, s1, s2, s3⟩ := sent_ok hT1 ((3 : Nat) : Int) 0 false [(0, y)] [] (by show 1 ≤ 1099511627776; omega) 0 (Nat.le_refl _)
        have e3 : eSent 0 ((3 : Nat) : Int) [(0, y)] = 0 := by
          have e4 : otherB 0 4 ((3 : Nat) : Int) = true := by decide
          unfold eSent; rw [if_pos e4]; rfl
        rw [e3] at s1
        rw [e3, if_pos rfl] at s2
        have h2 : TB 0 0 ob2 (dE y (eF K ((3 : Nat) : Int) ((k + 1 : Nat) : Int))) (dW y 0) (20 * 3 + (k + 1)) := by
          refine (s2.congr (fun q => ?_) fun _ => rfl).mono (by show 20 * 3 + k + 1 ≤ _; omega)
          rw [show ((k + 1 : Nat) : Int) = (k : Int) + 1 by omega, ← eF_up]
          exact dE_up y _ _ _ q
        refine ⟨_, _, s1, fun h => (nomatch h), ?_⟩
        conv => whnf
        refine hN2 (k + 1, ob2) _ ⟨by show ((k + 1 : Nat) : Int) ≤ _; omega, h2⟩ (by show 20 - (k + 1) < 20 - k; omega) ?_
        rw [← e8]; rfl
      · conv => whnf
        have hq2 : ¬ (k : Int) < K ((3 : Nat) : Int) := by rw [ek]; exact of_decide_eq_false hq2
        have hkk : (k : Int) = K ((3 : Nat) : Int) := by omega
        rw [hkk, eF_next K _ (by decide)] at hT1
        refine hE2 _ _ ?_
        conv => whnf
        refine hN (3 + 1, ob1) _ ⟨by show 1 ≤ 3 + 1; omega, by show 3 + 1 ≤ 4; omega, hT1.mono (by show _ ≤ 20 * (3 + 1); omega)⟩ (by show 4 - (3 + 1) < 4 - 3; omega) ?_
        rw [← en]; rfl
  · conv => whnf
    have hn4 : n = 4 := by have : ¬ ((n : Nat) : Int) ≤ 3 := of_decide_eq_false hq; omega
    subst hn4
    refine hE _ _ ?_
    conv => whnf
    clear hN hE hR R
    have hT2 : TB 0 0 ob (dE y (gF K ((1 : Nat) : Int))) (dW y 0) 100 := by
      have e4 : eF K ((4 : Nat) : Int) 0 = gF K ((1 : Nat) : Int) := eF_4 K
      rw [e4] at hT; exact hT.mono (by omega)
    clear hT T0
    refine loop_x (V := fun i : Nat × Obs => [(9, .val (.int .i64 i.1))]) (O := fun i => i.2) (m := fun i => 4 - i.1) (P := fun i => 1 ≤ i.1 ∧ i.1 ≤ 4 ∧ TB 0 0 i.2 (dE y (gF K i.1)) (dW y 0) (100 + i.1)) ?_ (1, ob) ⟨Nat.le_refl _, by show 1 ≤ 4; omega, hT2.mono (by omega)⟩ rfl
    clear hT2
    rintro R ⟨n, ob1⟩ ⟨hn1, hn, hT⟩ hN hE hR
    dsimp only at hn1 hn hT
    conv => whnf
    refine sel_split (fun hq => ?_) (fun hq => ?_)
    · conv => whnf
      have hn4 : n < 4 := by have : ((n : Nat) : Int) ≤ 3 := of_decide_eq_true hq; omega
      have hc : n = 1 ∨ n = 2 ∨ n = 3 := by omega
      have hgb : ∀ j, -9223372036854775808 ≤ gF K n j ∧ gF K n j ≤ 9223372036854775807 := by
        intro j; unfold gF; have := hK j; split <;> omega
      obtain ⟨q, e1, e2⟩ := exp_tb hT (by omega) hgb
      rcases hc with rfl | rfl | rfl
      · have hr1 : (0 ≤ IntKind.i64.wrap (((1 : Nat) : Int) - 1) ∧ IntKind.i64.wrap (((1 : Nat) : Int) - 1) < ((3 : Nat) : Int)) := by decide
        have ek : K ((1 : Nat) : Int) = kA a0 := rfl
        have hkk := hK ((1 : Nat) : Int)
        have en : IntKind.i64.wrap (((1 : Nat) : Int) + 1) = ((1 + 1 : Nat) : Int) := by decide
        have eg := gF_next K ((1 : Nat) : Int) (by decide)
        refine ⟨hr1, ?_⟩
        conv => whnf
        refine ⟨by decide, ?_⟩
        conv => whnf
        refine sel_split (fun hq2 => ?_) (fun hq2 => ?_)
        · have hq2 : 0 < K ((1 : Nat) : Int) := by rw [ek]; exact of_decide_eq_true hq2
          have hqt : q = true := by
            cases hq0 : q with
            | true => rfl
            | false =>
              have := e2.1 hq0 ((1 : Nat) : Int)
              unfold gF at this
              rw [if_pos (by decide)] at this; omega
          subst hqt
          obtain ⟨ob2, s1, s2, s3⟩ := released_ok hT (0, y) ((1 : Nat) : Int) (K ((1 : Nat) : Int)) 0 (Nat.le_refl _)
          have e3 : eRel 0 (0, y) ((1 : Nat) : Int) (K ((1 : Nat) : Int)) = 0 := by
            have e4 : otherB 0 4 ((1 : Nat) : Int) = true := by decide
            unfold eRel
            rw [e4, decide_eq_false (by omega : ¬ K ((1 : Nat) : Int) < 1), decide_eq_false (by omega : ¬ K ((1 : Nat) : Int) > 2147483647)]; rfl
          rw [e3] at s1
          rw [e3, if_pos rfl] at s2
          have h2 : TB 0 0 ob2 (dE y (gF K ((1 + 1 : Nat) : Int))) (dW y 0) (100 + (1 + 1)) := by
            refine (s2.congr (fun q => ?_) fun _ => rfl).mono (by omega)
            rw [show ((1 + 1 : Nat) : Int) = ((1 : Nat) : Int) + 1 by omega, ← eg]
            exact dE_up y _ _ _ q
          rw [ek] at s1
          conv => whnf
          refine ⟨_, _, e1 _, fun _ => rfl, ?_⟩
          conv => whnf
          refine ⟨_, _, s1, fun h => (nomatch h), ?_⟩
          conv => whnf
          refine hN (1 + 1, ob2) _ ⟨by show 1 ≤ 1 + 1; omega, by show 1 + 1 ≤ 4; omega, h2⟩ (by show 4 - (1 + 1) < 4 - 1; omega) ?_
          rw [← en]; rfl
        · conv => whnf
          have hq2 : ¬ 0 < K ((1 : Nat) : Int) := by rw [ek]; exact of_decide_eq_false hq2
          have e5 : gF K ((1 : Nat) : Int) = gF K ((1 + 1 : Nat) : Int) := by
            funext j
            unfold gF
            by_cases e : j = ((1 : Nat) : Int)
            · rw [e, if_pos (by decide), if_neg (by decide)]; omega
            · by_cases e6 : ((1 : Nat) : Int) ≤ j ∧ j < 4
              · rw [if_pos e6, if_pos (by omega)]
              · rw [if_neg e6, if_neg (by omega)]
          rw [e5] at hT
          refine hN (1 + 1, ob1) _ ⟨by show 1 ≤ 1 + 1; omega, by show 1 + 1 ≤ 4; omega, hT.mono (by omega)⟩ (by show 4 - (1 + 1) < 4 - 1; omega) ?_
          rw [← en]; rfl
      · have hr1 : (0 ≤ IntKind.i64.wrap (((2 : Nat) : Int) - 1) ∧ IntKind.i64.wrap (((2 : Nat) : Int) - 1) < ((3 : Nat) : Int)) := by decide
        have ek : K ((2 : Nat) : Int) = kA a1 := rfl
        have hkk := hK ((2 : Nat) : Int)
        have en : IntKind.i64.wrap (((2 : Nat) : Int) + 1) = ((2 + 1 : Nat) : Int) := by decide
        have eg := gF_next K ((2 : Nat) : Int) (by decide)
        refine ⟨hr1, ?_⟩
        conv => whnf
        refine ⟨by decide, ?_⟩
        conv => whnf
        refine sel_split (fun hq2 => ?_) (fun hq2 => ?_)
        · have hq2 : 0 < K ((2 : Nat) : Int) := by rw [ek]; exact of_decide_eq_true hq2
          have hqt : q = true := by
            cases hq0 : q with
            | true => rfl
            | false =>
              have := e2.1 hq0 ((2 : Nat) : Int)
              unfold gF at this
              rw [if_pos (by decide)] at this; omega
          subst hqt
          obtain ⟨ob2, s1, s2, s3⟩ := released_ok hT (0, y) ((2 : Nat) : Int) (K ((2 : Nat) : Int)) 0 (Nat.le_refl _)
          have e3 : eRel 0 (0, y) ((2 : Nat) : Int) (K ((2 : Nat) : Int)) = 0 := by
            have e4 : otherB 0 4 ((2 : Nat) : Int) = true := by decide
            unfold eRel
            rw [e4, decide_eq_false (by omega : ¬ K ((2 : Nat) : Int) < 1), decide_eq_false (by omega : ¬ K ((2 : Nat) : Int) > 2147483647)]; rfl
          rw [e3] at s1
          rw [e3, if_pos rfl] at s2
          have h2 : TB 0 0 ob2 (dE y (gF K ((2 + 1 : Nat) : Int))) (dW y 0) (100 + (2 + 1)) := by
            refine (s2.congr (fun q => ?_) fun _ => rfl).mono (by omega)
            rw [show ((2 + 1 : Nat) : Int) = ((2 : Nat) : Int) + 1 by omega, ← eg]
            exact dE_up y _ _ _ q
          rw [ek] at s1
          conv => whnf
          refine ⟨_, _, e1 _, fun _ => rfl, ?_⟩
          conv => whnf
          refine ⟨_, _, s1, fun h => (nomatch h), ?_⟩
          conv => whnf
          refine hN (2 + 1, ob2) _ ⟨by show 1 ≤ 2 + 1; omega, by show 2 + 1 ≤ 4; omega, h2⟩ (by show 4 - (2 + 1) < 4 - 2; omega) ?_
          rw [← en]; rfl
        · conv => whnf
          have hq2 : ¬ 0 < K ((2 : Nat) : Int) := by rw [ek]; exact of_decide_eq_false hq2
          have e5 : gF K ((2 : Nat) : Int) = gF K ((2 + 1 : Nat) : Int) := by
            funext j
            unfold gF
            by_cases e : j = ((2 : Nat) : Int)
            · rw [e, if_pos (by decide), if_neg (by decide)]; omega
            · by_cases e6 : ((2 : Nat) : Int) ≤ j ∧ j < 4
              · rw [if_pos e6, if_pos (by omega)]
              · rw [if_neg e6, if_neg (by omega)]
          rw [e5] at hT
          refine hN (2 + 1, ob1) _ ⟨by show 1 ≤ 2 + 1; omega, by show 2 + 1 ≤ 4; omega, hT.mono (by omega)⟩ (by show 4 - (2 + 1) < 4 - 2; omega) ?_
          rw [← en]; rfl
      · have hr1 : (0 ≤ IntKind.i64.wrap (((3 : Nat) : Int) - 1) ∧ IntKind.i64.wrap (((3 : Nat) : Int) - 1) < ((3 : Nat) : Int)) := by decide
        have ek : K ((3 : Nat) : Int) = kA a2 := rfl
        have hkk := hK ((3 : Nat) : Int)
        have en : IntKind.i64.wrap (((3 : Nat) : Int) + 1) = ((3 + 1 : Nat) : Int) := by decide
        have eg := gF_next K ((3 : Nat) : Int) (by decide)
        refine ⟨hr1, ?_⟩
        conv => whnf
        refine ⟨by decide, ?_⟩
        conv => whnf
        refine sel_split (fun hq2 => ?_) (fun hq2 => ?_)
        · have hq2 : 0 < K ((3 : Nat) : Int) := by rw [ek]; exact of_decide_eq_true hq2
          have hqt : q = true := by
            cases hq0 : q with
            | true => rfl
            | false =>
              have := e2.1 hq0 ((3 : Nat) : Int)
              unfold gF at this
              rw [if_pos (by decide)] at this; omega
          subst hqt
          obtain ⟨ob2, s1, s2, s3⟩ := released_ok hT (0, y) ((3 : Nat) : Int) (K ((3 : Nat) : Int)) 0 (Nat.le_refl _)
          have e3 : eRel 0 (0, y) ((3 : Nat) : Int) (K ((3 : Nat) : Int)) = 0 := by
            have e4 : otherB 0 4 ((3 : Nat) : Int) = true := by decide
            unfold eRel
            rw [e4, decide_eq_false (by omega : ¬ K ((3 : Nat) : Int) < 1), decide_eq_false (by omega : ¬ K ((3 : Nat) : Int) > 2147483647)]; rfl
          rw [e3] at s1
          rw [e3, if_pos rfl] at s2
          have h2 : TB 0 0 ob2 (dE y (gF K ((3 + 1 : Nat) : Int))) (dW y 0) (100 + (3 + 1)) := by
            refine (s2.congr (fun q => ?_) fun _ => rfl).mono (by omega)
            rw [show ((3 + 1 : Nat) : Int) = ((3 : Nat) : Int) + 1 by omega, ← eg]
            exact dE_up y _ _ _ q
          rw [ek] at s1
          conv => whnf
          refine ⟨_, _, e1 _, fun _ => rfl, ?_⟩
          conv => whnf
          refine ⟨_, _, s1, fun h => (nomatch h), ?_⟩
          conv => whnf
          refine hN (3 + 1, ob2) _ ⟨by show 1 ≤ 3 + 1; omega, by show 3 + 1 ≤ 4; omega, h2⟩ (by show 4 - (3 + 1) < 4 - 3; omega) ?_
          rw [← en]; rfl
        · conv => whnf
          have hq2 : ¬ 0 < K ((3 : Nat) : Int) := by rw [ek]; exact of_decide_eq_false hq2
          have e5 : gF K ((3 : Nat) : Int) = gF K ((3 + 1 : Nat) : Int) := by
            funext j
            unfold gF
            by_cases e : j = ((3 : Nat) : Int)
            · rw [e, if_pos (by decide), if_neg (by decide)]; omega
            · by_cases e6 : ((3 : Nat) : Int) ≤ j ∧ j < 4
              · rw [if_pos e6, if_pos (by omega)]
              · rw [if_neg e6, if_neg (by omega)]
          rw [e5] at hT
          refine hN (3 + 1, ob1) _ ⟨by show 1 ≤ 3 + 1; omega, by show 3 + 1 ≤ 4; omega, hT.mono (by omega)⟩ (by show 4 - (3 + 1) < 4 - 3; omega) ?_
          rw [← en]; rfl
    · conv => whnf
      have hn4 : n = 4 := by have : ¬ ((n : Nat) : Int) ≤ 3 := of_decide_eq_false hq; omega
      subst hn4
      refine hE _ _ ?_
      conv => whnf
      clear hN hE hR R
      have hz : dE y (gF K ((4 : Nat) : Int)) = dE y (fun _ => 0) := by
        have : gF K ((4 : Nat) : Int) = fun _ => 0 := by
          funext j; unfold gF; rw [if_neg (by omega)]
        rw [this]
      rw [hz] at hT
      have ek : K ((1 : Nat) : Int) = kA a0 := rfl
      refine loop_x (V := fun i : Nat × Obs => [(12, .val (.int .i64 i.1))]) (O := fun i => i.2) (m := fun i => 20 - i.1) (P := fun i => (i.1 : Int) ≤ kA a0 ∧ TB 0 0 i.2 (dE y (fun _ => 0)) (dW y i.1) (200 + 2 * i.1)) ?_ (0, ob1) ⟨k0.1, hT.mono (by omega)⟩ rfl
      rintro R ⟨k, ob2⟩ ⟨hk, hT3⟩ hN hE hR
      dsimp only at hk hT3
      have e8 : IntKind.i64.wrap ((k : Int) + 1) = ((k + 1 : Nat) : Int) := by rw [wrap64] <;> omega
      conv => whnf
      refine ⟨by decide, ?_⟩
      conv => whnf
      refine ⟨by decide, ?_⟩
      conv => whnf
      refine sel_split (fun hq2 => ?_) (fun hq2 => ?_)
      · conv => whnf
        have hq2 : (k : Int) < kA a0 := of_decide_eq_true hq2
        obtain ⟨ob3, s1, s2, s3⟩ := got_okR hT3 0 false [(2, y), (0, y)] [] (by show 2 ≤ 1099511627776; omega) 0 (Nat.le_refl _)
        have ea : (([(2, y), (0, y)] : List NV3).any fun x => !isB 4 x.1) = false := rfl
        rw [ea, if_neg (by decide)] at s1
        rw [ea, if_neg (by decide)] at s2
        have h2 : TB 0 0 ob3 (dE y (fun _ => 0)) (dW y ((k + 1 : Nat) : Int)) (200 + 2 * (k + 1)) := by
          refine (s2.congr (fun _ => rfl) fun q => ?_).mono (by show 200 + 2 * k + 2 ≤ _; omega)
          rw [show ((k + 1 : Nat) : Int) = (k : Int) + 1 by omega, ← dW_up]; rfl
        refine ⟨_, _, s1, fun h => (nomatch h), ?_⟩
        conv => whnf
        refine hN (k + 1, ob3) _ ⟨by show ((k + 1 : Nat) : Int) ≤ _; omega, h2⟩ (by show 20 - (k + 1) < 20 - k; omega) ?_
        rw [← e8]; rfl
      · have hq2 : ¬ (k : Int) < kA a0 := of_decide_eq_false hq2
        have hkk : (k : Int) = kA a0 := by omega
        rw [hkk] at hT3
        conv => whnf
        refine hE _ _ ?_
        clear hN hE hR R
        obtain ⟨q, e1, e2⟩ := exp_tb hT3 (by omega) (fun j => by show -9223372036854775808 ≤ (0 : Int) ∧ (0 : Int) ≤ 9223372036854775807; omega)
        obtain rfl := e2.2 fun _ => rfl
        obtain ⟨c1, es1, x1, x2, x3, x4⟩ := exports_ok hT3 (by omega)
        obtain rfl := es_nil x1 (fun k => by rw [x3]; unfold dE; split <;> rfl)
        have w1 : IntKind.i64.wrap (kA a0) = kA a0 := wrap64 (by omega) (by omega)
        have g1 : ∀ pb, Gives env16z 407 [.optr (0 + 2) 0, .agg (nr3 (2, y))] ob2 pb (.int .i64 (kA a0), ob2) := by
          intro pb
          have := held_ok hT3 (2, y) pb
          have e3 : dW y (kA a0) (((2, y) : NV3).1, ((2, y) : NV3).2, ((2, y) : NV3).1) = kA a0 := by unfold dW; rw [if_pos rfl]
          rw [e3, w1] at this; exact this
        have g2 : ∀ pb, Gives env16z 407 [.optr (0 + 2) 0, .agg (nr3 (0, y))] ob2 pb (.int .i64 0, ob2) := by
          intro pb
          have := held_ok hT3 (0, y) pb
          have e3 : dW y (kA a0) (((0, y) : NV3).1, ((0, y) : NV3).2, ((0, y) : NV3).1) = 0 := by
            unfold dW; rw [if_neg (fun q => by simp at q)]
          rw [e3, wrap_0] at this; exact this
        obtain ⟨ob4, f1, f2, f3⟩ := free_ok hT3 (2, y) 0 (Nat.le_refl _)
        have e3 : dW y (kA a0) (((2, y) : NV3).1, ((2, y) : NV3).2, ((2, y) : NV3).1) = kA a0 := by unfold dW; rw [if_pos rfl]
        rw [e3, w1] at f1 f2
        have f4 : TB 0 0 ob4 (dE y (fun _ => 0)) (dW y 0) (200 + 2 * k) := by
          refine f2.congr (fun _ => rfl) fun q => ?_
          by_cases hp : 0 < kA a0
          · rw [if_pos hp]; exact congrFun (dW_off y _) q
          · rw [if_neg hp, show kA a0 = 0 by omega]
        obtain ⟨ob5, u1, u2, u3⟩ := free_ok f4 (2, y) 0 (Nat.le_refl _)
        have e4 : dW y 0 (((2, y) : NV3).1, ((2, y) : NV3).2, ((2, y) : NV3).1) = 0 := by unfold dW; rw [if_pos rfl]
        rw [e4, wrap_0] at u1 u2
        rw [if_neg (by decide)] at u2
        obtain ⟨c2, es2, y1, y2, y3, y4⟩ := imports_ok u2 (by omega)
        obtain rfl := es_nil y1 (fun k => by rw [y3]; unfold dW; split <;> rfl)
        conv => whnf
        refine ⟨_, _, e1 _, fun _ => rfl, ?_⟩
        conv => whnf
        refine ⟨_, _, x4 _, fun _ => rfl, ?_⟩
        conv => whnf
        refine ⟨_, _, g1 _, fun _ => rfl, ?_⟩
        conv => whnf
        refine ⟨by decide, ?_⟩
        conv => whnf
        refine ⟨by decide, ?_⟩
        conv => whnf
        refine sel_t (by show (kA a0 == (IntKind.i64.wrap a0).tmod 20) = true; exact beq_self_eq_true _) ?_
        conv => whnf
        refine ⟨_, _, g2 _, fun _ => rfl, ?_⟩
        conv => whnf
        refine ⟨_, _, f1, fun h => (nomatch h), ?_⟩
        conv => whnf
        refine ⟨by decide, ?_⟩
        conv => whnf
        refine ⟨by decide, ?_⟩
        conv => whnf
        refine sel_t (by show (kA a0 == (IntKind.i64.wrap a0).tmod 20) = true; exact beq_self_eq_true _) ?_
        conv => whnf
        refine ⟨_, _, u1, fun h => (nomatch h), ?_⟩
        conv => whnf
        refine ⟨_, _, y4 _, fun _ => rfl, ?_⟩
        conv => whnf
        exact ⟨rfl, rfl⟩
end Tree.R16
