/- purlintop.TopLast: what E answers. -/
import Derived.Test.YtogeefachdlkiaaLJ7
set_option autoImplicit false
set_option linter.unusedVariables false
set_option linter.unusedSimpArgs false
namespace Tree.J14
open Go
set_option maxHeartbeats 8000000
set_option maxRecDepth 100000
theorem bytesE_bts : ∀ p : List Int, bytesE (bts p) = some (p.map fun n => UInt8.ofNat n.toNat)
  | [] => rfl
  | c :: r => by
    show bytesE (byt c :: bts r) = _
    simp only [byt, bytesE, bytesE_bts r, Option.map_some, List.map_cons]
theorem lkP_fine (P : List (List Int)) (h : P.length ≤ 1000) (hp : ∀ p ∈ P, p.length ≤ 1000) : ∀ i, i < 4 → ((lkP P).out i).length ≤ 68719476736 ∧ ∀ d ∈ (lkP P).out i, d.p.length ≤ 1099511627776 := by
  intro i _
  show (upd (fun _ => []) 1 (dgs P) i).length ≤ _ ∧ ∀ d ∈ upd (fun _ => []) 1 (dgs P) i, _
  unfold upd
  split
  · refine ⟨by rw [dgs_len]; omega, fun d hd => ?_⟩
    unfold dgs at hd
    obtain ⟨q, hq, rfl⟩ := List.mem_map.1 hd
    have := List.mem_zipIdx' hq
    have hm : q.1 ∈ P := by rw [this.2]; exact List.getElem_mem _
    have := hp _ hm
    show q.1.length ≤ _
    omega
  · exact ⟨Nat.zero_le _, fun d hd => (nomatch hd)⟩
/-- The objects behind the first loop. -/
def ob1 (P : List (List Int)) : Obs := [logO true (dsk P) P.length (dsk P).length, (lkP P).cells]
theorem last_law (L : List (List Int × List (List LV))) (hL : L.length ≤ 4611686018427387904) (hok : ∀ q ∈ L, okB q.1 ∧ q.1.length ≤ 4611686018427387904) (sp : List (List LV)) (cut : Int) (hcut : -9223372036854775808 ≤ cut ∧ cut ≤ 9223372036854775807) :
    ∃ ob', Gives envJ 633 [.sl false 0 1 (L.map rowP) sp, .int .i64 cut] [] 0 (.bool true, ob') := by
  have hLl : (L.map rowP).length = L.length := by simp
  have g0 := new_ok [] 0
  have g1 := fun ob => lnew_ok 0 2 (by omega) ob 0
  refine gives_codeE (f := tf633) rfl ?_
  conv => whnf
  refine ⟨_, _, g0, fun h => (nomatch h), ?_⟩
  conv => whnf
  refine ⟨_, _, g1 _, fun h => (nomatch h), ?_⟩
  conv => whnf
  refine loop_v (V := fun q : Nat × List (List Int) => [(8, .int .i64 q.1)]) (O := fun q => ob1 q.2) (m := fun q => L.length - q.1) (P := fun q => q.1 ≤ L.length ∧ q.2.length ≤ q.1 ∧ q.1 ≤ 50 ∧ ∀ p ∈ q.2, p.length ≤ 1000 ∧ okB p) ?_ (0, []) ⟨Nat.zero_le _, Nat.le_refl _, by omega, fun p hp => (nomatch hp)⟩ rfl
  rintro R ⟨i, P⟩ ⟨hi, hPi, hi50, hP⟩ hN hE hR
  dsimp only at hi hPi hi50 hP
  have hPok : okP P := fun p hp => ⟨by have := (hP p hp).1; omega, (hP p hp).2⟩
  have hdb := dsk_bound P (fun p hp => (hP p hp).1)
  have e1 : IntKind.i64.wrap ((i : Int) + 1) = ((i + 1 : Nat) : Int) := by rw [wrap64] <;> omega
  -- what stands behind the loop
  have gb := fun pb => bytes_ok true (dsk P) (by omega) P.length (dsk P).length 0 (ob1 P) pb rfl
  have nrb := fun n => slB_noRef n true (dsk P)
  have hdl : (bts (dsk P)).length = (dsk P).length := bts_len _
  have eall : IntKind.i64.wrap (((bts (dsk P)).length : Int) + 1) = (((dsk P).length + 1 : Nat) : Int) := by rw [hdl, wrap64] <;> omega
  obtain ⟨k, hk, gk⟩ := which_ok cut (((dsk P).length + 1 : Nat) : Int) hcut ⟨by omega, by omega⟩
  have hkl : k ≤ (dsk P).length := by omega
  have gO := fun sp => open_ok P hPok k (by omega) (by omega) false sp (ob1 P) 0 (Nat.zero_le _)
  have hof := off_le P k (cntR P k) (Nat.le_refl _)
  have hcl := cntR_le P k
  have hofl := off_len P (cntR P k)
  obtain ⟨mr, gM⟩ := mend_ok true ((dsk P).take k) (by rw [List.length_take]; omega) (cntR P k) (offR P (cntR P k)) (by rw [List.length_take]; omega) 2 (ob1 P ++ [logO true ((dsk P).take k) (cntR P k) (offR P (cntR P k))]) 0 (Nat.zero_le _) rfl
  have htt : ((dsk P).take k).take (offR P (cntR P k)) = dsk (P.take (cntR P k)) := by rw [List.take_take, Nat.min_eq_left hof, dsk_take]
  rw [htt] at gM
  have hQok : okP (P.take (cntR P k)) := fun p hp => hPok p (List.mem_of_mem_take hp)
  have hQl : (P.take (cntR P k)).length = cntR P k := by rw [List.length_take]; omega
  have hQd : (dsk (P.take (cntR P k))).length ≤ 4294967296 := by rw [← dsk_take, List.length_take]; omega
  have gP := fun ob pb h => payloads_ok (P.take (cntR P k)) hQok (by omega) hQd false (cntR P k) (offR P (cntR P k)) 2 ob pb h
  have nrp := fun n => pay_noRef n (P.take (cntR P k))
  have hall : (k : Int) = ((dsk P).length : Int) → cntR P k = P.length := fun h => by
    have : k = (dsk P).length := by omega
    rw [this, cnt_all]
  have hbt := bts_take (dsk P) k
  have hPget : ∀ (j : Nat) p, (P.take (cntR P k))[j]? = some p → P[j]? = some p ∧ p.length ≤ 1000 := fun j p h => by
    rw [List.getElem?_take] at h
    split at h
    · exact ⟨h, (hP p (List.mem_of_getElem? h)).1⟩
    · cases h
  have hPs : ∀ p ∈ P, p.length ≤ 1000 := fun p hp => (hP p hp).1
  have hQs : ∀ p ∈ P.take (cntR P k), p.length ≤ 1000 := fun p hp => (hP p (List.mem_of_mem_take hp)).1
  obtain ⟨Q, hQ⟩ : ∃ Q, Q = P.take (cntR P k) := ⟨_, rfl⟩
  rw [← hQ] at gM hQok hQl hQd gP nrp hPget hQs
  have hQpl : (Q.map pay).length = Q.length := by simp
  obtain ⟨obF, hobF⟩ : ∃ obF : Nat → Obs, ∀ n, obF n = [logO true (dsk P) P.length (dsk P).length, (lkP P).cells, logO false (dsk Q) (cntR P k) (offR P (cntR P k)), (lkP (Q.take n)).cells] := ⟨_, fun _ => rfl⟩
  have tail : ∀ a b c d e f g h : LV, R (.exit 0) ⟨[.val (.sl false 0 1 (L.map rowP) sp), .val (.int .i64 cut), .val .undef, .val .undef, .val .undef, .val (.optr 0 0), .val (.optr 1 0), .val .undef, .val (.int .i64 i)] ++ (List.replicate 25 (.val .undef) ++ ([.val a, .val b, .val c, .val d, .val e, .val f, .val g, .val h] ++ List.replicate 123 (.val .undef))), ob1 P, []⟩ := by
    intro a b c d e f g h
    refine hE _ _ ?_
    conv => whnf
    refine ⟨_, _, gb _, fun _ => nrb _, ?_⟩
    conv => whnf
    rw [eall]
    refine ⟨_, _, gk _ _, fun _ => rfl, ?_⟩
    conv => whnf
    refine ⟨bts ((dsk P).take k), (bts (dsk P)).drop k, ⟨⟨by omega, by omega, by rw [List.append_nil]; omega⟩, by rw [List.append_nil]; exact hbt, by rw [List.append_nil]; rfl⟩, ?_⟩
    conv => whnf
    refine ⟨_, _, gO _, fun h => (nomatch h), ?_⟩
    conv => whnf
    refine ⟨_, _, gM, fun h => (nomatch h), ?_⟩
    conv => whnf
    refine ⟨_, _, g1 _, fun h => (nomatch h), ?_⟩
    conv => whnf
    refine ⟨_, _, gP _ _ rfl, fun _ => by simp [LV.noRef, LV.noRefss, nrp], ?_⟩
    conv => whnf
    refine loop_v (V := fun n : Nat => [(17, .int .i64 n)]) (O := obF) (m := fun n => Q.length - n) (P := fun n => n ≤ Q.length) ?_ 0 (Nat.zero_le _) (by rw [show obF = fun n => [logO true (dsk P) P.length (dsk P).length, (lkP P).cells, logO false (dsk Q) (cntR P k) (offR P (cntR P k)), (lkP (Q.take n)).cells] from funext hobF]; rfl)
    intro R2 n hn hN2 hE2 hR2
    have e2 : IntKind.i64.wrap ((n : Int) + 1) = ((n + 1 : Nat) : Int) := by rw [wrap64] <;> omega
    rw [hobF n]
    conv => whnf
    refine sel_split (fun h3 => ?_) (fun h3 => ?_)
    · have h3 := of_decide_eq_true h3
      rw [hQpl] at h3
      obtain ⟨p, hp⟩ : ∃ p, Q[n]? = some p := ⟨_, List.getElem?_eq_getElem (show n < Q.length by omega)⟩
      have hpp := hPget n p hp
      have htk : Q.take (n + 1) = Q.take n ++ [p] := by rw [List.take_add_one, hp]; rfl
      have htl : (Q.take n).length ≤ 50 := by rw [List.length_take]; omega
      have hrow : (Q.map pay)[((n : Nat) : Int).toNat]? = some [slB false p] := by
        show (Q.map pay)[n]? = _
        rw [List.getElem?_map, hp]; rfl
      have gs := send_ok (lkP (Q.take n)) 1 (by show (1 : Int) < 2; decide) (by show (2 : Int) ≤ 4; decide) (by show (1 : Int) ≠ 0; decide) ⟨by show 0 ≤ ((Q.take n).length : Int); omega, by show ((Q.take n).length : Int) ≤ _; omega⟩ (by show (dgs (Q.take n)).length ≤ _; rw [dgs_len]; omega) p (by omega) false [] 3 [logO true (dsk P) P.length (dsk P).length, (lkP P).cells, logO false (dsk Q) (cntR P k) (offR P (cntR P k)), (lkP (Q.take n)).cells] 0 (Nat.zero_le _) rfl
      rw [lkP_snoc, ← htk] at gs
      unfold slB at hrow
      generalize hB : bts p = B at *
      conv => whnf
      refine ⟨_, ⟨by omega, hrow⟩, ?_⟩
      conv => whnf
      refine ⟨_, _, gs, fun h => (nomatch h), ?_⟩
      conv => whnf
      refine hN2 (n + 1) _ (by omega) (by omega) ?_
      rw [hobF (n + 1), ← e2]; rfl
    · conv => whnf
      have hnq : n = Q.length := by simp at h3; omega
      refine hE2 _ _ ?_
      have hQt : Q.take n = Q := by rw [hnq, List.take_length]
      rw [hQt]
      obtain ⟨oA, gA⟩ := outbox_ok (lkP P) (lkP_fine P (by omega) hPs) 1 [logO true (dsk P) P.length (dsk P).length, (lkP P).cells, logO false (dsk Q) (cntR P k) (offR P (cntR P k)), (lkP Q).cells] 4 (by show 4 ≤ 4; omega) rfl
      obtain ⟨oB, gB⟩ := outbox_ok (lkP Q) (lkP_fine Q (by omega) hQs) 3 [logO true (dsk P) P.length (dsk P).length, (lkP P).cells, logO false (dsk Q) (cntR P k) (offR P (cntR P k)), (lkP Q).cells] 4 (by show 4 ≤ 4; omega) rfl
      rw [lkP_flat] at gA gB
      have nA := fun n => outL_noRef n (dgs P)
      have nB := fun n => outL_noRef n (dgs Q)
      conv => whnf
      refine ⟨_, _, gA, fun _ => nA _, ?_⟩
      conv => whnf
      refine ⟨_, _, gB, fun _ => nB _, ?_⟩
      conv => whnf
      have hdq : ((dgs Q).map Dg.row).length = Q.length := by rw [List.length_map, dgs_len]
      have hdp : ((dgs P).map Dg.row).length = P.length := by rw [List.length_map, dgs_len]
      refine sel_f (by rw [hdq, hdp]; simp; omega) ?_
      conv => whnf
      refine sel_f (by rw [hdq, hQpl]; simp) ?_
      conv => whnf
      refine sel_split (fun h5 => ?_) (fun h5 => ?_)
      · conv => whnf
        refine sel_f (by rw [hdq, hdp]; simp at h5; have := hall (by rw [← hdl]; omega); simp; omega) ?_
        conv => whnf
        refine loop_v (V := fun n : Nat => [(22, .int .i64 n)]) (O := fun _ => [logO true (dsk P) P.length (dsk P).length, (lkP P).cells, logO false (dsk Q) (cntR P k) (offR P (cntR P k)), (lkP Q).cells]) (m := fun n => Q.length - n) (P := fun n => n ≤ Q.length) ?_ 0 (Nat.zero_le _) rfl
        intro R3 n3 hn3 hN3 hE3 hR3
        have e3 : IntKind.i64.wrap ((n3 : Int) + 1) = ((n3 + 1 : Nat) : Int) := by rw [wrap64] <;> omega
        conv => whnf
        refine sel_split (fun h6 => ?_) (fun h6 => ?_)
        · have h6 := of_decide_eq_true h6
          rw [hdq] at h6
          obtain ⟨p, hp⟩ : ∃ p, Q[n3]? = some p := ⟨_, List.getElem?_eq_getElem (show n3 < Q.length by omega)⟩
          have hx := row_get (dgs_get (hPget n3 p hp).1)
          have hy := row_get (dgs_get hp)
          have hbe := bytesE_bts p
          unfold Dg.row slB at hx hy
          dsimp only at hx hy
          generalize bts p = B at hx hy hbe
          conv => whnf
          refine ⟨_, ⟨by omega, hx⟩, ?_⟩
          conv => whnf
          refine ⟨_, ⟨by omega, hy⟩, ?_⟩
          conv => whnf
          refine sel_f (by simp) ?_
          conv => whnf
          refine ⟨_, ⟨by omega, hx⟩, ?_⟩
          conv => whnf
          refine ⟨(1, B), _, ⟨rfl, rfl, hbe⟩, ?_⟩
          conv => whnf
          refine ⟨_, ⟨by omega, hy⟩, ?_⟩
          conv => whnf
          refine ⟨(1, B), _, ⟨rfl, rfl, hbe⟩, ?_⟩
          conv => whnf
          refine sel_f (by simp) ?_
          conv => whnf
          refine hN3 (n3 + 1) _ (by omega) (by omega) ?_
          rw [← e3]; rfl
        · conv => whnf
          refine hE3 _ _ ?_
          conv => whnf
          exact ⟨rfl, rfl⟩
      · conv => whnf
        refine loop_v (V := fun n : Nat => [(22, .int .i64 n)]) (O := fun _ => [logO true (dsk P) P.length (dsk P).length, (lkP P).cells, logO false (dsk Q) (cntR P k) (offR P (cntR P k)), (lkP Q).cells]) (m := fun n => Q.length - n) (P := fun n => n ≤ Q.length) ?_ 0 (Nat.zero_le _) rfl
        intro R3 n3 hn3 hN3 hE3 hR3
        have e3 : IntKind.i64.wrap ((n3 : Int) + 1) = ((n3 + 1 : Nat) : Int) := by rw [wrap64] <;> omega
        conv => whnf
        refine sel_split (fun h6 => ?_) (fun h6 => ?_)
        · have h6 := of_decide_eq_true h6
          rw [hdq] at h6
          obtain ⟨p, hp⟩ : ∃ p, Q[n3]? = some p := ⟨_, List.getElem?_eq_getElem (show n3 < Q.length by omega)⟩
          have hx := row_get (dgs_get (hPget n3 p hp).1)
          have hy := row_get (dgs_get hp)
          have hbe := bytesE_bts p
          unfold Dg.row slB at hx hy
          dsimp only at hx hy
          generalize bts p = B at hx hy hbe
          conv => whnf
          refine ⟨_, ⟨by omega, hx⟩, ?_⟩
          conv => whnf
          refine ⟨_, ⟨by omega, hy⟩, ?_⟩
          conv => whnf
          refine sel_f (by simp) ?_
          conv => whnf
          refine ⟨_, ⟨by omega, hx⟩, ?_⟩
          conv => whnf
          refine ⟨(1, B), _, ⟨rfl, rfl, hbe⟩, ?_⟩
          conv => whnf
          refine ⟨_, ⟨by omega, hy⟩, ?_⟩
          conv => whnf
          refine ⟨(1, B), _, ⟨rfl, rfl, hbe⟩, ?_⟩
          conv => whnf
          refine sel_f (by simp) ?_
          conv => whnf
          refine hN3 (n3 + 1) _ (by omega) (by omega) ?_
          rw [← e3]; rfl
        · conv => whnf
          refine hE3 _ _ ?_
          conv => whnf
          exact ⟨rfl, rfl⟩
  conv => whnf
  refine sel_split (fun h => ?_) (fun h => ?_)
  · conv => whnf
    have h := of_decide_eq_true h
    rw [hLl] at h
    refine sel_split (fun h2 => ?_) (fun h2 => ?_)
    · conv => whnf
      have h2 := of_decide_eq_true h2
      obtain ⟨q, hq⟩ : ∃ q, L[i]? = some q := ⟨_, List.getElem?_eq_getElem (show i < L.length by omega)⟩
      have hqo := hok q (List.mem_of_getElem? hq)
      have hbl := bts_len q.1
      refine ⟨_, ⟨by omega, rowP_get hq⟩, ?_⟩
      conv => whnf
      refine sel_split (fun h3 => ?_) (fun h3 => ?_)
      · conv => whnf
        refine hN (i + 1, P) _ ⟨by dsimp only; omega, by dsimp only; omega, by dsimp only; omega, hP⟩ (by dsimp only; omega) ?_
        rw [← e1]; rfl
      · have h3 : q.1.length ≤ 1000 := by simp at h3; omega
        have ga := append_ok P hPok q.1 ⟨by omega, hqo.1⟩ (by omega) (by omega) false q.2 0 (ob1 P) 0 (Nat.zero_le _) rfl
        have gs := send_ok (lkP P) 1 (by show (1 : Int) < 2; decide) (by show (2 : Int) ≤ 4; decide) (by show (1 : Int) ≠ 0; decide) ⟨by show 0 ≤ (P.length : Int); omega, by show (P.length : Int) ≤ _; omega⟩ (by show (dgs P).length ≤ _; rw [dgs_len]; omega) q.1 (by omega) false q.2 1 [logO true (dsk (P ++ [q.1])) (P ++ [q.1]).length (dsk (P ++ [q.1])).length, (lkP P).cells] 0 (Nat.zero_le _) rfl
        rw [lkP_snoc] at gs
        have hPn : ∀ p ∈ P ++ [q.1], p.length ≤ 1000 ∧ okB p := fun p hp => by
          rcases List.mem_append.1 hp with h | h
          · exact hP p h
          · rw [List.mem_singleton] at h; subst h; exact ⟨h3, hqo.1⟩
        have hrow := rowP_get hq
        generalize hB : bts q.1 = B at *
        conv => whnf
        refine ⟨_, ⟨by omega, hrow⟩, ?_⟩
        conv => whnf
        refine ⟨_, _, ga, fun h => (nomatch h), ?_⟩
        conv => whnf
        refine ⟨_, ⟨by omega, hrow⟩, ?_⟩
        conv => whnf
        refine ⟨_, _, gs, fun h => (nomatch h), ?_⟩
        conv => whnf
        refine hN (i + 1, P ++ [q.1]) _ ⟨by dsimp only; omega, by dsimp only; rw [List.length_append, List.length_singleton]; omega, by dsimp only; omega, hPn⟩ (by dsimp only; omega) ?_
        rw [← e1]; rfl
    · conv => whnf
      exact tail _ _ _ _ _ _ _ _
  · conv => whnf
    exact tail _ _ _ _ _ _ _ _
end Tree.J14
