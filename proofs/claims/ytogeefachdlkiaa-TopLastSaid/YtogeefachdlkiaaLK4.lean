/- Package link: Outbox. -/
import Derived.Test.YtogeefachdlkiaaLK3
set_option autoImplicit false
set_option linter.unusedVariables false
set_option linter.unusedSimpArgs false
namespace Tree.J14
open Go
set_option maxHeartbeats 8000000
set_option maxRecDepth 100000
def Lk.flat (k : Lk) : Nat → List Dg
  | 0 => []
  | i + 1 => k.flat i ++ k.out i
theorem row_get {l : List Dg} {j : Nat} {d : Dg} (h : l[j]? = some d) : (l.map Dg.row)[((j : Nat) : Int).toNat]? = some d.row := by
  show (l.map Dg.row)[j]? = _
  rw [List.getElem?_map, h]; rfl
theorem flat_len (k : Lk) (hk : ∀ i, i < 4 → (k.out i).length ≤ 68719476736 ∧ ∀ d ∈ k.out i, d.p.length ≤ 1099511627776) : ∀ i, i ≤ 4 → (k.flat i).length ≤ i * 68719476736
  | 0, _ => by simp [Lk.flat]
  | i + 1, h => by
    have := flat_len k hk i (by omega)
    have := (hk i (by omega)).1
    rw [Lk.flat, List.length_append]; omega
theorem wait_ok (k : Lk) (hk : ∀ i, i < 4 → (k.out i).length ≤ 68719476736 ∧ ∀ d ∈ k.out i, d.p.length ≤ 1099511627776) (id : Nat) (ob : Obs) (pb : Nat) (hpb : pb ≤ ob.length) (hob : ob[id]? = some k.cells) :
    Gives envJ 143 [.fn YG [.optr (ob.length + 1) 0], .iptr 0 [.optr id 0] 0] (obB ob [] 0) pb (.tup [], obB ob (k.flat 4) 0) := by
  have hid : id < ob.length := (List.getElem?_eq_some_iff.1 hob).1
  have hgo : ∀ l, (obB ob l 0)[id]? = some k.cells := fun l => by unfold obB; rw [List.getElem?_append_left hid]; exact hob
  have hfl := flat_len k hk
  refine gives_code (f := tf143) rfl ?_
  conv => whnf
  refine loop_v (V := fun i : Nat => [(6, .int .i64 i)]) (O := fun i => obB ob (k.flat i) 0) (m := fun i => 4 - i) (P := fun i => i ≤ 4) ?_ 0 (Nat.zero_le _) rfl
  intro R i hi hN hE hR
  have hi5 : i = 4 ∨ i = 0 ∨ i = 1 ∨ i = 2 ∨ i = 3 := by omega
  rcases hi5 with rfl | hi5
  · conv => whnf
    refine hE _ _ ?_
    conv => whnf
    exact ⟨rfl, rfl, rfl⟩
  · have hi4 : i < 4 := by omega
    have hki := hk i hi4
    have hfi := hfl i hi
    have hN1 := hN (i + 1)
    have hflat : k.flat (i + 1) = k.flat i ++ k.out i := rfl
    have e0 : IntKind.i64.wrap ((i : Int) + 1) = ((i + 1 : Nat) : Int) := by rw [wrap64] <;> omega
    have hol : ((k.out i).map Dg.row).length = (k.out i).length := by simp
    have hcell : k.cells[2 + i * 3 + 1]? = some (outL (k.out i)) := by rcases hi5 with rfl | rfl | rfl | rfl <;> rfl
    have hmap : isMapC k.cells = false := rfl
    generalize hF : k.flat i = F at *
    generalize k.cells = C at *
    unfold outL at hcell
    conv => whnf
    refine sel_t (decide_eq_true (by omega)) ?_
    conv => whnf
    refine ⟨⟨by omega, by omega⟩, ?_⟩
    conv => whnf
    refine ⟨C, _, ⟨hgo _, hmap, hcell⟩, ?_⟩
    conv => whnf
    refine loop_v (V := fun j : Nat => [(18, .int .i64 j)]) (O := fun j => obB ob (F ++ (k.out i).take j) 0) (m := fun j => (k.out i).length - j) (P := fun j => j ≤ (k.out i).length) ?_ 0 (Nat.zero_le _) (by rw [List.take_zero, List.append_nil]; rfl)
    intro R2 j hj hN2 hE2 hR2
    conv => whnf
    refine sel_split (fun h => ?_) (fun h => ?_)
    · conv => whnf
      have h := of_decide_eq_true h
      rw [hol] at h
      obtain ⟨d, hd⟩ : ∃ d, (k.out i)[j]? = some d := ⟨_, List.getElem?_eq_getElem (show j < (k.out i).length by omega)⟩
      have hdp := hki.2 d (List.mem_of_getElem? hd)
      have go := fun o ob pb => own_ok d hdp o [] ob pb
      have nro := fun n => row_noRef n d
      have e1 : IntKind.i64.wrap ((j : Int) + 1) = ((j + 1 : Nat) : Int) := by rw [wrap64] <;> omega
      have htk : (k.out i).take (j + 1) = (k.out i).take j ++ [d] := by rw [List.take_add_one, hd]; rfl
      obtain ⟨b, ob', ⟨rfl, rfl⟩, gy⟩ := gives_yld (E := envJ) (id := ob.length + 1) (s := 1) (ps := lp1.1) (ta := lp1.2.1) (tb := lp1.2.2) rfl rfl (obB_1 ob (F ++ (k.out i).take j) 0) (by omega) rfl rfl rfl (rndJ ob pb hpb (F ++ (k.out i).take j) d (by rw [List.length_append, List.length_take]; omega))
      rw [List.append_assoc, ← htk] at gy
      refine ⟨_, ⟨by omega, row_get hd⟩, ?_⟩
      conv => whnf
      refine ⟨_, _, go _ _ _, fun _ => nro _, ?_⟩
      conv => whnf
      refine ⟨_, _, gy, fun e => (nomatch e), ?_⟩
      conv => whnf
      refine hN2 (j + 1) _ (by omega) (by omega) ?_
      rw [← e1]; rfl
    · conv => whnf
      have hje : j = (k.out i).length := by simp at h; omega
      refine hE2 _ _ ?_
      conv => whnf
      refine hN1 _ (by omega) (by omega) ?_
      rw [hflat, hje, List.take_length, ← e0]; rfl
theorem outbox_ok (k : Lk) (hk : ∀ i, i < 4 → (k.out i).length ≤ 68719476736 ∧ ∀ d ∈ k.out i, d.p.length ≤ 1099511627776) (id : Nat) (ob : Obs) (pb : Nat) (hpb : pb ≤ ob.length) (hob : ob[id]? = some k.cells) :
    ∃ ob', Gives envJ 113 [.optr id 0] ob pb (outL (k.flat 4), ob') := by
  have hid : id < ob.length := (List.getElem?_eq_some_iff.1 hob).1
  have gW := wait_ok k hk id ob pb hpb hob
  have gw : ∀ ob pb, Gives envJ 585 [.optr id 0] ob pb (.fn 143 [.iptr 0 [.optr id 0] 0], ob) := fun ob pb => by
    refine gives_code (f := tf585) rfl ?_
    conv => whnf
    exact ⟨rfl, rfl, rfl⟩
  have b0 := obB_0 ob (k.flat 4) 0
  have b1 := obB_1 ob (k.flat 4) 0
  generalize k.flat 4 = F at *
  refine gives_codeE (f := tf113) rfl ?_
  conv => whnf
  refine ⟨_, _, gw _ _, fun _ => ?_, ?_⟩
  · simp [LV.noRef, LV.noRefs]; omega
  conv => whnf
  have hL : (ob ++ [[LV.sl true 0 5 [] []]]).length = ob.length + 1 := by simp
  have g0 : ∀ a b : List LV, (ob ++ [a, b])[ob.length]? = some a := fun a b => by rw [List.getElem?_append_right (Nat.le_refl _), Nat.sub_self]; rfl
  refine ⟨rfl, by rw [hL]; omega, .tup [], obB ob F 0, 0, snapJ ob.length, .normal, ?_, ?_, rfl, ?_⟩
  · rw [hL, List.append_assoc]; exact gW
  · rw [hL]; exact b1
  rw [hL, obB_set1]
  unfold outL
  conv => whnf
  refine ⟨_, _, ⟨g0 _ _, rfl, rfl⟩, ?_⟩
  conv => whnf
  refine .inl ⟨_, _, _, _, ⟨hpb, g0 _ _, rfl⟩, ?_⟩
  conv => whnf
  exact ⟨rfl, rfl⟩
end Tree.J14
