/- A part of the interpreter over trees and of its proof. -/
import Derived.Test.YtoieakkaopbjaaaL15Law2
set_option autoImplicit false
set_option linter.unusedVariables false
set_option linter.unusedSimpArgs false
namespace Tree.O15
open Go
set_option maxHeartbeats 16000000
set_option maxRecDepth 100000
structure Ls where
  i : Nat
  ob : Obs
  c : Int
  W : Wm
  d : Int
  G : List (NV × Int)
theorem apart_ok (l : List Dd) (sp : List (List LV)) (v : NV) : ∃ ob', Gives env15 590 [slD l sp, nm v.1 v.2] [] 0 (.bool true, ob') := by
  have hlen : (l.map Dd.row).length = l.length := by simp
  refine gives_codeE (f := tf590) rfl ?_
  conv => whnf
  refine ⟨_, _, new_ok [] _, (fun h => nomatch h), ?_⟩
  conv => whnf
  refine loop_x (V := fun s : Ls => [(6, .val (.int .i64 s.i))]) (O := fun s => s.ob) (m := fun s => l.length - s.i) (P := fun s => s.i ≤ l.length ∧ Tb s.ob 2 0 1 s.c s.W s.d s.G ∧ Inv s.W s.i) ?_ ⟨0, _, 0, [], 0, []⟩ ⟨Nat.zero_le _, new_tb [], ⟨by simp [onceW], fun k => by simp [lkW], fun k => by simp [lkW]⟩⟩ rfl
  rintro R ⟨i, ob, c, W, d, G⟩ ⟨hi, hT, hI⟩ hN hE hR
  simp only at hi hT hI
  have fin : ∀ w : WSt, w.ob = ob → True := fun _ _ => trivial
  conv => whnf
  refine sel_split (fun h1 => ?_) (fun h1 => ?_)
  · conv => whnf
    refine sel_split (fun h2 => ?_) (fun h2 => ?_)
    · conv => whnf
      have h1 := of_decide_eq_true h1
      have h2 := of_decide_eq_true h2
      rw [hlen] at h1
      dsimp only at h1 h2
      have hi100 : i < 100 := by omega
      obtain ⟨x, hx⟩ : ∃ x, l[i]? = some x := ⟨_, List.getElem?_eq_getElem (show i < l.length by omega)⟩
      have e : IntKind.i64.wrap ((i : Int) + 1) = ((i + 1 : Nat) : Int) := by rw [wrap64] <;> omega
      refine ⟨_, _, waiters_ok hT v (by have := hI.l v; omega) _, fun _ => noRefSI _ _ _, ?_⟩
      conv => whnf
      refine ⟨_, ⟨by omega, idx_d hx⟩, ?_⟩
      conv => whnf
      refine sel_split (fun h3 => ?_) (fun h3 => ?_)
      · conv => whnf
        have hk : x.k = 0 := by simpa using h3
        by_cases hm : x.n ∈ lkW W x.v
        · refine ⟨_, _, ask_no hT x.v x.n (by have := hI.l x.v; omega) hm, (fun h => nomatch h), ?_⟩
          have hT' := hT
          have hI' := inv_mono hI
          have hsame : x.v ≠ v ∨ x.k > 1 → lkW W v = lkW W v := fun _ => rfl
          conv => whnf
          refine ⟨_, _, waiters_ok hT' v (by have := hI'.l v; omega) _, fun _ => noRefSI _ _ _, ?_⟩
          conv => whnf
          refine sel_split (fun h5 => ?_) (fun h5 => ?_)
          · conv => whnf
            have hne : x.v ≠ v := fun e => by rw [e] at h5; simp at h5
            refine ⟨_, _, sameInts_ok (lkW W v) (lkW W v) (by have := hI.l v; omega) _ _ true (by simp [hsame (.inl hne)]), fun _ => rfl, ?_⟩
            conv => whnf
            refine loop_v (V := fun a : Nat => [(10, .int .i64 a)]) (O := fun _ => ob) (m := fun a => (lkW W v).length - a) (P := fun a => a ≤ (lkW W v).length) ?_ 0 (Nat.zero_le _) rfl
            intro R2 a ha hN2 hE2 hR2
            have hnl : ((lkW W v).map irow).length = (lkW W v).length := by simp
            have hnlb := hI'.l v
            conv => whnf
            refine sel_split (fun g1 => ?_) (fun g1 => ?_)
            · conv => whnf
              have g1 := of_decide_eq_true g1
              rw [hnl] at g1
              have ea : IntKind.i64.wrap ((a : Int) + 1) = ((a + 1 : Nat) : Int) := by rw [wrap64] <;> omega
              obtain ⟨p, hp⟩ : ∃ p, (lkW W v)[a]? = some p := ⟨_, List.getElem?_eq_getElem (by omega)⟩
              refine loop_v (V := fun b : Nat => [(11, .int .i64 b)]) (O := fun _ => ob) (m := fun b => a - b) (P := fun b => b ≤ a) ?_ 0 (Nat.zero_le _) rfl
              intro R3 b hb hN3 hE3 hR3
              conv => whnf
              refine sel_split (fun g2 => ?_) (fun g2 => ?_)
              · conv => whnf
                have g2 := of_decide_eq_true g2
                have eb : IntKind.i64.wrap ((b : Int) + 1) = ((b + 1 : Nat) : Int) := by rw [wrap64] <;> omega
                obtain ⟨q, hq⟩ : ∃ q, (lkW W v)[b]? = some q := ⟨_, List.getElem?_eq_getElem (by omega)⟩
                have hpq := nodup_ne (hI'.d v) hp hq (by omega)
                refine ⟨_, ⟨by omega, idx_i hp⟩, ?_⟩
                conv => whnf
                refine ⟨_, ⟨by omega, idx_i hq⟩, ?_⟩
                conv => whnf
                refine sel_f (by simpa using hpq) ?_
                conv => whnf
                refine hN3 (b + 1) _ (by omega) (by omega) ?_
                rw [← eb]; rfl
              · conv => whnf
                refine hE3 _ _ ?_
                conv => whnf
                refine hN2 (a + 1) _ (by omega) (by omega) ?_
                rw [← ea]; rfl
            · conv => whnf
              refine hE2 _ _ ?_
              conv => whnf
              refine hN ⟨i + 1, ob, c, W, d, G⟩ _ ⟨by show i + 1 ≤ l.length; omega, hT', hI'⟩ (by show l.length - (i + 1) < l.length - i; omega) ?_
              show _ = WSt.headX _ _ [(6, .val (.int .i64 ((i + 1 : Nat) : Int)))] ob
              rw [← e]; rfl
          · conv => whnf
            refine sel_split (fun h6 => ?_) (fun h6 => ?_)
            · conv => whnf
              have hk1 : x.k > 1 := by simpa using h6
              refine ⟨_, _, sameInts_ok (lkW W v) (lkW W v) (by have := hI.l v; omega) _ _ true (by simp [hsame (.inr hk1)]), fun _ => rfl, ?_⟩
              conv => whnf
              refine loop_v (V := fun a : Nat => [(10, .int .i64 a)]) (O := fun _ => ob) (m := fun a => (lkW W v).length - a) (P := fun a => a ≤ (lkW W v).length) ?_ 0 (Nat.zero_le _) rfl
              intro R2 a ha hN2 hE2 hR2
              have hnl : ((lkW W v).map irow).length = (lkW W v).length := by simp
              have hnlb := hI'.l v
              conv => whnf
              refine sel_split (fun g1 => ?_) (fun g1 => ?_)
              · conv => whnf
                have g1 := of_decide_eq_true g1
                rw [hnl] at g1
                have ea : IntKind.i64.wrap ((a : Int) + 1) = ((a + 1 : Nat) : Int) := by rw [wrap64] <;> omega
                obtain ⟨p, hp⟩ : ∃ p, (lkW W v)[a]? = some p := ⟨_, List.getElem?_eq_getElem (by omega)⟩
                refine loop_v (V := fun b : Nat => [(11, .int .i64 b)]) (O := fun _ => ob) (m := fun b => a - b) (P := fun b => b ≤ a) ?_ 0 (Nat.zero_le _) rfl
                intro R3 b hb hN3 hE3 hR3
                conv => whnf
                refine sel_split (fun g2 => ?_) (fun g2 => ?_)
                · conv => whnf
                  have g2 := of_decide_eq_true g2
                  have eb : IntKind.i64.wrap ((b : Int) + 1) = ((b + 1 : Nat) : Int) := by rw [wrap64] <;> omega
                  obtain ⟨q, hq⟩ : ∃ q, (lkW W v)[b]? = some q := ⟨_, List.getElem?_eq_getElem (by omega)⟩
                  have hpq := nodup_ne (hI'.d v) hp hq (by omega)
                  refine ⟨_, ⟨by omega, idx_i hp⟩, ?_⟩
                  conv => whnf
                  refine ⟨_, ⟨by omega, idx_i hq⟩, ?_⟩
                  conv => whnf
                  refine sel_f (by simpa using hpq) ?_
                  conv => whnf
                  refine hN3 (b + 1) _ (by omega) (by omega) ?_
                  rw [← eb]; rfl
                · conv => whnf
                  refine hE3 _ _ ?_
                  conv => whnf
                  refine hN2 (a + 1) _ (by omega) (by omega) ?_
                  rw [← ea]; rfl
              · conv => whnf
                refine hE2 _ _ ?_
                conv => whnf
                refine hN ⟨i + 1, ob, c, W, d, G⟩ _ ⟨by show i + 1 ≤ l.length; omega, hT', hI'⟩ (by show l.length - (i + 1) < l.length - i; omega) ?_
                show _ = WSt.headX _ _ [(6, .val (.int .i64 ((i + 1 : Nat) : Int)))] ob
                rw [← e]; rfl
            · conv => whnf
              refine loop_v (V := fun a : Nat => [(10, .int .i64 a)]) (O := fun _ => ob) (m := fun a => (lkW W v).length - a) (P := fun a => a ≤ (lkW W v).length) ?_ 0 (Nat.zero_le _) rfl
              intro R2 a ha hN2 hE2 hR2
              have hnl : ((lkW W v).map irow).length = (lkW W v).length := by simp
              have hnlb := hI'.l v
              conv => whnf
              refine sel_split (fun g1 => ?_) (fun g1 => ?_)
              · conv => whnf
                have g1 := of_decide_eq_true g1
                rw [hnl] at g1
                have ea : IntKind.i64.wrap ((a : Int) + 1) = ((a + 1 : Nat) : Int) := by rw [wrap64] <;> omega
                obtain ⟨p, hp⟩ : ∃ p, (lkW W v)[a]? = some p := ⟨_, List.getElem?_eq_getElem (by omega)⟩
                refine loop_v (V := fun b : Nat => [(11, .int .i64 b)]) (O := fun _ => ob) (m := fun b => a - b) (P := fun b => b ≤ a) ?_ 0 (Nat.zero_le _) rfl
                intro R3 b hb hN3 hE3 hR3
                conv => whnf
                refine sel_split (fun g2 => ?_) (fun g2 => ?_)
                · conv => whnf
                  have g2 := of_decide_eq_true g2
                  have eb : IntKind.i64.wrap ((b : Int) + 1) = ((b + 1 : Nat) : Int) := by rw [wrap64] <;> omega
                  obtain ⟨q, hq⟩ : ∃ q, (lkW W v)[b]? = some q := ⟨_, List.getElem?_eq_getElem (by omega)⟩
                  have hpq := nodup_ne (hI'.d v) hp hq (by omega)
                  refine ⟨_, ⟨by omega, idx_i hp⟩, ?_⟩
                  conv => whnf
                  refine ⟨_, ⟨by omega, idx_i hq⟩, ?_⟩
                  conv => whnf
                  refine sel_f (by simpa using hpq) ?_
                  conv => whnf
                  refine hN3 (b + 1) _ (by omega) (by omega) ?_
                  rw [← eb]; rfl
                · conv => whnf
                  refine hE3 _ _ ?_
                  conv => whnf
                  refine hN2 (a + 1) _ (by omega) (by omega) ?_
                  rw [← ea]; rfl
              · conv => whnf
                refine hE2 _ _ ?_
                conv => whnf
                refine hN ⟨i + 1, ob, c, W, d, G⟩ _ ⟨by show i + 1 ≤ l.length; omega, hT', hI'⟩ (by show l.length - (i + 1) < l.length - i; omega) ?_
                show _ = WSt.headX _ _ [(6, .val (.int .i64 ((i + 1 : Nat) : Int)))] ob
                rw [← e]; rfl
        · refine ⟨_, _, ask_yes (pb := 0) hT (Nat.zero_le _) x.v x.n (by have := hI.l x.v; omega) hm, (fun h => nomatch h), ?_⟩
          have hT' := hT.setW (ck (wE W) x.v c) (setW W x.v (lkW W x.v ++ [x.n]) c)
          have hI' := inv_set hI x.v x.n c hm
          have hsame : x.v ≠ v ∨ x.k > 1 → lkW W v = lkW (setW W x.v (lkW W x.v ++ [x.n]) c) v := fun hh => by
            rw [lkW_set]
            split
            · rename_i e0; rcases hh with hh | hh
              · exact absurd e0.symm hh
              · omega
            · rfl
          conv => whnf
          refine ⟨_, _, waiters_ok hT' v (by have := hI'.l v; omega) _, fun _ => noRefSI _ _ _, ?_⟩
          conv => whnf
          refine sel_split (fun h5 => ?_) (fun h5 => ?_)
          · conv => whnf
            have hne : x.v ≠ v := fun e => by rw [e] at h5; simp at h5
            refine ⟨_, _, sameInts_ok (lkW W v) (lkW (setW W x.v (lkW W x.v ++ [x.n]) c) v) (by have := hI.l v; omega) _ _ true (by simp [hsame (.inl hne)]), fun _ => rfl, ?_⟩
            conv => whnf
            refine loop_v (V := fun a : Nat => [(10, .int .i64 a)]) (O := fun _ => (ob.set 0 (mE (ck (wE W) x.v c) (wE (setW W x.v (lkW W x.v ++ [x.n]) c))))) (m := fun a => (lkW (setW W x.v (lkW W x.v ++ [x.n]) c) v).length - a) (P := fun a => a ≤ (lkW (setW W x.v (lkW W x.v ++ [x.n]) c) v).length) ?_ 0 (Nat.zero_le _) rfl
            intro R2 a ha hN2 hE2 hR2
            have hnl : ((lkW (setW W x.v (lkW W x.v ++ [x.n]) c) v).map irow).length = (lkW (setW W x.v (lkW W x.v ++ [x.n]) c) v).length := by simp
            have hnlb := hI'.l v
            conv => whnf
            refine sel_split (fun g1 => ?_) (fun g1 => ?_)
            · conv => whnf
              have g1 := of_decide_eq_true g1
              rw [hnl] at g1
              have ea : IntKind.i64.wrap ((a : Int) + 1) = ((a + 1 : Nat) : Int) := by rw [wrap64] <;> omega
              obtain ⟨p, hp⟩ : ∃ p, (lkW (setW W x.v (lkW W x.v ++ [x.n]) c) v)[a]? = some p := ⟨_, List.getElem?_eq_getElem (by omega)⟩
              refine loop_v (V := fun b : Nat => [(11, .int .i64 b)]) (O := fun _ => (ob.set 0 (mE (ck (wE W) x.v c) (wE (setW W x.v (lkW W x.v ++ [x.n]) c))))) (m := fun b => a - b) (P := fun b => b ≤ a) ?_ 0 (Nat.zero_le _) rfl
              intro R3 b hb hN3 hE3 hR3
              conv => whnf
              refine sel_split (fun g2 => ?_) (fun g2 => ?_)
              · conv => whnf
                have g2 := of_decide_eq_true g2
                have eb : IntKind.i64.wrap ((b : Int) + 1) = ((b + 1 : Nat) : Int) := by rw [wrap64] <;> omega
                obtain ⟨q, hq⟩ : ∃ q, (lkW (setW W x.v (lkW W x.v ++ [x.n]) c) v)[b]? = some q := ⟨_, List.getElem?_eq_getElem (by omega)⟩
                have hpq := nodup_ne (hI'.d v) hp hq (by omega)
                refine ⟨_, ⟨by omega, idx_i hp⟩, ?_⟩
                conv => whnf
                refine ⟨_, ⟨by omega, idx_i hq⟩, ?_⟩
                conv => whnf
                refine sel_f (by simpa using hpq) ?_
                conv => whnf
                refine hN3 (b + 1) _ (by omega) (by omega) ?_
                rw [← eb]; rfl
              · conv => whnf
                refine hE3 _ _ ?_
                conv => whnf
                refine hN2 (a + 1) _ (by omega) (by omega) ?_
                rw [← ea]; rfl
            · conv => whnf
              refine hE2 _ _ ?_
              conv => whnf
              refine hN ⟨i + 1, (ob.set 0 (mE (ck (wE W) x.v c) (wE (setW W x.v (lkW W x.v ++ [x.n]) c)))), (ck (wE W) x.v c), (setW W x.v (lkW W x.v ++ [x.n]) c), d, G⟩ _ ⟨by show i + 1 ≤ l.length; omega, hT', hI'⟩ (by show l.length - (i + 1) < l.length - i; omega) ?_
              show _ = WSt.headX _ _ [(6, .val (.int .i64 ((i + 1 : Nat) : Int)))] (ob.set 0 (mE (ck (wE W) x.v c) (wE (setW W x.v (lkW W x.v ++ [x.n]) c))))
              rw [← e]; rfl
          · conv => whnf
            refine sel_split (fun h6 => ?_) (fun h6 => ?_)
            · conv => whnf
              have hk1 : x.k > 1 := by simpa using h6
              refine ⟨_, _, sameInts_ok (lkW W v) (lkW (setW W x.v (lkW W x.v ++ [x.n]) c) v) (by have := hI.l v; omega) _ _ true (by simp [hsame (.inr hk1)]), fun _ => rfl, ?_⟩
              conv => whnf
              refine loop_v (V := fun a : Nat => [(10, .int .i64 a)]) (O := fun _ => (ob.set 0 (mE (ck (wE W) x.v c) (wE (setW W x.v (lkW W x.v ++ [x.n]) c))))) (m := fun a => (lkW (setW W x.v (lkW W x.v ++ [x.n]) c) v).length - a) (P := fun a => a ≤ (lkW (setW W x.v (lkW W x.v ++ [x.n]) c) v).length) ?_ 0 (Nat.zero_le _) rfl
              intro R2 a ha hN2 hE2 hR2
              have hnl : ((lkW (setW W x.v (lkW W x.v ++ [x.n]) c) v).map irow).length = (lkW (setW W x.v (lkW W x.v ++ [x.n]) c) v).length := by simp
              have hnlb := hI'.l v
              conv => whnf
              refine sel_split (fun g1 => ?_) (fun g1 => ?_)
              · conv => whnf
                have g1 := of_decide_eq_true g1
                rw [hnl] at g1
                have ea : IntKind.i64.wrap ((a : Int) + 1) = ((a + 1 : Nat) : Int) := by rw [wrap64] <;> omega
                obtain ⟨p, hp⟩ : ∃ p, (lkW (setW W x.v (lkW W x.v ++ [x.n]) c) v)[a]? = some p := ⟨_, List.getElem?_eq_getElem (by omega)⟩
                refine loop_v (V := fun b : Nat => [(11, .int .i64 b)]) (O := fun _ => (ob.set 0 (mE (ck (wE W) x.v c) (wE (setW W x.v (lkW W x.v ++ [x.n]) c))))) (m := fun b => a - b) (P := fun b => b ≤ a) ?_ 0 (Nat.zero_le _) rfl
                intro R3 b hb hN3 hE3 hR3
                conv => whnf
                refine sel_split (fun g2 => ?_) (fun g2 => ?_)
                · conv => whnf
                  have g2 := of_decide_eq_true g2
                  have eb : IntKind.i64.wrap ((b : Int) + 1) = ((b + 1 : Nat) : Int) := by rw [wrap64] <;> omega
                  obtain ⟨q, hq⟩ : ∃ q, (lkW (setW W x.v (lkW W x.v ++ [x.n]) c) v)[b]? = some q := ⟨_, List.getElem?_eq_getElem (by omega)⟩
                  have hpq := nodup_ne (hI'.d v) hp hq (by omega)
                  refine ⟨_, ⟨by omega, idx_i hp⟩, ?_⟩
                  conv => whnf
                  refine ⟨_, ⟨by omega, idx_i hq⟩, ?_⟩
                  conv => whnf
                  refine sel_f (by simpa using hpq) ?_
                  conv => whnf
                  refine hN3 (b + 1) _ (by omega) (by omega) ?_
                  rw [← eb]; rfl
                · conv => whnf
                  refine hE3 _ _ ?_
                  conv => whnf
                  refine hN2 (a + 1) _ (by omega) (by omega) ?_
                  rw [← ea]; rfl
              · conv => whnf
                refine hE2 _ _ ?_
                conv => whnf
                refine hN ⟨i + 1, (ob.set 0 (mE (ck (wE W) x.v c) (wE (setW W x.v (lkW W x.v ++ [x.n]) c)))), (ck (wE W) x.v c), (setW W x.v (lkW W x.v ++ [x.n]) c), d, G⟩ _ ⟨by show i + 1 ≤ l.length; omega, hT', hI'⟩ (by show l.length - (i + 1) < l.length - i; omega) ?_
                show _ = WSt.headX _ _ [(6, .val (.int .i64 ((i + 1 : Nat) : Int)))] (ob.set 0 (mE (ck (wE W) x.v c) (wE (setW W x.v (lkW W x.v ++ [x.n]) c))))
                rw [← e]; rfl
            · conv => whnf
              refine loop_v (V := fun a : Nat => [(10, .int .i64 a)]) (O := fun _ => (ob.set 0 (mE (ck (wE W) x.v c) (wE (setW W x.v (lkW W x.v ++ [x.n]) c))))) (m := fun a => (lkW (setW W x.v (lkW W x.v ++ [x.n]) c) v).length - a) (P := fun a => a ≤ (lkW (setW W x.v (lkW W x.v ++ [x.n]) c) v).length) ?_ 0 (Nat.zero_le _) rfl
              intro R2 a ha hN2 hE2 hR2
              have hnl : ((lkW (setW W x.v (lkW W x.v ++ [x.n]) c) v).map irow).length = (lkW (setW W x.v (lkW W x.v ++ [x.n]) c) v).length := by simp
              have hnlb := hI'.l v
              conv => whnf
              refine sel_split (fun g1 => ?_) (fun g1 => ?_)
              · conv => whnf
                have g1 := of_decide_eq_true g1
                rw [hnl] at g1
                have ea : IntKind.i64.wrap ((a : Int) + 1) = ((a + 1 : Nat) : Int) := by rw [wrap64] <;> omega
                obtain ⟨p, hp⟩ : ∃ p, (lkW (setW W x.v (lkW W x.v ++ [x.n]) c) v)[a]? = some p := ⟨_, List.getElem?_eq_getElem (by omega)⟩
                refine loop_v (V := fun b : Nat => [(11, .int .i64 b)]) (O := fun _ => (ob.set 0 (mE (ck (wE W) x.v c) (wE (setW W x.v (lkW W x.v ++ [x.n]) c))))) (m := fun b => a - b) (P := fun b => b ≤ a) ?_ 0 (Nat.zero_le _) rfl
                intro R3 b hb hN3 hE3 hR3
                conv => whnf
                refine sel_split (fun g2 => ?_) (fun g2 => ?_)
                · conv => whnf
                  have g2 := of_decide_eq_true g2
                  have eb : IntKind.i64.wrap ((b : Int) + 1) = ((b + 1 : Nat) : Int) := by rw [wrap64] <;> omega
                  obtain ⟨q, hq⟩ : ∃ q, (lkW (setW W x.v (lkW W x.v ++ [x.n]) c) v)[b]? = some q := ⟨_, List.getElem?_eq_getElem (by omega)⟩
                  have hpq := nodup_ne (hI'.d v) hp hq (by omega)
                  refine ⟨_, ⟨by omega, idx_i hp⟩, ?_⟩
                  conv => whnf
                  refine ⟨_, ⟨by omega, idx_i hq⟩, ?_⟩
                  conv => whnf
                  refine sel_f (by simpa using hpq) ?_
                  conv => whnf
                  refine hN3 (b + 1) _ (by omega) (by omega) ?_
                  rw [← eb]; rfl
                · conv => whnf
                  refine hE3 _ _ ?_
                  conv => whnf
                  refine hN2 (a + 1) _ (by omega) (by omega) ?_
                  rw [← ea]; rfl
              · conv => whnf
                refine hE2 _ _ ?_
                conv => whnf
                refine hN ⟨i + 1, (ob.set 0 (mE (ck (wE W) x.v c) (wE (setW W x.v (lkW W x.v ++ [x.n]) c)))), (ck (wE W) x.v c), (setW W x.v (lkW W x.v ++ [x.n]) c), d, G⟩ _ ⟨by show i + 1 ≤ l.length; omega, hT', hI'⟩ (by show l.length - (i + 1) < l.length - i; omega) ?_
                show _ = WSt.headX _ _ [(6, .val (.int .i64 ((i + 1 : Nat) : Int)))] (ob.set 0 (mE (ck (wE W) x.v c) (wE (setW W x.v (lkW W x.v ++ [x.n]) c))))
                rw [← e]; rfl
      · conv => whnf
        refine sel_split (fun h4 => ?_) (fun h4 => ?_)
        · conv => whnf
          have hk : x.k = 1 := by simpa using h4
          refine ⟨_, _, tell_ok (pb := 0) hT (Nat.zero_le _) x.v (by have := hI.l x.v; omega), (fun h => nomatch h), ?_⟩
          have hT' := hT.setW c (delW W x.v)
          have hI' := inv_del hI x.v
          have hsame : x.v ≠ v ∨ x.k > 1 → lkW W v = lkW (delW W x.v) v := fun hh => by
            rw [lkW_del hI.o]
            split
            · rename_i e0; rcases hh with hh | hh
              · exact absurd e0.symm hh
              · omega
            · rfl
          conv => whnf
          refine ⟨_, _, waiters_ok hT' v (by have := hI'.l v; omega) _, fun _ => noRefSI _ _ _, ?_⟩
          conv => whnf
          refine sel_split (fun h5 => ?_) (fun h5 => ?_)
          · conv => whnf
            have hne : x.v ≠ v := fun e => by rw [e] at h5; simp at h5
            refine ⟨_, _, sameInts_ok (lkW W v) (lkW (delW W x.v) v) (by have := hI.l v; omega) _ _ true (by simp [hsame (.inl hne)]), fun _ => rfl, ?_⟩
            conv => whnf
            refine loop_v (V := fun a : Nat => [(10, .int .i64 a)]) (O := fun _ => (ob.set 0 (mE c (wE (delW W x.v))))) (m := fun a => (lkW (delW W x.v) v).length - a) (P := fun a => a ≤ (lkW (delW W x.v) v).length) ?_ 0 (Nat.zero_le _) rfl
            intro R2 a ha hN2 hE2 hR2
            have hnl : ((lkW (delW W x.v) v).map irow).length = (lkW (delW W x.v) v).length := by simp
            have hnlb := hI'.l v
            conv => whnf
            refine sel_split (fun g1 => ?_) (fun g1 => ?_)
            · conv => whnf
              have g1 := of_decide_eq_true g1
              rw [hnl] at g1
              have ea : IntKind.i64.wrap ((a : Int) + 1) = ((a + 1 : Nat) : Int) := by rw [wrap64] <;> omega
              obtain ⟨p, hp⟩ : ∃ p, (lkW (delW W x.v) v)[a]? = some p := ⟨_, List.getElem?_eq_getElem (by omega)⟩
              refine loop_v (V := fun b : Nat => [(11, .int .i64 b)]) (O := fun _ => (ob.set 0 (mE c (wE (delW W x.v))))) (m := fun b => a - b) (P := fun b => b ≤ a) ?_ 0 (Nat.zero_le _) rfl
              intro R3 b hb hN3 hE3 hR3
              conv => whnf
              refine sel_split (fun g2 => ?_) (fun g2 => ?_)
              · conv => whnf
                have g2 := of_decide_eq_true g2
                have eb : IntKind.i64.wrap ((b : Int) + 1) = ((b + 1 : Nat) : Int) := by rw [wrap64] <;> omega
                obtain ⟨q, hq⟩ : ∃ q, (lkW (delW W x.v) v)[b]? = some q := ⟨_, List.getElem?_eq_getElem (by omega)⟩
                have hpq := nodup_ne (hI'.d v) hp hq (by omega)
                refine ⟨_, ⟨by omega, idx_i hp⟩, ?_⟩
                conv => whnf
                refine ⟨_, ⟨by omega, idx_i hq⟩, ?_⟩
                conv => whnf
                refine sel_f (by simpa using hpq) ?_
                conv => whnf
                refine hN3 (b + 1) _ (by omega) (by omega) ?_
                rw [← eb]; rfl
              · conv => whnf
                refine hE3 _ _ ?_
                conv => whnf
                refine hN2 (a + 1) _ (by omega) (by omega) ?_
                rw [← ea]; rfl
            · conv => whnf
              refine hE2 _ _ ?_
              conv => whnf
              refine hN ⟨i + 1, (ob.set 0 (mE c (wE (delW W x.v)))), c, (delW W x.v), d, G⟩ _ ⟨by show i + 1 ≤ l.length; omega, hT', hI'⟩ (by show l.length - (i + 1) < l.length - i; omega) ?_
              show _ = WSt.headX _ _ [(6, .val (.int .i64 ((i + 1 : Nat) : Int)))] (ob.set 0 (mE c (wE (delW W x.v))))
              rw [← e]; rfl
          · conv => whnf
            refine sel_split (fun h6 => ?_) (fun h6 => ?_)
            · conv => whnf
              have hk1 : x.k > 1 := by simpa using h6
              refine ⟨_, _, sameInts_ok (lkW W v) (lkW (delW W x.v) v) (by have := hI.l v; omega) _ _ true (by simp [hsame (.inr hk1)]), fun _ => rfl, ?_⟩
              conv => whnf
              refine loop_v (V := fun a : Nat => [(10, .int .i64 a)]) (O := fun _ => (ob.set 0 (mE c (wE (delW W x.v))))) (m := fun a => (lkW (delW W x.v) v).length - a) (P := fun a => a ≤ (lkW (delW W x.v) v).length) ?_ 0 (Nat.zero_le _) rfl
              intro R2 a ha hN2 hE2 hR2
              have hnl : ((lkW (delW W x.v) v).map irow).length = (lkW (delW W x.v) v).length := by simp
              have hnlb := hI'.l v
              conv => whnf
              refine sel_split (fun g1 => ?_) (fun g1 => ?_)
              · conv => whnf
                have g1 := of_decide_eq_true g1
                rw [hnl] at g1
                have ea : IntKind.i64.wrap ((a : Int) + 1) = ((a + 1 : Nat) : Int) := by rw [wrap64] <;> omega
                obtain ⟨p, hp⟩ : ∃ p, (lkW (delW W x.v) v)[a]? = some p := ⟨_, List.getElem?_eq_getElem (by omega)⟩
                refine loop_v (V := fun b : Nat => [(11, .int .i64 b)]) (O := fun _ => (ob.set 0 (mE c (wE (delW W x.v))))) (m := fun b => a - b) (P := fun b => b ≤ a) ?_ 0 (Nat.zero_le _) rfl
                intro R3 b hb hN3 hE3 hR3
                conv => whnf
                refine sel_split (fun g2 => ?_) (fun g2 => ?_)
                · conv => whnf
                  have g2 := of_decide_eq_true g2
                  have eb : IntKind.i64.wrap ((b : Int) + 1) = ((b + 1 : Nat) : Int) := by rw [wrap64] <;> omega
                  obtain ⟨q, hq⟩ : ∃ q, (lkW (delW W x.v) v)[b]? = some q := ⟨_, List.getElem?_eq_getElem (by omega)⟩
                  have hpq := nodup_ne (hI'.d v) hp hq (by omega)
                  refine ⟨_, ⟨by omega, idx_i hp⟩, ?_⟩
                  conv => whnf
                  refine ⟨_, ⟨by omega, idx_i hq⟩, ?_⟩
                  conv => whnf
                  refine sel_f (by simpa using hpq) ?_
                  conv => whnf
                  refine hN3 (b + 1) _ (by omega) (by omega) ?_
                  rw [← eb]; rfl
                · conv => whnf
                  refine hE3 _ _ ?_
                  conv => whnf
                  refine hN2 (a + 1) _ (by omega) (by omega) ?_
                  rw [← ea]; rfl
              · conv => whnf
                refine hE2 _ _ ?_
                conv => whnf
                refine hN ⟨i + 1, (ob.set 0 (mE c (wE (delW W x.v)))), c, (delW W x.v), d, G⟩ _ ⟨by show i + 1 ≤ l.length; omega, hT', hI'⟩ (by show l.length - (i + 1) < l.length - i; omega) ?_
                show _ = WSt.headX _ _ [(6, .val (.int .i64 ((i + 1 : Nat) : Int)))] (ob.set 0 (mE c (wE (delW W x.v))))
                rw [← e]; rfl
            · conv => whnf
              refine loop_v (V := fun a : Nat => [(10, .int .i64 a)]) (O := fun _ => (ob.set 0 (mE c (wE (delW W x.v))))) (m := fun a => (lkW (delW W x.v) v).length - a) (P := fun a => a ≤ (lkW (delW W x.v) v).length) ?_ 0 (Nat.zero_le _) rfl
              intro R2 a ha hN2 hE2 hR2
              have hnl : ((lkW (delW W x.v) v).map irow).length = (lkW (delW W x.v) v).length := by simp
              have hnlb := hI'.l v
              conv => whnf
              refine sel_split (fun g1 => ?_) (fun g1 => ?_)
              · conv => whnf
                have g1 := of_decide_eq_true g1
                rw [hnl] at g1
                have ea : IntKind.i64.wrap ((a : Int) + 1) = ((a + 1 : Nat) : Int) := by rw [wrap64] <;> omega
                obtain ⟨p, hp⟩ : ∃ p, (lkW (delW W x.v) v)[a]? = some p := ⟨_, List.getElem?_eq_getElem (by omega)⟩
                refine loop_v (V := fun b : Nat => [(11, .int .i64 b)]) (O := fun _ => (ob.set 0 (mE c (wE (delW W x.v))))) (m := fun b => a - b) (P := fun b => b ≤ a) ?_ 0 (Nat.zero_le _) rfl
                intro R3 b hb hN3 hE3 hR3
                conv => whnf
                refine sel_split (fun g2 => ?_) (fun g2 => ?_)
                · conv => whnf
                  have g2 := of_decide_eq_true g2
                  have eb : IntKind.i64.wrap ((b : Int) + 1) = ((b + 1 : Nat) : Int) := by rw [wrap64] <;> omega
                  obtain ⟨q, hq⟩ : ∃ q, (lkW (delW W x.v) v)[b]? = some q := ⟨_, List.getElem?_eq_getElem (by omega)⟩
                  have hpq := nodup_ne (hI'.d v) hp hq (by omega)
                  refine ⟨_, ⟨by omega, idx_i hp⟩, ?_⟩
                  conv => whnf
                  refine ⟨_, ⟨by omega, idx_i hq⟩, ?_⟩
                  conv => whnf
                  refine sel_f (by simpa using hpq) ?_
                  conv => whnf
                  refine hN3 (b + 1) _ (by omega) (by omega) ?_
                  rw [← eb]; rfl
                · conv => whnf
                  refine hE3 _ _ ?_
                  conv => whnf
                  refine hN2 (a + 1) _ (by omega) (by omega) ?_
                  rw [← ea]; rfl
              · conv => whnf
                refine hE2 _ _ ?_
                conv => whnf
                refine hN ⟨i + 1, (ob.set 0 (mE c (wE (delW W x.v)))), c, (delW W x.v), d, G⟩ _ ⟨by show i + 1 ≤ l.length; omega, hT', hI'⟩ (by show l.length - (i + 1) < l.length - i; omega) ?_
                show _ = WSt.headX _ _ [(6, .val (.int .i64 ((i + 1 : Nat) : Int)))] (ob.set 0 (mE c (wE (delW W x.v))))
                rw [← e]; rfl
        · conv => whnf
          refine sel_split (fun h7 => ?_) (fun h7 => ?_)
          · conv => whnf
            cases hm : lkG G x.v with
            | true =>
              refine ⟨_, _, want_no hT x.v hm, (fun h => nomatch h), ?_⟩
              have hT' := hT
              have hI' := inv_mono hI
              have hsame : x.v ≠ v ∨ x.k > 1 → lkW W v = lkW W v := fun _ => rfl
              conv => whnf
              refine ⟨_, _, waiters_ok hT' v (by have := hI'.l v; omega) _, fun _ => noRefSI _ _ _, ?_⟩
              conv => whnf
              refine sel_split (fun h5 => ?_) (fun h5 => ?_)
              · conv => whnf
                have hne : x.v ≠ v := fun e => by rw [e] at h5; simp at h5
                refine ⟨_, _, sameInts_ok (lkW W v) (lkW W v) (by have := hI.l v; omega) _ _ true (by simp [hsame (.inl hne)]), fun _ => rfl, ?_⟩
                conv => whnf
                refine loop_v (V := fun a : Nat => [(10, .int .i64 a)]) (O := fun _ => ob) (m := fun a => (lkW W v).length - a) (P := fun a => a ≤ (lkW W v).length) ?_ 0 (Nat.zero_le _) rfl
                intro R2 a ha hN2 hE2 hR2
                have hnl : ((lkW W v).map irow).length = (lkW W v).length := by simp
                have hnlb := hI'.l v
                conv => whnf
                refine sel_split (fun g1 => ?_) (fun g1 => ?_)
                · conv => whnf
                  have g1 := of_decide_eq_true g1
                  rw [hnl] at g1
                  have ea : IntKind.i64.wrap ((a : Int) + 1) = ((a + 1 : Nat) : Int) := by rw [wrap64] <;> omega
                  obtain ⟨p, hp⟩ : ∃ p, (lkW W v)[a]? = some p := ⟨_, List.getElem?_eq_getElem (by omega)⟩
                  refine loop_v (V := fun b : Nat => [(11, .int .i64 b)]) (O := fun _ => ob) (m := fun b => a - b) (P := fun b => b ≤ a) ?_ 0 (Nat.zero_le _) rfl
                  intro R3 b hb hN3 hE3 hR3
                  conv => whnf
                  refine sel_split (fun g2 => ?_) (fun g2 => ?_)
                  · conv => whnf
                    have g2 := of_decide_eq_true g2
                    have eb : IntKind.i64.wrap ((b : Int) + 1) = ((b + 1 : Nat) : Int) := by rw [wrap64] <;> omega
                    obtain ⟨q, hq⟩ : ∃ q, (lkW W v)[b]? = some q := ⟨_, List.getElem?_eq_getElem (by omega)⟩
                    have hpq := nodup_ne (hI'.d v) hp hq (by omega)
                    refine ⟨_, ⟨by omega, idx_i hp⟩, ?_⟩
                    conv => whnf
                    refine ⟨_, ⟨by omega, idx_i hq⟩, ?_⟩
                    conv => whnf
                    refine sel_f (by simpa using hpq) ?_
                    conv => whnf
                    refine hN3 (b + 1) _ (by omega) (by omega) ?_
                    rw [← eb]; rfl
                  · conv => whnf
                    refine hE3 _ _ ?_
                    conv => whnf
                    refine hN2 (a + 1) _ (by omega) (by omega) ?_
                    rw [← ea]; rfl
                · conv => whnf
                  refine hE2 _ _ ?_
                  conv => whnf
                  refine hN ⟨i + 1, ob, c, W, d, G⟩ _ ⟨by show i + 1 ≤ l.length; omega, hT', hI'⟩ (by show l.length - (i + 1) < l.length - i; omega) ?_
                  show _ = WSt.headX _ _ [(6, .val (.int .i64 ((i + 1 : Nat) : Int)))] ob
                  rw [← e]; rfl
              · conv => whnf
                refine sel_split (fun h6 => ?_) (fun h6 => ?_)
                · conv => whnf
                  have hk1 : x.k > 1 := by simpa using h6
                  refine ⟨_, _, sameInts_ok (lkW W v) (lkW W v) (by have := hI.l v; omega) _ _ true (by simp [hsame (.inr hk1)]), fun _ => rfl, ?_⟩
                  conv => whnf
                  refine loop_v (V := fun a : Nat => [(10, .int .i64 a)]) (O := fun _ => ob) (m := fun a => (lkW W v).length - a) (P := fun a => a ≤ (lkW W v).length) ?_ 0 (Nat.zero_le _) rfl
                  intro R2 a ha hN2 hE2 hR2
                  have hnl : ((lkW W v).map irow).length = (lkW W v).length := by simp
                  have hnlb := hI'.l v
                  conv => whnf
                  refine sel_split (fun g1 => ?_) (fun g1 => ?_)
                  · conv => whnf
                    have g1 := of_decide_eq_true g1
                    rw [hnl] at g1
                    have ea : IntKind.i64.wrap ((a : Int) + 1) = ((a + 1 : Nat) : Int) := by rw [wrap64] <;> omega
                    obtain ⟨p, hp⟩ : ∃ p, (lkW W v)[a]? = some p := ⟨_, List.getElem?_eq_getElem (by omega)⟩
                    refine loop_v (V := fun b : Nat => [(11, .int .i64 b)]) (O := fun _ => ob) (m := fun b => a - b) (P := fun b => b ≤ a) ?_ 0 (Nat.zero_le _) rfl
                    intro R3 b hb hN3 hE3 hR3
                    conv => whnf
                    refine sel_split (fun g2 => ?_) (fun g2 => ?_)
                    · conv => whnf
                      have g2 := of_decide_eq_true g2
                      have eb : IntKind.i64.wrap ((b : Int) + 1) = ((b + 1 : Nat) : Int) := by rw [wrap64] <;> omega
                      obtain ⟨q, hq⟩ : ∃ q, (lkW W v)[b]? = some q := ⟨_, List.getElem?_eq_getElem (by omega)⟩
                      have hpq := nodup_ne (hI'.d v) hp hq (by omega)
                      refine ⟨_, ⟨by omega, idx_i hp⟩, ?_⟩
                      conv => whnf
                      refine ⟨_, ⟨by omega, idx_i hq⟩, ?_⟩
                      conv => whnf
                      refine sel_f (by simpa using hpq) ?_
                      conv => whnf
                      refine hN3 (b + 1) _ (by omega) (by omega) ?_
                      rw [← eb]; rfl
                    · conv => whnf
                      refine hE3 _ _ ?_
                      conv => whnf
                      refine hN2 (a + 1) _ (by omega) (by omega) ?_
                      rw [← ea]; rfl
                  · conv => whnf
                    refine hE2 _ _ ?_
                    conv => whnf
                    refine hN ⟨i + 1, ob, c, W, d, G⟩ _ ⟨by show i + 1 ≤ l.length; omega, hT', hI'⟩ (by show l.length - (i + 1) < l.length - i; omega) ?_
                    show _ = WSt.headX _ _ [(6, .val (.int .i64 ((i + 1 : Nat) : Int)))] ob
                    rw [← e]; rfl
                · conv => whnf
                  refine loop_v (V := fun a : Nat => [(10, .int .i64 a)]) (O := fun _ => ob) (m := fun a => (lkW W v).length - a) (P := fun a => a ≤ (lkW W v).length) ?_ 0 (Nat.zero_le _) rfl
                  intro R2 a ha hN2 hE2 hR2
                  have hnl : ((lkW W v).map irow).length = (lkW W v).length := by simp
                  have hnlb := hI'.l v
                  conv => whnf
                  refine sel_split (fun g1 => ?_) (fun g1 => ?_)
                  · conv => whnf
                    have g1 := of_decide_eq_true g1
                    rw [hnl] at g1
                    have ea : IntKind.i64.wrap ((a : Int) + 1) = ((a + 1 : Nat) : Int) := by rw [wrap64] <;> omega
                    obtain ⟨p, hp⟩ : ∃ p, (lkW W v)[a]? = some p := ⟨_, List.getElem?_eq_getElem (by omega)⟩
                    refine loop_v (V := fun b : Nat => [(11, .int .i64 b)]) (O := fun _ => ob) (m := fun b => a - b) (P := fun b => b ≤ a) ?_ 0 (Nat.zero_le _) rfl
                    intro R3 b hb hN3 hE3 hR3
                    conv => whnf
                    refine sel_split (fun g2 => ?_) (fun g2 => ?_)
                    · conv => whnf
                      have g2 := of_decide_eq_true g2
                      have eb : IntKind.i64.wrap ((b : Int) + 1) = ((b + 1 : Nat) : Int) := by rw [wrap64] <;> omega
                      obtain ⟨q, hq⟩ : ∃ q, (lkW W v)[b]? = some q := ⟨_, List.getElem?_eq_getElem (by omega)⟩
                      have hpq := nodup_ne (hI'.d v) hp hq (by omega)
                      refine ⟨_, ⟨by omega, idx_i hp⟩, ?_⟩
                      conv => whnf
                      refine ⟨_, ⟨by omega, idx_i hq⟩, ?_⟩
                      conv => whnf
                      refine sel_f (by simpa using hpq) ?_
                      conv => whnf
                      refine hN3 (b + 1) _ (by omega) (by omega) ?_
                      rw [← eb]; rfl
                    · conv => whnf
                      refine hE3 _ _ ?_
                      conv => whnf
                      refine hN2 (a + 1) _ (by omega) (by omega) ?_
                      rw [← ea]; rfl
                  · conv => whnf
                    refine hE2 _ _ ?_
                    conv => whnf
                    refine hN ⟨i + 1, ob, c, W, d, G⟩ _ ⟨by show i + 1 ≤ l.length; omega, hT', hI'⟩ (by show l.length - (i + 1) < l.length - i; omega) ?_
                    show _ = WSt.headX _ _ [(6, .val (.int .i64 ((i + 1 : Nat) : Int)))] ob
                    rw [← e]; rfl
            | false =>
              refine ⟨_, _, want_yes (pb := 0) hT (Nat.zero_le _) x.v hm, (fun h => nomatch h), ?_⟩
              have hT' := hT.setG (ck (gE G) x.v d) (G ++ [(x.v, d)])
              have hI' := inv_mono hI
              have hsame : x.v ≠ v ∨ x.k > 1 → lkW W v = lkW W v := fun _ => rfl
              conv => whnf
              refine ⟨_, _, waiters_ok hT' v (by have := hI'.l v; omega) _, fun _ => noRefSI _ _ _, ?_⟩
              conv => whnf
              refine sel_split (fun h5 => ?_) (fun h5 => ?_)
              · conv => whnf
                have hne : x.v ≠ v := fun e => by rw [e] at h5; simp at h5
                refine ⟨_, _, sameInts_ok (lkW W v) (lkW W v) (by have := hI.l v; omega) _ _ true (by simp [hsame (.inl hne)]), fun _ => rfl, ?_⟩
                conv => whnf
                refine loop_v (V := fun a : Nat => [(10, .int .i64 a)]) (O := fun _ => (ob.set 1 (mE (ck (gE G) x.v d) (gE (G ++ [(x.v, d)]))))) (m := fun a => (lkW W v).length - a) (P := fun a => a ≤ (lkW W v).length) ?_ 0 (Nat.zero_le _) rfl
                intro R2 a ha hN2 hE2 hR2
                have hnl : ((lkW W v).map irow).length = (lkW W v).length := by simp
                have hnlb := hI'.l v
                conv => whnf
                refine sel_split (fun g1 => ?_) (fun g1 => ?_)
                · conv => whnf
                  have g1 := of_decide_eq_true g1
                  rw [hnl] at g1
                  have ea : IntKind.i64.wrap ((a : Int) + 1) = ((a + 1 : Nat) : Int) := by rw [wrap64] <;> omega
                  obtain ⟨p, hp⟩ : ∃ p, (lkW W v)[a]? = some p := ⟨_, List.getElem?_eq_getElem (by omega)⟩
                  refine loop_v (V := fun b : Nat => [(11, .int .i64 b)]) (O := fun _ => (ob.set 1 (mE (ck (gE G) x.v d) (gE (G ++ [(x.v, d)]))))) (m := fun b => a - b) (P := fun b => b ≤ a) ?_ 0 (Nat.zero_le _) rfl
                  intro R3 b hb hN3 hE3 hR3
                  conv => whnf
                  refine sel_split (fun g2 => ?_) (fun g2 => ?_)
                  · conv => whnf
                    have g2 := of_decide_eq_true g2
                    have eb : IntKind.i64.wrap ((b : Int) + 1) = ((b + 1 : Nat) : Int) := by rw [wrap64] <;> omega
                    obtain ⟨q, hq⟩ : ∃ q, (lkW W v)[b]? = some q := ⟨_, List.getElem?_eq_getElem (by omega)⟩
                    have hpq := nodup_ne (hI'.d v) hp hq (by omega)
                    refine ⟨_, ⟨by omega, idx_i hp⟩, ?_⟩
                    conv => whnf
                    refine ⟨_, ⟨by omega, idx_i hq⟩, ?_⟩
                    conv => whnf
                    refine sel_f (by simpa using hpq) ?_
                    conv => whnf
                    refine hN3 (b + 1) _ (by omega) (by omega) ?_
                    rw [← eb]; rfl
                  · conv => whnf
                    refine hE3 _ _ ?_
                    conv => whnf
                    refine hN2 (a + 1) _ (by omega) (by omega) ?_
                    rw [← ea]; rfl
                · conv => whnf
                  refine hE2 _ _ ?_
                  conv => whnf
                  refine hN ⟨i + 1, (ob.set 1 (mE (ck (gE G) x.v d) (gE (G ++ [(x.v, d)])))), c, W, (ck (gE G) x.v d), (G ++ [(x.v, d)])⟩ _ ⟨by show i + 1 ≤ l.length; omega, hT', hI'⟩ (by show l.length - (i + 1) < l.length - i; omega) ?_
                  show _ = WSt.headX _ _ [(6, .val (.int .i64 ((i + 1 : Nat) : Int)))] (ob.set 1 (mE (ck (gE G) x.v d) (gE (G ++ [(x.v, d)]))))
                  rw [← e]; rfl
              · conv => whnf
                refine sel_split (fun h6 => ?_) (fun h6 => ?_)
                · conv => whnf
                  have hk1 : x.k > 1 := by simpa using h6
                  refine ⟨_, _, sameInts_ok (lkW W v) (lkW W v) (by have := hI.l v; omega) _ _ true (by simp [hsame (.inr hk1)]), fun _ => rfl, ?_⟩
                  conv => whnf
                  refine loop_v (V := fun a : Nat => [(10, .int .i64 a)]) (O := fun _ => (ob.set 1 (mE (ck (gE G) x.v d) (gE (G ++ [(x.v, d)]))))) (m := fun a => (lkW W v).length - a) (P := fun a => a ≤ (lkW W v).length) ?_ 0 (Nat.zero_le _) rfl
                  intro R2 a ha hN2 hE2 hR2
                  have hnl : ((lkW W v).map irow).length = (lkW W v).length := by simp
                  have hnlb := hI'.l v
                  conv => whnf
                  refine sel_split (fun g1 => ?_) (fun g1 => ?_)
                  · conv => whnf
                    have g1 := of_decide_eq_true g1
                    rw [hnl] at g1
                    have ea : IntKind.i64.wrap ((a : Int) + 1) = ((a + 1 : Nat) : Int) := by rw [wrap64] <;> omega
                    obtain ⟨p, hp⟩ : ∃ p, (lkW W v)[a]? = some p := ⟨_, List.getElem?_eq_getElem (by omega)⟩
                    refine loop_v (V := fun b : Nat => [(11, .int .i64 b)]) (O := fun _ => (ob.set 1 (mE (ck (gE G) x.v d) (gE (G ++ [(x.v, d)]))))) (m := fun b => a - b) (P := fun b => b ≤ a) ?_ 0 (Nat.zero_le _) rfl
                    intro R3 b hb hN3 hE3 hR3
                    conv => whnf
                    refine sel_split (fun g2 => ?_) (fun g2 => ?_)
                    · conv => whnf
                      have g2 := of_decide_eq_true g2
                      have eb : IntKind.i64.wrap ((b : Int) + 1) = ((b + 1 : Nat) : Int) := by rw [wrap64] <;> omega
                      obtain ⟨q, hq⟩ : ∃ q, (lkW W v)[b]? = some q := ⟨_, List.getElem?_eq_getElem (by omega)⟩
                      have hpq := nodup_ne (hI'.d v) hp hq (by omega)
                      refine ⟨_, ⟨by omega, idx_i hp⟩, ?_⟩
                      conv => whnf
                      refine ⟨_, ⟨by omega, idx_i hq⟩, ?_⟩
                      conv => whnf
                      refine sel_f (by simpa using hpq) ?_
                      conv => whnf
                      refine hN3 (b + 1) _ (by omega) (by omega) ?_
                      rw [← eb]; rfl
                    · conv => whnf
                      refine hE3 _ _ ?_
                      conv => whnf
                      refine hN2 (a + 1) _ (by omega) (by omega) ?_
                      rw [← ea]; rfl
                  · conv => whnf
                    refine hE2 _ _ ?_
                    conv => whnf
                    refine hN ⟨i + 1, (ob.set 1 (mE (ck (gE G) x.v d) (gE (G ++ [(x.v, d)])))), c, W, (ck (gE G) x.v d), (G ++ [(x.v, d)])⟩ _ ⟨by show i + 1 ≤ l.length; omega, hT', hI'⟩ (by show l.length - (i + 1) < l.length - i; omega) ?_
                    show _ = WSt.headX _ _ [(6, .val (.int .i64 ((i + 1 : Nat) : Int)))] (ob.set 1 (mE (ck (gE G) x.v d) (gE (G ++ [(x.v, d)]))))
                    rw [← e]; rfl
                · conv => whnf
                  refine loop_v (V := fun a : Nat => [(10, .int .i64 a)]) (O := fun _ => (ob.set 1 (mE (ck (gE G) x.v d) (gE (G ++ [(x.v, d)]))))) (m := fun a => (lkW W v).length - a) (P := fun a => a ≤ (lkW W v).length) ?_ 0 (Nat.zero_le _) rfl
                  intro R2 a ha hN2 hE2 hR2
                  have hnl : ((lkW W v).map irow).length = (lkW W v).length := by simp
                  have hnlb := hI'.l v
                  conv => whnf
                  refine sel_split (fun g1 => ?_) (fun g1 => ?_)
                  · conv => whnf
                    have g1 := of_decide_eq_true g1
                    rw [hnl] at g1
                    have ea : IntKind.i64.wrap ((a : Int) + 1) = ((a + 1 : Nat) : Int) := by rw [wrap64] <;> omega
                    obtain ⟨p, hp⟩ : ∃ p, (lkW W v)[a]? = some p := ⟨_, List.getElem?_eq_getElem (by omega)⟩
                    refine loop_v (V := fun b : Nat => [(11, .int .i64 b)]) (O := fun _ => (ob.set 1 (mE (ck (gE G) x.v d) (gE (G ++ [(x.v, d)]))))) (m := fun b => a - b) (P := fun b => b ≤ a) ?_ 0 (Nat.zero_le _) rfl
                    intro R3 b hb hN3 hE3 hR3
                    conv => whnf
                    refine sel_split (fun g2 => ?_) (fun g2 => ?_)
                    · conv => whnf
                      have g2 := of_decide_eq_true g2
                      have eb : IntKind.i64.wrap ((b : Int) + 1) = ((b + 1 : Nat) : Int) := by rw [wrap64] <;> omega
                      obtain ⟨q, hq⟩ : ∃ q, (lkW W v)[b]? = some q := ⟨_, List.getElem?_eq_getElem (by omega)⟩
                      have hpq := nodup_ne (hI'.d v) hp hq (by omega)
                      refine ⟨_, ⟨by omega, idx_i hp⟩, ?_⟩
                      conv => whnf
                      refine ⟨_, ⟨by omega, idx_i hq⟩, ?_⟩
                      conv => whnf
                      refine sel_f (by simpa using hpq) ?_
                      conv => whnf
                      refine hN3 (b + 1) _ (by omega) (by omega) ?_
                      rw [← eb]; rfl
                    · conv => whnf
                      refine hE3 _ _ ?_
                      conv => whnf
                      refine hN2 (a + 1) _ (by omega) (by omega) ?_
                      rw [← ea]; rfl
                  · conv => whnf
                    refine hE2 _ _ ?_
                    conv => whnf
                    refine hN ⟨i + 1, (ob.set 1 (mE (ck (gE G) x.v d) (gE (G ++ [(x.v, d)])))), c, W, (ck (gE G) x.v d), (G ++ [(x.v, d)])⟩ _ ⟨by show i + 1 ≤ l.length; omega, hT', hI'⟩ (by show l.length - (i + 1) < l.length - i; omega) ?_
                    show _ = WSt.headX _ _ [(6, .val (.int .i64 ((i + 1 : Nat) : Int)))] (ob.set 1 (mE (ck (gE G) x.v d) (gE (G ++ [(x.v, d)]))))
                    rw [← e]; rfl
          · conv => whnf
            have hT' := hT
            have hI' := inv_mono hI
            have hsame : x.v ≠ v ∨ x.k > 1 → lkW W v = lkW W v := fun _ => rfl
            conv => whnf
            refine ⟨_, _, waiters_ok hT' v (by have := hI'.l v; omega) _, fun _ => noRefSI _ _ _, ?_⟩
            conv => whnf
            refine sel_split (fun h5 => ?_) (fun h5 => ?_)
            · conv => whnf
              have hne : x.v ≠ v := fun e => by rw [e] at h5; simp at h5
              refine ⟨_, _, sameInts_ok (lkW W v) (lkW W v) (by have := hI.l v; omega) _ _ true (by simp [hsame (.inl hne)]), fun _ => rfl, ?_⟩
              conv => whnf
              refine loop_v (V := fun a : Nat => [(10, .int .i64 a)]) (O := fun _ => ob) (m := fun a => (lkW W v).length - a) (P := fun a => a ≤ (lkW W v).length) ?_ 0 (Nat.zero_le _) rfl
              intro R2 a ha hN2 hE2 hR2
              have hnl : ((lkW W v).map irow).length = (lkW W v).length := by simp
              have hnlb := hI'.l v
              conv => whnf
              refine sel_split (fun g1 => ?_) (fun g1 => ?_)
              · conv => whnf
                have g1 := of_decide_eq_true g1
                rw [hnl] at g1
                have ea : IntKind.i64.wrap ((a : Int) + 1) = ((a + 1 : Nat) : Int) := by rw [wrap64] <;> omega
                obtain ⟨p, hp⟩ : ∃ p, (lkW W v)[a]? = some p := ⟨_, List.getElem?_eq_getElem (by omega)⟩
                refine loop_v (V := fun b : Nat => [(11, .int .i64 b)]) (O := fun _ => ob) (m := fun b => a - b) (P := fun b => b ≤ a) ?_ 0 (Nat.zero_le _) rfl
                intro R3 b hb hN3 hE3 hR3
                conv => whnf
                refine sel_split (fun g2 => ?_) (fun g2 => ?_)
                · conv => whnf
                  have g2 := of_decide_eq_true g2
                  have eb : IntKind.i64.wrap ((b : Int) + 1) = ((b + 1 : Nat) : Int) := by rw [wrap64] <;> omega
                  obtain ⟨q, hq⟩ : ∃ q, (lkW W v)[b]? = some q := ⟨_, List.getElem?_eq_getElem (by omega)⟩
                  have hpq := nodup_ne (hI'.d v) hp hq (by omega)
                  refine ⟨_, ⟨by omega, idx_i hp⟩, ?_⟩
                  conv => whnf
                  refine ⟨_, ⟨by omega, idx_i hq⟩, ?_⟩
                  conv => whnf
                  refine sel_f (by simpa using hpq) ?_
                  conv => whnf
                  refine hN3 (b + 1) _ (by omega) (by omega) ?_
                  rw [← eb]; rfl
                · conv => whnf
                  refine hE3 _ _ ?_
                  conv => whnf
                  refine hN2 (a + 1) _ (by omega) (by omega) ?_
                  rw [← ea]; rfl
              · conv => whnf
                refine hE2 _ _ ?_
                conv => whnf
                refine hN ⟨i + 1, ob, c, W, d, G⟩ _ ⟨by show i + 1 ≤ l.length; omega, hT', hI'⟩ (by show l.length - (i + 1) < l.length - i; omega) ?_
                show _ = WSt.headX _ _ [(6, .val (.int .i64 ((i + 1 : Nat) : Int)))] ob
                rw [← e]; rfl
            · conv => whnf
              refine sel_split (fun h6 => ?_) (fun h6 => ?_)
              · conv => whnf
                have hk1 : x.k > 1 := by simpa using h6
                refine ⟨_, _, sameInts_ok (lkW W v) (lkW W v) (by have := hI.l v; omega) _ _ true (by simp [hsame (.inr hk1)]), fun _ => rfl, ?_⟩
                conv => whnf
                refine loop_v (V := fun a : Nat => [(10, .int .i64 a)]) (O := fun _ => ob) (m := fun a => (lkW W v).length - a) (P := fun a => a ≤ (lkW W v).length) ?_ 0 (Nat.zero_le _) rfl
                intro R2 a ha hN2 hE2 hR2
                have hnl : ((lkW W v).map irow).length = (lkW W v).length := by simp
                have hnlb := hI'.l v
                conv => whnf
                refine sel_split (fun g1 => ?_) (fun g1 => ?_)
                · conv => whnf
                  have g1 := of_decide_eq_true g1
                  rw [hnl] at g1
                  have ea : IntKind.i64.wrap ((a : Int) + 1) = ((a + 1 : Nat) : Int) := by rw [wrap64] <;> omega
                  obtain ⟨p, hp⟩ : ∃ p, (lkW W v)[a]? = some p := ⟨_, List.getElem?_eq_getElem (by omega)⟩
                  refine loop_v (V := fun b : Nat => [(11, .int .i64 b)]) (O := fun _ => ob) (m := fun b => a - b) (P := fun b => b ≤ a) ?_ 0 (Nat.zero_le _) rfl
                  intro R3 b hb hN3 hE3 hR3
                  conv => whnf
                  refine sel_split (fun g2 => ?_) (fun g2 => ?_)
                  · conv => whnf
                    have g2 := of_decide_eq_true g2
                    have eb : IntKind.i64.wrap ((b : Int) + 1) = ((b + 1 : Nat) : Int) := by rw [wrap64] <;> omega
                    obtain ⟨q, hq⟩ : ∃ q, (lkW W v)[b]? = some q := ⟨_, List.getElem?_eq_getElem (by omega)⟩
                    have hpq := nodup_ne (hI'.d v) hp hq (by omega)
                    refine ⟨_, ⟨by omega, idx_i hp⟩, ?_⟩
                    conv => whnf
                    refine ⟨_, ⟨by omega, idx_i hq⟩, ?_⟩
                    conv => whnf
                    refine sel_f (by simpa using hpq) ?_
                    conv => whnf
                    refine hN3 (b + 1) _ (by omega) (by omega) ?_
                    rw [← eb]; rfl
                  · conv => whnf
                    refine hE3 _ _ ?_
                    conv => whnf
                    refine hN2 (a + 1) _ (by omega) (by omega) ?_
                    rw [← ea]; rfl
                · conv => whnf
                  refine hE2 _ _ ?_
                  conv => whnf
                  refine hN ⟨i + 1, ob, c, W, d, G⟩ _ ⟨by show i + 1 ≤ l.length; omega, hT', hI'⟩ (by show l.length - (i + 1) < l.length - i; omega) ?_
                  show _ = WSt.headX _ _ [(6, .val (.int .i64 ((i + 1 : Nat) : Int)))] ob
                  rw [← e]; rfl
              · conv => whnf
                refine loop_v (V := fun a : Nat => [(10, .int .i64 a)]) (O := fun _ => ob) (m := fun a => (lkW W v).length - a) (P := fun a => a ≤ (lkW W v).length) ?_ 0 (Nat.zero_le _) rfl
                intro R2 a ha hN2 hE2 hR2
                have hnl : ((lkW W v).map irow).length = (lkW W v).length := by simp
                have hnlb := hI'.l v
                conv => whnf
                refine sel_split (fun g1 => ?_) (fun g1 => ?_)
                · conv => whnf
                  have g1 := of_decide_eq_true g1
                  rw [hnl] at g1
                  have ea : IntKind.i64.wrap ((a : Int) + 1) = ((a + 1 : Nat) : Int) := by rw [wrap64] <;> omega
                  obtain ⟨p, hp⟩ : ∃ p, (lkW W v)[a]? = some p := ⟨_, List.getElem?_eq_getElem (by omega)⟩
                  refine loop_v (V := fun b : Nat => [(11, .int .i64 b)]) (O := fun _ => ob) (m := fun b => a - b) (P := fun b => b ≤ a) ?_ 0 (Nat.zero_le _) rfl
                  intro R3 b hb hN3 hE3 hR3
                  conv => whnf
                  refine sel_split (fun g2 => ?_) (fun g2 => ?_)
                  · conv => whnf
                    have g2 := of_decide_eq_true g2
                    have eb : IntKind.i64.wrap ((b : Int) + 1) = ((b + 1 : Nat) : Int) := by rw [wrap64] <;> omega
                    obtain ⟨q, hq⟩ : ∃ q, (lkW W v)[b]? = some q := ⟨_, List.getElem?_eq_getElem (by omega)⟩
                    have hpq := nodup_ne (hI'.d v) hp hq (by omega)
                    refine ⟨_, ⟨by omega, idx_i hp⟩, ?_⟩
                    conv => whnf
                    refine ⟨_, ⟨by omega, idx_i hq⟩, ?_⟩
                    conv => whnf
                    refine sel_f (by simpa using hpq) ?_
                    conv => whnf
                    refine hN3 (b + 1) _ (by omega) (by omega) ?_
                    rw [← eb]; rfl
                  · conv => whnf
                    refine hE3 _ _ ?_
                    conv => whnf
                    refine hN2 (a + 1) _ (by omega) (by omega) ?_
                    rw [← ea]; rfl
                · conv => whnf
                  refine hE2 _ _ ?_
                  conv => whnf
                  refine hN ⟨i + 1, ob, c, W, d, G⟩ _ ⟨by show i + 1 ≤ l.length; omega, hT', hI'⟩ (by show l.length - (i + 1) < l.length - i; omega) ?_
                  show _ = WSt.headX _ _ [(6, .val (.int .i64 ((i + 1 : Nat) : Int)))] ob
                  rw [← e]; rfl
    · conv => whnf
      refine hE _ _ ?_
      conv => whnf
      obtain ⟨ob1, hlive⟩ := live_ok ob (max 0 ob.length) (by simp)
      refine ⟨_, _, hlive, fun _ => rfl, ?_⟩
      conv => whnf
      exact ⟨rfl, rfl⟩
  · conv => whnf
    refine hE _ _ ?_
    conv => whnf
    obtain ⟨ob1, hlive⟩ := live_ok ob (max 0 ob.length) (by simp)
    refine ⟨_, _, hlive, fun _ => rfl, ?_⟩
    conv => whnf
    exact ⟨rfl, rfl⟩
end Tree.O15
