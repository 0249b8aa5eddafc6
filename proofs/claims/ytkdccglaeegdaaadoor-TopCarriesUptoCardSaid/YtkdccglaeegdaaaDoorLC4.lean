/- TopCarries: Decode beside other objects; messages as the law finds them. -/
import Derived.Test.YtkdccglaeegdaaaDoorLC3
import Derived.Test.YtkdccglaeegdaaaDoorTLy
import Derived.Test.YtkdccglaeegdaaaDoorL11E
set_option autoImplicit false
set_option linter.unusedVariables false
set_option linter.unusedSimpArgs false
namespace Tree.C12
open Go Tree Tree.W11
set_option maxHeartbeats 8000000
set_option maxRecDepth 100000
theorem S_app (ob : Obs) (b : List Int) (a : Nat) (bad : Bool) (f : Int) : S (ob ++ [[]]) ob.length b a bad f = ob ++ [rdO b a bad f] := by
  show (ob ++ [[]]).set ob.length _ = _
  rw [List.set_append_right _ _ (Nat.le_refl _), Nat.sub_self]; rfl
/-- What was encoded is decoded. -/
theorem decode_at (m : M) (hm : RightM m) (hl : (msgB m).length ≤ 65536) (ob : Obs) (pb : Nat) (hpb : pb ≤ ob.length) : ∃ ob', Gives env11 486 [.sl false 0 1 ((msgB m).map brw) []] ob pb (.tup [M.lv m 0 [] 0 [], .int .i64 0, .int .i64 0], ob') := by
  have hb := msgB_rng hm
  have hbl : ((msgB m).map brw).length = (msgB m).length := by simp
  have hid : ob.length < (ob ++ [([] : List LV)]).length := by simp
  obtain ⟨m2, a', bad', f', g1, h1, h2⟩ := messageT (b := msgB m) (a := 0) (id := ob.length) (f := 0) (ob := ob ++ [[]]) (pb := pb) hid hpb hb (by omega) (by omega)
  obtain ⟨e, w, ob', g2, h3, h4⟩ := ended_ok (b := msgB m) (a := a') (id := ob.length) (f := f') (ob := ob ++ [[]]) (pb := pb) hid hpb (by omega) bad' (fun h => (h1 h).2.1)
  have hw : MsgW (msgB m) 0 m (msgB m).length := ⟨hm, Nat.le_refl _, by simp⟩
  have hb' : bad' = false := by
    cases bad' with
    | false => rfl
    | true => exact absurd hw (h2 rfl m _)
  have hW := h1 hb'
  have hinj := msgB_inj hW.1 hm (hW.2.2.trans hw.2.2.symm)
  have h5 := congrArg List.length hinj.2
  rw [List.length_drop, List.length_drop] at h5
  have h6 := hW.2.1
  obtain ⟨he, hz⟩ := h3 ⟨hb', by omega⟩
  obtain rfl := he
  obtain rfl := hz
  have hmm : m2 = m := hinj.1
  rw [hmm] at g1
  rw [S_app] at g1 g2
  rw [S_app] at g1
  have gc := fun ob pb => clip_ok (msgB m) (by omega) false [] ob pb
  refine ⟨ob', ?_⟩
  refine gives_code (f := tf486) rfl ?_
  conv => whnf
  refine sel_f (by rw [hbl]; simp; omega) ?_
  conv => whnf
  refine ⟨_, _, gc _ _, fun _ => noRefB _ _ _, ?_⟩
  conv => whnf
  refine ⟨by decide, ?_⟩
  conv => whnf
  refine ⟨_, _, g1, fun h => (nomatch h), ?_⟩
  conv => whnf
  refine ⟨_, _, g2, fun h => (nomatch h), ?_⟩
  conv => whnf
  exact ⟨rfl, rfl, rfl⟩
/-- A message that the law finds, with what lies behind its rows. -/
abbrev MQ := M × List (List LV) × List (List LV)
def rowM (q : MQ) : List LV := (q.1.lv 0 q.2.1 0 q.2.2).cells
def okQ (q : MQ) : Prop := q.1.cs.length ≤ 1048576 ∧ (∀ c ∈ q.1.cs, c.fine) ∧ q.1.bits.length ≤ 1048576 ∧ (∀ n, LV.noRefss n q.2.1 = true) ∧ ∀ n, LV.noRefss n q.2.2 = true
theorem rowM_get {L : List MQ} {i : Nat} {q : MQ} (h : L[i]? = some q) : (L.map rowM)[((i : Nat) : Int).toNat]? = some (rowM q) := by
  show (L.map rowM)[i]? = _
  rw [List.getElem?_map, h]; rfl
/-- Bytes of a message. -/
def Good (p : List Int) : Prop := ∃ m : M, RightM m ∧ msgB m = p ∧ p.length ≤ 65536
def pay (p : List Int) : List LV := [.sl false 0 1 (p.map brw) []]
theorem pay_get {P : List (List Int)} {i : Nat} {p : List Int} (h : P[i]? = some p) : (P.map pay)[((i : Nat) : Int).toNat]? = some [.sl false 0 1 (p.map brw) []] := by
  show (P.map pay)[i]? = _
  rw [List.getElem?_map, h]; rfl
/-- Datagrams of payloads, numbered. -/
def dgs (P : List (List Int)) : List Dg := P.zipIdx.map fun q => ⟨0, 1, false, (q.2 : Int), q.1⟩
theorem dgs_snoc (P : List (List Int)) (p : List Int) : dgs (P ++ [p]) = dgs P ++ [⟨0, 1, false, (P.length : Int), p⟩] := by
  unfold dgs
  rw [List.zipIdx_append, List.map_append]; simp
theorem dgs_len (P : List (List Int)) : (dgs P).length = P.length := by simp [dgs]
/-- A datagram that was sent. -/
def From (P : List (List Int)) (d : Dg) : Prop := ∃ (k : Nat) (p : List Int), P[k]? = some p ∧ d = ⟨0, 1, false, (k : Int), p⟩
theorem dgs_from {P : List (List Int)} : ∀ d ∈ dgs P, From P d := by
  intro d hd
  unfold dgs at hd
  obtain ⟨⟨p, k⟩, hq, rfl⟩ := List.mem_map.1 hd
  have := List.mem_zipIdx' hq
  exact ⟨k, p, by rw [List.getElem?_eq_getElem this.1, ← this.2], rfl⟩
theorem enc_at (q : MQ) (hq : okQ q) : ∃ (b : List Int) (e : Int), (e = 0 ∨ e = 5 ∨ e = 6) ∧ (e = 0 → Good b) ∧ (e = 6 → ¬ RightM q.1) ∧ (∀ ob pb, pb ≤ ob.length → ∃ ob', Gives envC 483 [.agg (rowM q)] ob pb (.tup [.sl false 0 1 (b.map brw) [], .int .i64 e], ob')) ∧ b.length ≤ 65536 := by
  by_cases hr : RightM q.1
  · have g := fun ob pb hpb => (enc_ok q.1 0 q.2.1 0 q.2.2 hq.1 hq.2.1 hq.2.2.1 ob pb hpb true ⟨fun _ => hr, fun _ => rfl⟩ hq.2.2.2.1 hq.2.2.2.2)
    by_cases hl : (msgB q.1).length > 65536
    · refine ⟨[], 5, .inr (.inl rfl), fun h => by omega, fun h => by omega, fun ob pb hpb => ?_, by simp⟩
      obtain ⟨ob', g⟩ := g ob pb hpb
      rw [encM_long hl] at g
      exact ⟨ob', g.le leC⟩
    · refine ⟨msgB q.1, 0, .inl rfl, fun _ => ⟨q.1, hr, rfl, by omega⟩, fun h => by omega, fun ob pb hpb => ?_, by omega⟩
      obtain ⟨ob', g⟩ := g ob pb hpb
      rw [encM_fine hl] at g
      exact ⟨ob', g.le leC⟩
  · refine ⟨[], 6, .inr (.inr rfl), fun h => by omega, fun _ => hr, fun ob pb hpb => ?_, by simp⟩
    obtain ⟨ob', g⟩ := enc_ok q.1 0 q.2.1 0 q.2.2 hq.1 hq.2.1 hq.2.2.1 ob pb hpb false ⟨fun h => (nomatch h), fun h => absurd h hr⟩ hq.2.2.2.1 hq.2.2.2.2
    exact ⟨ob', g.le leC⟩
end Tree.C12
