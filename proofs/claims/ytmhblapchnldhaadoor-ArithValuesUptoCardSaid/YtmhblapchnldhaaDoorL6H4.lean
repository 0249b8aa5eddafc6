/- Layer 6: the document's heap, what is put into it. -/
import Derived.Test.YtmhblapchnldhaaDoorL6H3
set_option autoImplicit false
set_option linter.unusedVariables false
set_option linter.unusedSimpArgs false
namespace Tree.H6
open Go
set_option maxHeartbeats 8000000
set_option maxRecDepth 100000
def ins : List Bd → Bd → List Bd
  | [], b => [b]
  | e :: r, b => if lessN b.1 e.1 then b :: e :: r else e :: ins r b
theorem ins_len (b : Bd) : ∀ L : List Bd, (ins L b).length = L.length + 1
  | [] => rfl
  | e :: r => by simp only [ins]; split <;> simp [ins_len b r]
theorem lk_ins (b : Bd) (x : NV) : ∀ L : List Bd, lkB L b.1 = none → lkB (ins L b) x = if x = b.1 then some b.2 else lkB L x
  | [], _ => by
    simp only [ins, lkB]
    by_cases h : x = b.1
    · rw [if_pos h.symm, if_pos h]
    · rw [if_neg fun e => h e.symm, if_neg h]
  | e :: r, h => by
    have he : e.1 ≠ b.1 := by
      intro e1; simp only [lkB, if_pos e1] at h; cases h
    have hr : lkB r b.1 = none := by simpa only [lkB, if_neg he] using h
    simp only [ins]
    split
    · simp only [lkB]
      by_cases hx : x = b.1
      · rw [if_pos hx.symm, if_pos hx]
      · rw [if_neg fun e => hx e.symm, if_neg hx]
    · simp only [lkB]
      rw [lk_ins b x r hr]
      by_cases hx : x = b.1
      · rw [if_pos hx, if_pos hx, if_neg (by rw [hx]; exact he)]
      · rw [if_neg hx, if_neg hx]
theorem bindR_no {ob : Obs} {M : Mp} {id : Nat} {L : List Bd} (h : HpR ob id L M) (hL : L.length ≤ 4294967296) (k : NV) (lab : Nat) (cs : List C) (sp : List (List LV)) (hl : cs.length ≤ 1048576) (hf : ∀ c ∈ cs, c.fine) (hA : ¬ Acc M k cs) (pb : Nat) : ∃ e : Int, Gives env6 237 [.optr id 0, nm k.1 k.2, sl5 false lab cs sp] ob pb (.int .i64 e, ob) := by
  obtain ⟨r, hr⟩ := boolOf (okC (cVar k.1 k.2))
  obtain ⟨q, hq⟩ := boolOf (GlobalP cs)
  have gO := fun ob pb => (refOfVar_ok k.1 k.2 ob pb r hr).le le16
  have gG := fun ob pb => (refGlobal_ok lab cs sp (by omega) hf ob pb q hq).le le16
  have gP := place_some h.hid hL k
  cases r with
  | false =>
    refine ⟨6, gives_code (f := tf237) rfl ?_⟩
    conv => whnf
    refine ⟨_, _, gO _ _, fun _ => rfl, ?_⟩
    conv => whnf
    exact ⟨rfl, rfl, rfl⟩
  | true =>
  by_cases h1 : k.1 < 0
  · refine ⟨6, gives_code (f := tf237) rfl ?_⟩
    conv => whnf
    refine ⟨_, _, gO _ _, fun _ => rfl, ?_⟩
    conv => whnf
    refine sel_t (decide_eq_true h1) ?_
    conv => whnf
    exact ⟨rfl, rfl, rfl⟩
  cases q with
  | false =>
    refine ⟨6, gives_code (f := tf237) rfl ?_⟩
    conv => whnf
    refine ⟨_, _, gO _ _, fun _ => rfl, ?_⟩
    conv => whnf
    refine sel_f (decide_eq_false h1) ?_
    conv => whnf
    refine ⟨_, _, gG _ _, fun _ => rfl, ?_⟩
    conv => whnf
    exact ⟨rfl, rfl, rfl⟩
  | true =>
  have hG := hq.1 rfl
  obtain ⟨c0, t0, rfl⟩ := right_cons hG.1
  rcases pix_lk k L with ⟨p1, p2⟩ | ⟨i, u, p1, p2, p3⟩
  · rw [p1] at gP
    rw [h.hl] at p2
    have hbad : c0.k = 4 ∧ ¬ lessN (c0.node, c0.num) k := by
      by_cases hk : c0.k = 4
      · refine ⟨hk, fun hn => hA ⟨by omega, hr.1 rfl, hG, p2, fun c r e hk => ?_⟩⟩
        injection e with e1 e2; subst e1; exact hn
      · exact absurd ⟨by omega, hr.1 rfl, hG, p2, fun c r e hk' => by injection e with e1 e2; subst e1; exact absurd hk' hk⟩ hA
    refine ⟨71, gives_code (f := tf237) rfl ?_⟩
    conv => whnf
    refine ⟨_, _, gO _ _, fun _ => rfl, ?_⟩
    conv => whnf
    refine sel_f (decide_eq_false h1) ?_
    conv => whnf
    refine ⟨_, _, gG _ _, fun _ => rfl, ?_⟩
    conv => whnf
    refine ⟨_, _, gP _, fun _ => rfl, ?_⟩
    conv => whnf
    refine ⟨_, ⟨by omega, idx_row (cs := c0 :: t0) (i := 0) rfl⟩, ?_⟩
    conv => whnf
    refine sel_t (by simpa using hbad.1) ?_
    conv => whnf
    refine ⟨_, ⟨by omega, idx_row (cs := c0 :: t0) (i := 0) rfl⟩, ?_⟩
    conv => whnf
    refine ⟨_, _, (refLess_ok c0.node c0.num k.1 k.2 ob _).le le16, fun _ => rfl, ?_⟩
    have e : (decide (c0.node < k.1) || decide (c0.node = k.1) && decide (c0.num < k.2)) = false := by
      rw [← Bool.not_eq_true, less_iff]; exact hbad.2
    rw [e]
    conv => whnf
    exact ⟨rfl, rfl, rfl⟩
  · rw [p1] at gP
    refine ⟨70, gives_code (f := tf237) rfl ?_⟩
    conv => whnf
    refine ⟨_, _, gO _ _, fun _ => rfl, ?_⟩
    conv => whnf
    refine sel_f (decide_eq_false h1) ?_
    conv => whnf
    refine ⟨_, _, gG _ _, fun _ => rfl, ?_⟩
    conv => whnf
    refine ⟨_, _, gP _, fun _ => rfl, ?_⟩
    conv => whnf
    exact ⟨rfl, rfl, rfl⟩
theorem bindR_yes {ob : Obs} {M : Mp} {id : Nat} {L : List Bd} (h : HpR ob id L M) (hL : L.length ≤ 4294967295) (k : NV) (lab : Nat) (cs : List C) (sp : List (List LV)) (hl : cs.length ≤ 1048576) (hf : ∀ c ∈ cs, c.fine) (hA : Acc M k cs) (pb : Nat) (hpb : pb ≤ id) : Gives env6 237 [.optr id 0, nm k.1 k.2, sl5 false lab cs sp] ob pb (.int .i64 0, ob.set id [.sl true 0 3 ((ins L (k, cs)).map brow) []]) := by
  obtain ⟨h1, h2, h3, hm, h5⟩ := hA
  have gO := fun ob pb => (refOfVar_ok k.1 k.2 ob pb true (by simp [h2])).le le16
  have gG := fun ob pb => (refGlobal_ok lab cs sp (by omega) hf ob pb true (by simp [h3])).le le16
  have gP := place_some h.hid (by omega) k
  have hlen : (L.map brow).length = L.length := by simp
  have hp : pix L k = none := by
    rcases pix_lk k L with ⟨p1, _⟩ | ⟨i, u, p1, p2, p3⟩
    · exact p1
    · rw [h.hl, hm] at p3; cases p3
  rw [hp] at gP
  obtain ⟨c0, t0, rfl⟩ := right_cons h3.1
  have hid := h.hid
  -- what stands behind the tests
  refine gives_code (f := tf237) rfl ?_
  conv => whnf
  refine ⟨_, _, gO _ _, fun _ => rfl, ?_⟩
  conv => whnf
  refine sel_f (decide_eq_false (by omega)) ?_
  conv => whnf
  refine ⟨_, _, gG _ _, fun _ => rfl, ?_⟩
  conv => whnf
  refine ⟨_, _, gP _, fun _ => rfl, ?_⟩
  conv => whnf
  refine ⟨_, ⟨by omega, idx_row (cs := c0 :: t0) (i := 0) rfl⟩, ?_⟩
  conv => whnf
  refine sel_split (fun hk => ?_) (fun hk => ?_)
  · conv => whnf
    have hk : c0.k = 4 := by simpa using hk
    refine ⟨_, ⟨by omega, idx_row (cs := c0 :: t0) (i := 0) rfl⟩, ?_⟩
    conv => whnf
    refine ⟨_, _, (refLess_ok c0.node c0.num k.1 k.2 ob _).le le16, fun _ => rfl, ?_⟩
    have e : (decide (c0.node < k.1) || decide (c0.node = k.1) && decide (c0.num < k.2)) = true := by
      rw [less_iff]; exact h5 _ _ rfl hk
    rw [e]
    conv => whnf
    refine ⟨(c0 :: t0).map C.row, ⟨.inl rfl, ?_, rfl⟩, ?_⟩
    · show (0 + ((c0 :: t0).map C.row).length) * 48 ≤ _
      rw [List.length_map]; omega
    conv => whnf
    refine loop_v (V := fun i : Nat × Bool × List Bd => [(7, .sl true 0 3 (i.2.2.map brow) []), (9, .bool i.2.1), (10, .int .i64 i.1)]) (O := fun _ => ob) (m := fun i => L.length - i.1) (P := fun i => i.1 ≤ L.length ∧ i.2.2.length ≤ L.length + 1 ∧ (if i.2.1 then i.2.2 ++ L.drop i.1 else i.2.2 ++ ins (L.drop i.1) (k, c0 :: t0)) = ins L (k, c0 :: t0)) ?_ (0, false, []) ⟨Nat.zero_le _, Nat.zero_le _, rfl⟩ rfl
    rintro R ⟨i, inn, next⟩ ⟨hi, hn, hq⟩ hN hE hR
    dsimp only at hi hn hq
    have eN : IntKind.i64.wrap ((i : Int) + 1) = ((i + 1 : Nat) : Int) := by rw [wrap64] <;> omega
    have hlen2 : (L.map brow).length = L.length := by simp
    have happ : ∀ (nx : List Bd) (b : Bd), (nx ++ [b]).map brow = (nx.map brow) ++ [brow b] := fun nx b => by rw [List.map_append]; rfl
    conv => whnf
    refine ⟨_, _, ⟨hid, rfl, rfl⟩, ?_⟩
    conv => whnf
    refine sel_split (fun h => ?_) (fun h => ?_)
    · have h := of_decide_eq_true h
      rw [hlen2] at h
      obtain ⟨b, hb⟩ : ∃ b, L[i]? = some b := ⟨_, List.getElem?_eq_getElem (show i < L.length by omega)⟩
      have hd : L.drop i = b :: L.drop (i + 1) := by
        obtain ⟨h1, h2⟩ := List.getElem?_eq_some_iff.1 hb
        rw [List.drop_eq_getElem_cons h1, h2]
      have hIns : ins (b :: L.drop (i + 1)) (k, c0 :: t0) = if lessN k b.1 then (k, c0 :: t0) :: b :: L.drop (i + 1) else b :: ins (L.drop (i + 1)) (k, c0 :: t0) := rfl
      have hlq := congrArg List.length hq
      rw [hd] at hq hlq
      cases inn with
      | true =>
        have hq : next ++ b :: L.drop (i + 1) = ins L (k, c0 :: t0) := hq
        have hnl : next.length ≤ L.length := by
          have := congrArg List.length hq
          rw [ins_len, List.length_append] at this
          simp only [List.length_cons] at this; omega
        conv => whnf
        refine ⟨_, _, ⟨hid, rfl, rfl⟩, ?_⟩
        conv => whnf
        refine ⟨_, ⟨by omega, idx_b hb⟩, ?_⟩
        conv => whnf
        refine ⟨(next ++ [b]).map brow, ⟨.inl rfl, ?_, happ next b⟩, ?_⟩
        · show ((next.map brow).length + 1) * 40 ≤ _
          rw [List.length_map]; omega
        conv => whnf
        refine hN (i + 1, true, next ++ [b]) _ ⟨by dsimp only; omega, by simp; omega, ?_⟩ (by dsimp only; omega) ?_
        · show next ++ [b] ++ L.drop (i + 1) = _
          rw [List.append_assoc]; exact hq
        · show _ = _
          rw [← eN]; rfl
      | false =>
        have hq : next ++ ins (b :: L.drop (i + 1)) (k, c0 :: t0) = ins L (k, c0 :: t0) := hq
        rw [hIns] at hq
        conv => whnf
        refine ⟨_, _, ⟨hid, rfl, rfl⟩, ?_⟩
        conv => whnf
        refine ⟨_, ⟨by omega, idx_b hb⟩, ?_⟩
        conv => whnf
        refine ⟨_, _, (refLess_ok k.1 k.2 b.1.1 b.1.2 ob _).le le16, fun _ => rfl, ?_⟩
        conv => whnf
        have hss : ∀ q : Bool, (decide (k.1 < b.1.1) || decide (k.1 = b.1.1) && decide (k.2 < b.1.2)) = q → (q = true ↔ lessN k b.1) := fun q e => by rw [← e]; exact less_iff _ _ _ _
        generalize (decide (k.1 < b.1.1) || decide (k.1 = b.1.1) && decide (k.2 < b.1.2)) = q at hss ⊢
        have hs := hss q rfl
        cases q with
        | true =>
          rw [if_pos (hs.1 rfl)] at hq
          have hnl : next.length + 1 ≤ L.length := by
            have := congrArg List.length hq
            rw [ins_len, List.length_append] at this
            simp only [List.length_cons] at this; omega
          conv => whnf
          refine ⟨(next ++ [(k, c0 :: t0)]).map brow, ⟨.inl rfl, ?_, happ next (k, c0 :: t0)⟩, ?_⟩
          · show ((next.map brow).length + 1) * 40 ≤ _
            rw [List.length_map]; omega
          conv => whnf
          refine ⟨_, _, ⟨hid, rfl, rfl⟩, ?_⟩
          conv => whnf
          refine ⟨_, ⟨by omega, idx_b hb⟩, ?_⟩
          conv => whnf
          refine ⟨((next ++ [(k, c0 :: t0)]) ++ [b]).map brow, ⟨.inl rfl, ?_, happ _ b⟩, ?_⟩
          · show (((next ++ [(k, c0 :: t0)]).map brow).length + 1) * 40 ≤ _
            rw [List.length_map, List.length_append, List.length_singleton]; omega
          conv => whnf
          refine hN (i + 1, true, next ++ [(k, c0 :: t0)] ++ [b]) _ ⟨by dsimp only; omega, by simp; omega, ?_⟩ (by dsimp only; omega) ?_
          · show next ++ [(k, c0 :: t0)] ++ [b] ++ L.drop (i + 1) = _
            rw [← hq]; simp
          · show _ = _
            rw [← eN]; rfl
        | false =>
          have hno : ¬ lessN k b.1 := fun e => by have := hs.2 e; cases this
          rw [if_neg hno] at hq
          have hnl : next.length ≤ L.length := by
            have := congrArg List.length hq
            rw [ins_len, List.length_append] at this
            simp only [List.length_cons] at this; omega
          conv => whnf
          refine ⟨_, _, ⟨hid, rfl, rfl⟩, ?_⟩
          conv => whnf
          refine ⟨_, ⟨by omega, idx_b hb⟩, ?_⟩
          conv => whnf
          refine ⟨(next ++ [b]).map brow, ⟨.inl rfl, ?_, happ next b⟩, ?_⟩
          · show ((next.map brow).length + 1) * 40 ≤ _
            rw [List.length_map]; omega
          conv => whnf
          refine hN (i + 1, false, next ++ [b]) _ ⟨by dsimp only; omega, by simp; omega, ?_⟩ (by dsimp only; omega) ?_
          · show next ++ [b] ++ ins (L.drop (i + 1)) (k, c0 :: t0) = _
            rw [← hq]; simp
          · show _ = _
            rw [← eN]; rfl
    · conv => whnf
      have h := of_decide_eq_false h
      rw [hlen2] at h
      have : i = L.length := by omega
      subst this
      refine hE _ _ ?_
      rw [List.drop_length] at hq
      cases inn with
      | true =>
        have hq : next ++ [] = ins L (k, c0 :: t0) := hq
        rw [List.append_nil] at hq
        conv => whnf
        refine ⟨_, _, ⟨hpb, hid, rfl, rfl⟩, ?_⟩
        rw [hq]
        conv => whnf
        exact ⟨rfl, rfl, rfl⟩
      | false =>
        have hq : next ++ [(k, c0 :: t0)] = ins L (k, c0 :: t0) := hq
        have hnl : next.length ≤ L.length := by
          have := congrArg List.length hq
          rw [ins_len, List.length_append] at this
          simp only [List.length_singleton] at this; omega
        conv => whnf
        refine ⟨(next ++ [(k, c0 :: t0)]).map brow, ⟨.inl rfl, ?_, happ next (k, c0 :: t0)⟩, ?_⟩
        · show ((next.map brow).length + 1) * 40 ≤ _
          rw [List.length_map]; omega
        conv => whnf
        refine ⟨_, _, ⟨hpb, hid, rfl, rfl⟩, ?_⟩
        rw [hq]
        conv => whnf
        exact ⟨rfl, rfl, rfl⟩
  · conv => whnf
    refine ⟨(c0 :: t0).map C.row, ⟨.inl rfl, ?_, rfl⟩, ?_⟩
    · show (0 + ((c0 :: t0).map C.row).length) * 48 ≤ _
      rw [List.length_map]; omega
    conv => whnf
    refine loop_v (V := fun i : Nat × Bool × List Bd => [(7, .sl true 0 3 (i.2.2.map brow) []), (9, .bool i.2.1), (10, .int .i64 i.1)]) (O := fun _ => ob) (m := fun i => L.length - i.1) (P := fun i => i.1 ≤ L.length ∧ i.2.2.length ≤ L.length + 1 ∧ (if i.2.1 then i.2.2 ++ L.drop i.1 else i.2.2 ++ ins (L.drop i.1) (k, c0 :: t0)) = ins L (k, c0 :: t0)) ?_ (0, false, []) ⟨Nat.zero_le _, Nat.zero_le _, rfl⟩ rfl
    rintro R ⟨i, inn, next⟩ ⟨hi, hn, hq⟩ hN hE hR
    dsimp only at hi hn hq
    have eN : IntKind.i64.wrap ((i : Int) + 1) = ((i + 1 : Nat) : Int) := by rw [wrap64] <;> omega
    have hlen2 : (L.map brow).length = L.length := by simp
    have happ : ∀ (nx : List Bd) (b : Bd), (nx ++ [b]).map brow = (nx.map brow) ++ [brow b] := fun nx b => by rw [List.map_append]; rfl
    conv => whnf
    refine ⟨_, _, ⟨hid, rfl, rfl⟩, ?_⟩
    conv => whnf
    refine sel_split (fun h => ?_) (fun h => ?_)
    · have h := of_decide_eq_true h
      rw [hlen2] at h
      obtain ⟨b, hb⟩ : ∃ b, L[i]? = some b := ⟨_, List.getElem?_eq_getElem (show i < L.length by omega)⟩
      have hd : L.drop i = b :: L.drop (i + 1) := by
        obtain ⟨h1, h2⟩ := List.getElem?_eq_some_iff.1 hb
        rw [List.drop_eq_getElem_cons h1, h2]
      have hIns : ins (b :: L.drop (i + 1)) (k, c0 :: t0) = if lessN k b.1 then (k, c0 :: t0) :: b :: L.drop (i + 1) else b :: ins (L.drop (i + 1)) (k, c0 :: t0) := rfl
      have hlq := congrArg List.length hq
      rw [hd] at hq hlq
      cases inn with
      | true =>
        have hq : next ++ b :: L.drop (i + 1) = ins L (k, c0 :: t0) := hq
        have hnl : next.length ≤ L.length := by
          have := congrArg List.length hq
          rw [ins_len, List.length_append] at this
          simp only [List.length_cons] at this; omega
        conv => whnf
        refine ⟨_, _, ⟨hid, rfl, rfl⟩, ?_⟩
        conv => whnf
        refine ⟨_, ⟨by omega, idx_b hb⟩, ?_⟩
        conv => whnf
        refine ⟨(next ++ [b]).map brow, ⟨.inl rfl, ?_, happ next b⟩, ?_⟩
        · show ((next.map brow).length + 1) * 40 ≤ _
          rw [List.length_map]; omega
        conv => whnf
        refine hN (i + 1, true, next ++ [b]) _ ⟨by dsimp only; omega, by simp; omega, ?_⟩ (by dsimp only; omega) ?_
        · show next ++ [b] ++ L.drop (i + 1) = _
          rw [List.append_assoc]; exact hq
        · show _ = _
          rw [← eN]; rfl
      | false =>
        have hq : next ++ ins (b :: L.drop (i + 1)) (k, c0 :: t0) = ins L (k, c0 :: t0) := hq
        rw [hIns] at hq
        conv => whnf
        refine ⟨_, _, ⟨hid, rfl, rfl⟩, ?_⟩
        conv => whnf
        refine ⟨_, ⟨by omega, idx_b hb⟩, ?_⟩
        conv => whnf
        refine ⟨_, _, (refLess_ok k.1 k.2 b.1.1 b.1.2 ob _).le le16, fun _ => rfl, ?_⟩
        conv => whnf
        have hss : ∀ q : Bool, (decide (k.1 < b.1.1) || decide (k.1 = b.1.1) && decide (k.2 < b.1.2)) = q → (q = true ↔ lessN k b.1) := fun q e => by rw [← e]; exact less_iff _ _ _ _
        generalize (decide (k.1 < b.1.1) || decide (k.1 = b.1.1) && decide (k.2 < b.1.2)) = q at hss ⊢
        have hs := hss q rfl
        cases q with
        | true =>
          rw [if_pos (hs.1 rfl)] at hq
          have hnl : next.length + 1 ≤ L.length := by
            have := congrArg List.length hq
            rw [ins_len, List.length_append] at this
            simp only [List.length_cons] at this; omega
          conv => whnf
          refine ⟨(next ++ [(k, c0 :: t0)]).map brow, ⟨.inl rfl, ?_, happ next (k, c0 :: t0)⟩, ?_⟩
          · show ((next.map brow).length + 1) * 40 ≤ _
            rw [List.length_map]; omega
          conv => whnf
          refine ⟨_, _, ⟨hid, rfl, rfl⟩, ?_⟩
          conv => whnf
          refine ⟨_, ⟨by omega, idx_b hb⟩, ?_⟩
          conv => whnf
          refine ⟨((next ++ [(k, c0 :: t0)]) ++ [b]).map brow, ⟨.inl rfl, ?_, happ _ b⟩, ?_⟩
          · show (((next ++ [(k, c0 :: t0)]).map brow).length + 1) * 40 ≤ _
            rw [List.length_map, List.length_append, List.length_singleton]; omega
          conv => whnf
          refine hN (i + 1, true, next ++ [(k, c0 :: t0)] ++ [b]) _ ⟨by dsimp only; omega, by simp; omega, ?_⟩ (by dsimp only; omega) ?_
          · show next ++ [(k, c0 :: t0)] ++ [b] ++ L.drop (i + 1) = _
            rw [← hq]; simp
          · show _ = _
            rw [← eN]; rfl
        | false =>
          have hno : ¬ lessN k b.1 := fun e => by have := hs.2 e; cases this
          rw [if_neg hno] at hq
          have hnl : next.length ≤ L.length := by
            have := congrArg List.length hq
            rw [ins_len, List.length_append] at this
            simp only [List.length_cons] at this; omega
          conv => whnf
          refine ⟨_, _, ⟨hid, rfl, rfl⟩, ?_⟩
          conv => whnf
          refine ⟨_, ⟨by omega, idx_b hb⟩, ?_⟩
          conv => whnf
          refine ⟨(next ++ [b]).map brow, ⟨.inl rfl, ?_, happ next b⟩, ?_⟩
          · show ((next.map brow).length + 1) * 40 ≤ _
            rw [List.length_map]; omega
          conv => whnf
          refine hN (i + 1, false, next ++ [b]) _ ⟨by dsimp only; omega, by simp; omega, ?_⟩ (by dsimp only; omega) ?_
          · show next ++ [b] ++ ins (L.drop (i + 1)) (k, c0 :: t0) = _
            rw [← hq]; simp
          · show _ = _
            rw [← eN]; rfl
    · conv => whnf
      have h := of_decide_eq_false h
      rw [hlen2] at h
      have : i = L.length := by omega
      subst this
      refine hE _ _ ?_
      rw [List.drop_length] at hq
      cases inn with
      | true =>
        have hq : next ++ [] = ins L (k, c0 :: t0) := hq
        rw [List.append_nil] at hq
        conv => whnf
        refine ⟨_, _, ⟨hpb, hid, rfl, rfl⟩, ?_⟩
        rw [hq]
        conv => whnf
        exact ⟨rfl, rfl, rfl⟩
      | false =>
        have hq : next ++ [(k, c0 :: t0)] = ins L (k, c0 :: t0) := hq
        have hnl : next.length ≤ L.length := by
          have := congrArg List.length hq
          rw [ins_len, List.length_append] at this
          simp only [List.length_singleton] at this; omega
        conv => whnf
        refine ⟨(next ++ [(k, c0 :: t0)]).map brow, ⟨.inl rfl, ?_, happ next (k, c0 :: t0)⟩, ?_⟩
        · show ((next.map brow).length + 1) * 40 ≤ _
          rw [List.length_map]; omega
        conv => whnf
        refine ⟨_, _, ⟨hpb, hid, rfl, rfl⟩, ?_⟩
        rw [hq]
        conv => whnf
        exact ⟨rfl, rfl, rfl⟩
end Tree.H6
