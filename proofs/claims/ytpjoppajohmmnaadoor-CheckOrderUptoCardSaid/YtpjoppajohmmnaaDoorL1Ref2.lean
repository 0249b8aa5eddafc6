/- Layer 1: the document's End and Right, what E answers. -/
import Derived.Test.YtpjoppajohmmnaaDoorL1Ref
set_option autoImplicit false
set_option linter.unusedVariables false
set_option linter.unusedSimpArgs false
namespace Tree
open Go
set_option maxHeartbeats 4000000
set_option maxRecDepth 100000
theorem w64_def (x : Int) : w64 x = if x % 18446744073709551616 ≥ 9223372036854775808 then x % 18446744073709551616 - 18446744073709551616 else x % 18446744073709551616 := by
  show IntKind.i64.wrap x = _
  simp only [IntKind.wrap, IntKind.bits, IntKind.signed]
  have e : (2 : Int) ^ 64 = 18446744073709551616 := by decide
  have e2 : (2 : Int) ^ (64 - 1) = 9223372036854775808 := by decide
  simp only [e, e2, Bool.true_and, decide_eq_true_eq]
theorem w64_l (a b : Int) : w64 (w64 a + b) = w64 (a + b) := by
  simp only [w64_def]; split <;> split <;> omega
theorem w64_r (a b : Int) : w64 (a + w64 b) = w64 (a + b) := by
  rw [Int.add_comm, w64_l, Int.add_comm]
def S40 (v : LV) (at_ op : Int) (ob : Obs) : WSt := ⟨.val v :: .val (.int .i64 at_) :: .val .undef :: .val .undef :: .val .undef :: .val (.int .i64 op) :: List.replicate 48 (.val .undef), ob, []⟩
theorem refEnd_ok (lab : Nat) (cs : List C) (sp : List (List LV)) (i : Int) (hl : cs.length ≤ 4611686018427387904) (ob : Obs) (pb : Nat) : Gives env1 40 [.sl false lab 5 (cs.map C.row) sp, .int .i64 i] ob pb (.int .i64 (endE cs i), ob) := by
  refine gives_code (f := tf40) rfl ?_
  conv => whnf
  have hlen : (cs.map C.row).length = cs.length := by simp
  refine sel_split (fun h => ?_) (fun h => ?_)
  · conv => whnf
    have h : i < 0 := by simpa using h
    refine ⟨rfl, ?_, rfl⟩
    simp [endE, h, tupE]
  · conv => whnf
    have h : ¬ i < 0 := by simpa using h
    refine sel_split (fun h2 => ?_) (fun h2 => ?_)
    · conv => whnf
      have h2 := of_decide_eq_true h2
      rw [hlen] at h2
      refine ⟨rfl, ?_, rfl⟩
      simp [endE, h2, tupE]
    · conv => whnf
      have h2 := of_decide_eq_false h2
      rw [hlen] at h2
      have hend : endE cs i = scanE cs.length (cs.drop i.toNat) 1 i.toNat := by
        unfold endE; rw [if_neg (by omega)]
      refine loop_abs (ι := Nat × Int) (S := fun p => S40 (.sl false lab 5 (cs.map C.row) sp) p.1 p.2 ob) (m := fun p => cs.length - p.1) (P := fun p => p.1 ≤ cs.length ∧ endE cs i = scanE cs.length (cs.drop p.1) p.2 p.1) ?_ (i.toNat, 1) ⟨by omega, hend⟩ (by
        show _ = S40 _ ((i.toNat : Nat) : Int) 1 ob
        rw [Int.toNat_of_nonneg (by omega)]; rfl)
      rintro R ⟨a, o⟩ ⟨ha, hP⟩ hN hE hR
      simp only at ha hP
      conv => whnf
      refine sel_split (fun h3 => ?_) (fun h3 => ?_)
      · conv => whnf
        have h3 := of_decide_eq_true h3
        have h3' : ¬ o ≤ 0 := by omega
        refine sel_split (fun h4 => ?_) (fun h4 => ?_)
        · conv => whnf
          have h4 := of_decide_eq_true h4
          rw [hlen] at h4
          have h4 : a = cs.length := by omega
          refine hR _ ?_
          conv => whnf
          refine ⟨rfl, ?_, rfl⟩
          rw [hP]
          subst h4
          simp [scanE, h3', tupE]
        · conv => whnf
          have h4 := of_decide_eq_false h4
          rw [hlen] at h4
          obtain ⟨c, hc⟩ : ∃ c, cs[a]? = some c := ⟨_, List.getElem?_eq_getElem (show a < cs.length by omega)⟩
          rw [drop_at hc] at hP
          have e : w64 ((a : Int) + 1) = ((a + 1 : Nat) : Int) := by
            unfold w64; rw [wrap64] <;> omega
          refine ⟨_, ⟨by omega, idx_row hc⟩, ?_⟩
          conv => whnf
          refine sel_split (fun h5 => ?_) (fun h5 => ?_)
          · conv => whnf
            refine ⟨_, ⟨by omega, idx_row hc⟩, ?_⟩
            conv => whnf
            have h5 : c.k = 3 := by simpa using h5
            refine sel_split (fun h6 => ?_) (fun h6 => ?_)
            · conv => whnf
              have h6 := of_decide_eq_true h6
              have hp : partsC c = c.n := by unfold partsC; rw [if_pos h5, if_neg (by omega)]
              refine ⟨_, ⟨by omega, idx_row hc⟩, ?_⟩
              conv => whnf
              refine sel_split (fun h7 => ?_) (fun h7 => ?_)
              · conv => whnf
                have h7 := of_decide_eq_true h7
                rw [hlen] at h7
                refine hR _ ?_
                conv => whnf
                refine ⟨rfl, ?_, rfl⟩
                rw [hP]
                simp only [scanE, if_neg h3', hp, if_pos h7]; rfl
              · conv => whnf
                have h7 := of_decide_eq_false h7
                rw [hlen] at h7
                refine ⟨_, ⟨by omega, idx_row hc⟩, ?_⟩
                conv => whnf
                refine hN (a + 1, w64 (w64 (o - 1) + c.n)) _ ⟨by show a + 1 ≤ _; omega, ?_⟩ (by show cs.length - (a + 1) < _; omega) ?_
                · simp only [scanE, if_neg h3', hp, if_neg h7] at hP
                  rw [w64_r] at hP
                  show endE cs i = scanE cs.length (cs.drop (a + 1)) (w64 (w64 (o - 1) + c.n)) (a + 1)
                  rw [w64_l, show o - 1 + c.n = o + (c.n - 1) by omega]
                  exact hP
                · show _ = S40 _ ((a + 1 : Nat) : Int) _ ob
                  rw [← e]
                  rfl
            · conv => whnf
              have h6 := of_decide_eq_false h6
              have hp : partsC c = 0 := by unfold partsC; rw [if_pos h5]; split <;> omega
              refine hN (a + 1, w64 (o - 1)) _ ⟨by show a + 1 ≤ _; omega, ?_⟩ (by show cs.length - (a + 1) < _; omega) ?_
              · have hz : ¬ (0 : Int) > cs.length := by omega
                simp only [scanE, if_neg h3', hp, if_neg hz] at hP
                rw [w64_r] at hP
                show endE cs i = scanE cs.length (cs.drop (a + 1)) (w64 (o - 1)) (a + 1)
                rw [show o - 1 = o + (0 - 1) by omega]
                exact hP
              · show _ = S40 _ ((a + 1 : Nat) : Int) _ ob
                rw [← e]
                rfl
          · conv => whnf
            have h5 : c.k ≠ 3 := by simpa using h5
            have hp : partsC c = 0 := by unfold partsC; rw [if_neg h5]
            refine hN (a + 1, w64 (o - 1)) _ ⟨by show a + 1 ≤ _; omega, ?_⟩ (by show cs.length - (a + 1) < _; omega) ?_
            · have hz : ¬ (0 : Int) > cs.length := by omega
              simp only [scanE, if_neg h3', hp, if_neg hz] at hP
              rw [w64_r] at hP
              show endE cs i = scanE cs.length (cs.drop (a + 1)) (w64 (o - 1)) (a + 1)
              rw [show o - 1 = o + (0 - 1) by omega]
              exact hP
            · show _ = S40 _ ((a + 1 : Nat) : Int) _ ob
              rw [← e]
              rfl
      · conv => whnf
        have h3 := of_decide_eq_false h3
        refine hE _ _ ?_
        conv => whnf
        refine ⟨rfl, ?_, rfl⟩
        rw [hP]
        have h3' : o ≤ 0 := by omega
        cases hd : cs.drop a with
        | nil => simp [scanE, h3', tupE]
        | cons c r => simp [scanE, h3', tupE]
def S18 (v : LV) (i : Int) (ob : Obs) : WSt := ⟨.val v :: .val .undef :: .val .undef :: .val (.int .i64 i) :: List.replicate 25 (.val .undef), ob, []⟩
theorem refRight_ok (lab : Nat) (cs : List C) (sp : List (List LV)) (hl : cs.length ≤ 4611686018427387904) (hf : ∀ c ∈ cs, c.fine) (ob : Obs) (pb : Nat) (r : Bool) (hr : r = true ↔ RightP cs) : Gives env1 18 [.sl false lab 5 (cs.map C.row) sp] ob pb (.bool r, ob) := by
  have hlen : (cs.map C.row).length = cs.length := by simp
  have no : ¬ RightP cs → LV.bool false = LV.bool r := fun h => bool_of hr ⟨fun e => (nomatch e), fun e => absurd e h⟩
  refine gives_code (f := tf18) rfl ?_
  conv => whnf
  refine sel_split (fun h1 => ?_) (fun h1 => ?_)
  · conv => whnf
    rw [hlen] at h1
    have h1 := of_decide_eq_true h1
    exact ⟨rfl, no (fun h => h.1 (List.length_eq_zero_iff.1 (by omega))), rfl⟩
  · conv => whnf
    rw [hlen] at h1
    have h1 := of_decide_eq_false h1
    refine sel_split (fun h2 => ?_) (fun h2 => ?_)
    · conv => whnf
      rw [hlen] at h2
      have h2 := of_decide_eq_true h2
      exact ⟨rfl, no (fun h => by have := h.2.1; omega), rfl⟩
    · conv => whnf
      rw [hlen] at h2
      have h2 := of_decide_eq_false h2
      refine loop_abs (S := fun i : Nat => S18 (.sl false lab 5 (cs.map C.row) sp) i ob) (m := fun i => cs.length - i) (P := fun i => i ≤ cs.length ∧ ∀ k d, k < i → cs[k]? = some d → okC d) ?_ 0 ⟨Nat.zero_le _, fun k s h => by omega⟩ rfl
      rintro R i ⟨hi, hP⟩ hN hE hR
      conv => whnf
      refine sel_split (fun h => ?_) (fun h => ?_)
      · conv => whnf
        have h := of_decide_eq_true h
        rw [hlen] at h
        obtain ⟨c, hc⟩ : ∃ c, cs[i]? = some c := ⟨_, List.getElem?_eq_getElem (show i < cs.length by omega)⟩
        refine ⟨_, ⟨by omega, idx_row hc⟩, ?_⟩
        conv => whnf
        obtain ⟨q, hq⟩ := boolOf (okC c)
        refine ⟨_, _, refCell_ok c (hf c (List.mem_of_getElem? hc)).1 ob _ q hq, fun _ => rfl, ?_⟩
        conv => whnf
        refine sel_split (fun h3 => ?_) (fun h3 => ?_)
        · conv => whnf
          refine hR _ ?_
          conv => whnf
          refine ⟨rfl, no (fun h => ?_), rfl⟩
          have := hq.2 (h.2.2.2 c (List.mem_of_getElem? hc))
          rw [this] at h3; cases h3
        · conv => whnf
          have e : IntKind.i64.wrap ((i : Int) + 1) = ((i + 1 : Nat) : Int) := by rw [wrap64] <;> omega
          refine hN (i + 1) _ ⟨by omega, fun k d hk hd => ?_⟩ (by omega) ?_
          · by_cases hki : k = i
            · subst hki; rw [hc] at hd; cases hd
              exact hq.1 (by simpa using h3)
            · exact hP k d (by omega) hd
          · rw [← e]; rfl
      · conv => whnf
        have h := of_decide_eq_false h
        rw [hlen] at h
        refine hE _ _ ?_
        conv => whnf
        refine ⟨_, _, refEnd_ok lab cs sp 0 hl ob _, fun _ => rfl, ?_⟩
        conv => whnf
        refine ⟨rfl, bool_of hr ?_, rfl⟩
        rw [hlen, beq_iff_eq]
        have hall : ∀ c ∈ cs, okC c := fun c hc => by
          obtain ⟨k, hk, e⟩ := List.getElem_of_mem hc
          exact hP k c (by omega) (by rw [List.getElem?_eq_getElem hk, e])
        exact ⟨fun he => ⟨fun e => by subst e; simp at h1, by omega, he, hall⟩, fun h => h.2.2.1⟩
end Tree
