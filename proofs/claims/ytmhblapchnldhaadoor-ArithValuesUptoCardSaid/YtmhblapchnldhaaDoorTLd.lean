/- Layer 4: the law CheckOrder, what E answers. -/
import Derived.Test.YtmhblapchnldhaaDoorTLc
set_option autoImplicit false
set_option linter.unusedVariables false
set_option linter.unusedSimpArgs false
namespace Tree
open Go
set_option maxHeartbeats 4000000
set_option maxRecDepth 100000
end Tree

set_option autoImplicit false
set_option linter.unusedVariables false
set_option linter.unusedSimpArgs false
namespace Tree
open Go
set_option maxHeartbeats 4000000
set_option maxRecDepth 100000
theorem okC_kinds {c : C} (h : okC c) : (c.k = 1 ∨ c.k = 2 ∨ c.k = 3 ∨ c.k = 4) ∧ (c.k = 2 → NameP c.text.data.toList) ∧ (c.k = 3 → 1 ≤ c.n) := by
  unfold okC at h
  rcases h with h | h | h | h
  · exact ⟨.inl h.1, fun e => by omega, fun e => by omega⟩
  · exact ⟨.inr (.inl h.1), fun _ => h.2.1, fun e => by omega⟩
  · exact ⟨.inr (.inr (.inl h.1)), fun e => by omega, fun _ => by rcases h.2.2 with g | g <;> omega⟩
  · exact ⟨.inr (.inr (.inr h.1)), fun e => by omega, fun e => by omega⟩
theorem right_kinds {c : C} {r : List C} (h : RightP (c :: r)) : (c.k = 1 ∨ c.k = 2 ∨ c.k = 3 ∨ c.k = 4) ∧ (c.k = 2 → NameP c.text.data.toList) ∧ (c.k = 3 → 1 ≤ c.n) :=
  okC_kinds (((right_walk _).1 h).2.2.2 c (List.mem_cons_self ..))
theorem refArgs_ok (lab : Nat) (cs : List C) (sp : List (List LV)) (hl : cs.length ≤ 4611686018427387904) (hf : ∀ c ∈ cs, c.fine) (ob : Obs) (pb : Nat) : Gives env1 29 [sl5 false lab cs sp] ob pb (sl1 true 0 ((argsR cs).map T1.mk0) [], ob) := by
  have hlen : (cs.map C.row).length = cs.length := by simp
  obtain ⟨q, hq⟩ := boolOf (RightP cs)
  have no : ¬ StructP cs → argsR cs = [] := fun h => by unfold argsR; rw [if_neg h]
  refine gives_code (f := tf29) rfl ?_
  conv => whnf
  refine ⟨_, _, refRight_ok lab cs sp hl hf ob _ q hq, fun _ => rfl, ?_⟩
  conv => whnf
  refine sel_split (fun h1 => ?_) (fun h1 => ?_)
  · conv => whnf
    have h1 : q = false := by simpa using h1
    refine ⟨rfl, ?_, rfl⟩
    rw [no (fun h => by have := hq.2 h.1; rw [h1] at this; cases this)]; rfl
  · conv => whnf
    have h1 : q = true := by simpa using h1
    have hR := hq.1 h1
    obtain ⟨c, r, rfl⟩ : ∃ c r, cs = c :: r := by
      cases cs with
      | nil => exact absurd rfl hR.1
      | cons c r => exact ⟨c, r, rfl⟩
    refine ⟨_, ⟨by omega, idx_row (cs := c :: r) (i := 0) rfl⟩, ?_⟩
    conv => whnf
    refine sel_split (fun h2 => ?_) (fun h2 => ?_)
    · conv => whnf
      have h2 : c.k ≠ 3 := by simpa using h2
      refine ⟨rfl, ?_, rfl⟩
      rw [no (fun h => by
        obtain ⟨_, c', r', e, hk⟩ := h
        injection e with e1 e2
        subst e1; exact h2 hk)]; rfl
    · conv => whnf
      have hk : c.k = 3 := by simpa using h2
      obtain ⟨f1, f2, f3, f4⟩ := args_facts hR hk
      obtain ⟨g1, g2, g3, g4⟩ := struct_facts hR hk
      obtain ⟨_, q2, _, q4⟩ := (right_walk _).1 hR
      refine loop_abs (ι := Nat × Nat × List (List C)) (S := fun p => S17 (sl5 false lab (c :: r) sp) (sl1 true 0 (p.2.2.map T1.mk0) []) p.1 ob) (m := fun p => (c :: r).length - p.1)
        (P := fun p => 1 ≤ p.1 ∧ p.1 ≤ (c :: r).length ∧ walk ((c :: r).drop p.1) p.2.1 = some [] ∧ p.2.2 ++ splitW p.2.1 ((c :: r).drop p.1) = argsR (c :: r)) ?_ (1, ar c, []) ⟨Nat.le_refl _, by simp, by simpa using g1, by simpa using f1.symm⟩ rfl
      rintro R ⟨a, m, done⟩ ⟨h3, h4, h5, h6⟩ hN hE hRt
      simp only at h3 h4 h5 h6
      conv => whnf
      refine sel_split (fun h => ?_) (fun h => ?_)
      · conv => whnf
        have h := of_decide_eq_true h
        rw [hlen] at h
        have halt : a < (c :: r).length := by omega
        obtain ⟨m', rfl⟩ : ∃ m', m = m' + 1 := by
          cases m with
          | zero =>
            rw [walk_zero] at h5
            have := congrArg (Option.map List.length) h5
            simp only [Option.map_some, Option.some.injEq, List.length_drop, List.length_nil] at this
            omega
          | succ m => exact ⟨m, rfl⟩
        rw [Nat.add_comm, walk_add] at h5
        obtain ⟨rest, w1, w2⟩ := Option.bind_eq_some_iff.1 h5
        obtain ⟨d1, d2, d3⟩ := drop_split w1 h4
        have hend : endE (c :: r) (a : Int) = ((a + (((c :: r).drop a).length - rest.length) : Nat) : Int) := by
          unfold endE
          rw [if_neg (by omega)]
          have : ((a : Int)).toNat = a := by omega
          rw [this]
          have := scan_walk (c :: r).length ((c :: r).drop a) 1 a (fun d hd => q4 d (List.mem_of_mem_drop hd)) (by simp only [List.length_drop]; omega) (by simp only [List.length_drop]; omega)
          rw [w1] at this
          exact this
        obtain ⟨b, hb⟩ : ∃ b, b = a + (((c :: r).drop a).length - rest.length) := ⟨_, rfl⟩
        rw [← hb] at hend d1 d2 d3
        have hsp : splitW (m' + 1) ((c :: r).drop a) = ((c :: r).drop a).take (b - a) :: splitW m' ((c :: r).drop b) := by
          simp only [splitW, w1]
          rw [← d1]
          congr 2; omega
        refine ⟨_, _, refEnd_ok lab (c :: r) sp a (by omega) ob _, fun _ => rfl, ?_⟩
        conv => whnf
        refine ⟨(((c :: r).drop a).take (b - a)).map C.row, ((c :: r).drop b).map C.row ++ sp, ⟨⟨by omega, ?_, ?_⟩, ?_, ?_⟩, ?_⟩
        · show (a : Int) ≤ endE (c :: r) a
          rw [hend]; omega
        · show endE (c :: r) a ≤ _
          rw [hend]; simp only [List.length_append, hlen]; omega
        · show _ = (((c :: r).map C.row ++ sp).take (endE (c :: r) a).toNat).drop (a : Int).toNat
          rw [hend]
          have e1 : ((b : Nat) : Int).toNat = b := by omega
          have e2 : ((a : Nat) : Int).toNat = a := by omega
          rw [e1, e2, List.take_append_of_le_length (by rw [hlen]; omega), ← List.map_take, ← List.map_drop, List.drop_take]
        · show _ = ((c :: r).map C.row ++ sp).drop (endE (c :: r) a).toNat
          rw [hend]
          have e1 : ((b : Nat) : Int).toNat = b := by omega
          rw [e1, List.drop_append_of_le_length (by rw [hlen]; omega), List.map_drop]
        conv => whnf
        have h256 : (((c :: r).drop a).take (b - a)).length ≤ 256 := by simp only [List.length_take, List.length_drop]; omega
        refine ⟨_, _, copied_ok lab (((c :: r).drop a).take (b - a)) (((c :: r).drop b).map C.row ++ sp) (by omega) ob _, fun _ => noRef5 _ _ _ _, ?_⟩
        conv => whnf
        have hdone : done.length ≤ 256 := by
          have := congrArg List.length h6
          rw [f2, List.length_append] at this
          have := (ok_parts (q4 c (List.mem_cons_self ..))).2
          omega
        refine ⟨((done ++ [((c :: r).drop a).take (b - a)]).map T1.mk0).map T1.row, ⟨.inl rfl, ?_, ?_⟩, ?_⟩
        · show (((done.map T1.mk0).map T1.row).length + 1) * 24 ≤ _
          simp only [List.length_map]; omega
        · simp only [List.map_append]; rfl
        conv => whnf
        refine hN (b, m', done ++ [((c :: r).drop a).take (b - a)]) _ ⟨by omega, d3, ?_, ?_⟩ (by show (c :: r).length - b < (c :: r).length - a; omega) ?_
        · rw [← d1]; exact w2
        · rw [List.append_assoc, ← h6, hsp]; rfl
        · show _ = S17 _ _ ((b : Nat) : Int) ob
          rw [← hend]; rfl
      · conv => whnf
        have h := of_decide_eq_false h
        rw [hlen] at h
        have : a = (c :: r).length := by omega
        subst this
        refine hE _ _ ?_
        conv => whnf
        refine ⟨rfl, ?_, rfl⟩
        rw [List.drop_length] at h5 h6
        have := walk_nil h5
        subst this
        simp only [splitW, List.append_nil] at h6
        rw [h6]; rfl
theorem args_n {c : C} {r : List C} (hR : RightP (c :: r)) (hk : c.k = 3) : ((argsR (c :: r)).length : Int) = c.n := by
  have h1 := (args_facts hR hk).2.1
  have h2 := (ok_parts (((right_walk _).1 hR).2.2.2 c (List.mem_cons_self ..)))
  have h3 := (right_kinds hR).2.2 hk
  have h4 := h2.1
  unfold partsC at h4
  rw [if_pos hk] at h4
  rw [h1]; omega
end Tree
