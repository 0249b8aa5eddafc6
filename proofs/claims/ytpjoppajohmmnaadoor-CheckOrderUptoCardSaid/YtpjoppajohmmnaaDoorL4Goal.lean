/- Layer 4: goals of bodies. -/
import Derived.Test.YtpjoppajohmmnaaDoorL4Guard
set_option autoImplicit false
set_option linter.unusedVariables false
set_option linter.unusedSimpArgs false
namespace Tree
open Go
set_option maxHeartbeats 4000000
set_option maxRecDepth 100000
def eqS : ByteArray := ⟨#[61]⟩
def asS : ByteArray := ⟨#[58, 61]⟩
def PlaceP (cs : List C) : Prop := ∃ c r, cs = c :: r ∧ (c.k = 4 ∨ c.k = 1 ∧ 0 ≤ c.n ∧ c.n < 4)
open Classical in
noncomputable def Goal0 (cs : List C) : Prop := if IsP cs eqS 2 then True else if IsP cs asS 2 then SumP ((argsR cs).getD 1 []) else if IsP cs atS 2 then False else CalP cs
open Classical in
noncomputable def GoalP (sent : Prop) (cs : List C) : Prop := if IsP cs eqS 2 then True else if IsP cs asS 2 then SumP ((argsR cs).getD 1 []) else if IsP cs atS 2 then (sent ∧ Goal0 ((argsR cs).getD 0 []) ∧ PlaceP ((argsR cs).getD 1 [])) else CalP cs
theorem goal0_iff (cs : List C) : GoalP False cs ↔ Goal0 cs := by
  unfold GoalP Goal0
  split
  · exact Iff.rfl
  · split
    · exact Iff.rfl
    · split
      · simp
      · exact Iff.rfl
theorem args2 {cs : List C} (hR : RightP cs) {s : ByteArray} (h : IsP cs s 2) : ∃ a b, argsR cs = [a, b] ∧ RightP a ∧ RightP b ∧ (∀ d ∈ a, d ∈ cs) ∧ (∀ d ∈ b, d ∈ cs) ∧ a.length < cs.length ∧ b.length < cs.length := by
  obtain ⟨c, r, rfl, h3, h4⟩ := h
  have hk : c.k = 3 := by
    rcases h4 with g | g
    · exact g.1
    · omega
  have hn : c.n = 2 := by
    rcases h4 with g | g
    · exact g.2
    · omega
  obtain ⟨f1, f2, f3, f4⟩ := args_facts hR hk
  obtain ⟨g1, g2, g3, g4⟩ := struct_facts hR hk
  have hlen : (argsR (c :: r)).length = 2 := by omega
  match hx : argsR (c :: r), hlen with
  | [a, b], _ =>
    have ha : a ∈ argsR (c :: r) := by rw [hx]; simp
    have hb : b ∈ argsR (c :: r) := by rw [hx]; simp
    obtain ⟨p1, p2, p3⟩ := args_small hR hk ha
    obtain ⟨q1, q2, q3⟩ := args_small hR hk hb
    exact ⟨a, b, rfl, p2, q2, p3, q3, p1, q1⟩
theorem isGoalF_ok (lab : Nat) (cs : List C) (sp : List (List LV)) (hR : RightP cs) (hf : ∀ c ∈ cs, c.fine) (sent : Bool) (rec : ∀ (a : List C), RightP a → a.length < cs.length → (∀ c ∈ a, c.fine) → sent = true → ∀ ob pb (q : Bool), (q = true ↔ Goal0 a) → Gives env4 305 [sl5 false 0 a [], .bool false] ob pb (.bool q, ob)) (ob : Obs) (pb : Nat) (r : Bool) (hr : r = true ↔ GoalP (sent = true) cs) : Gives env4 305 [sl5 false lab cs sp, .bool sent] ob pb (.bool r, ob) := by
  have hl : cs.length ≤ 4611686018427387904 := by have := hR.2.1; omega
  refine gives_code (f := tf305) rfl ?_
  conv => whnf
  refine ⟨_, _, (args_ok lab cs sp hl hf ob _).le le14, fun _ => noRefM _ _, ?_⟩
  conv => whnf
  obtain ⟨k1, hk1⟩ := boolOf (IsP cs eqS 2)
  refine ⟨_, _, is_ok lab cs sp eqS 2 ob _ k1 hk1, fun _ => rfl, ?_⟩
  conv => whnf
  refine sel_split (fun h1 => ?_) (fun h1 => ?_)
  · conv => whnf
    refine ⟨rfl, bool_of hr ⟨fun _ => ?_, fun _ => rfl⟩, rfl⟩
    unfold GoalP; rw [if_pos (hk1.1 h1)]; trivial
  · conv => whnf
    have h1 : ¬ IsP cs eqS 2 := fun hn => by rw [hk1.2 hn] at h1; cases h1
    obtain ⟨k2, hk2⟩ := boolOf (IsP cs asS 2)
    refine ⟨_, _, is_ok lab cs sp asS 2 ob _ k2 hk2, fun _ => rfl, ?_⟩
    conv => whnf
    refine sel_split (fun h2 => ?_) (fun h2 => ?_)
    · have h2 := hk2.1 h2
      obtain ⟨a, b, ha, ra, rb, fa, fb, la, lb⟩ := args2 hR h2
      have hg : GoalP (sent = true) cs ↔ SumP b := by unfold GoalP; rw [if_neg h1, if_pos h2, ha]; rfl
      rw [hg] at hr
      rw [ha]
      conv => whnf
      refine ⟨_, ⟨by omega, idx_t (ts := [a, b].map T1.mk0) (i := 1) rfl⟩, ?_⟩
      conv => whnf
      refine ⟨_, _, isSum_ok _ 0 b [] (Nat.le_refl _) rb (fun d hd => hf d (fb d hd)) ob _ r hr, fun _ => rfl, ?_⟩
      conv => whnf
      exact ⟨rfl, rfl, rfl⟩
    · have h2 : ¬ IsP cs asS 2 := fun hn => by rw [hk2.2 hn] at h2; cases h2
      conv => whnf
      obtain ⟨k3, hk3⟩ := boolOf (IsP cs atS 2)
      refine ⟨_, _, is_ok lab cs sp atS 2 ob _ k3 hk3, fun _ => rfl, ?_⟩
      conv => whnf
      refine sel_split (fun h3 => ?_) (fun h3 => ?_)
      · have h3 := hk3.1 h3
        obtain ⟨a, b, ha, ra, rb, fa, fb, la, lb⟩ := args2 hR h3
        have hg : GoalP (sent = true) cs ↔ sent = true ∧ Goal0 a ∧ PlaceP b := by unfold GoalP; rw [if_neg h1, if_neg h2, if_pos h3, ha]; rfl
        rw [hg] at hr
        obtain ⟨c, t, rfl⟩ := right_cons rb
        have hpl : PlaceP (c :: t) ↔ (c.k = 4 ∨ c.k = 1 ∧ 0 ≤ c.n ∧ c.n < 4) := ⟨fun ⟨_, _, e, h⟩ => by cases e; exact h, fun h => ⟨c, t, rfl, h⟩⟩
        rw [hpl] at hr
        rw [ha]
        conv => whnf
        refine ⟨_, ⟨by omega, idx_t (ts := [a, c :: t].map T1.mk0) (i := 1) rfl⟩, ?_⟩
        conv => whnf
        refine ⟨_, ⟨by omega, idx_row (cs := c :: t) (i := 0) rfl⟩, ?_⟩
        conv => whnf
        refine sel_split (fun h4 => ?_) (fun h4 => ?_)
        · conv => whnf
          refine ⟨_, ⟨by omega, idx_t (ts := [a, c :: t].map T1.mk0) (i := 0) rfl⟩, ?_⟩
          conv => whnf
          obtain ⟨q, hq⟩ := boolOf (Goal0 a)
          refine ⟨_, _, rec a ra la (fun d hd => hf d (fa d hd)) h4 ob _ q hq, fun _ => rfl, ?_⟩
          conv => whnf
          refine sel_split (fun h5 => ?_) (fun h5 => ?_)
          · conv => whnf
            have h5 := hq.1 h5
            refine sel_split (fun h6 => ?_) (fun h6 => ?_)
            · conv => whnf
              have h6 : c.k = 4 := by simpa using h6
              exact ⟨rfl, bool_of hr ⟨fun _ => ⟨h4, h5, .inl h6⟩, fun _ => rfl⟩, rfl⟩
            · conv => whnf
              have h6 : c.k ≠ 4 := by simpa using h6
              refine sel_split (fun h7 => ?_) (fun h7 => ?_)
              · conv => whnf
                have h7 : c.k = 1 := by simpa using h7
                refine sel_split (fun h8 => ?_) (fun h8 => ?_)
                · conv => whnf
                  have h8 : 0 ≤ c.n := by simpa using h8
                  refine ⟨rfl, bool_of hr ⟨fun e => ⟨h4, h5, .inr ⟨h7, h8, by simpa using e⟩⟩, fun h => ?_⟩, rfl⟩
                  rcases h.2.2 with g | g
                  · exact absurd g h6
                  · simpa using g.2.2
                · conv => whnf
                  have h8 : ¬ 0 ≤ c.n := by simpa using h8
                  refine ⟨rfl, bool_of hr ⟨fun e => (nomatch e), fun h => ?_⟩, rfl⟩
                  exfalso
                  rcases h.2.2 with g | g
                  · exact absurd g h6
                  · exact h8 g.2.1
              · conv => whnf
                have h7 : c.k ≠ 1 := by simpa using h7
                refine ⟨rfl, bool_of hr ⟨fun e => (nomatch e), fun h => ?_⟩, rfl⟩
                exfalso
                rcases h.2.2 with g | g
                · exact absurd g h6
                · exact h7 g.1
          · conv => whnf
            refine ⟨rfl, bool_of hr ⟨fun e => (nomatch e), fun h => ?_⟩, rfl⟩
            rw [hq.2 h.2.1] at h5; cases h5
        · conv => whnf
          refine ⟨rfl, bool_of hr ⟨fun e => (nomatch e), fun h => ?_⟩, rfl⟩
          rw [h4] at h; exact absurd h.1 (by simp)
      · have h3 : ¬ IsP cs atS 2 := fun hn => by rw [hk3.2 hn] at h3; cases h3
        have hg : GoalP (sent = true) cs ↔ CalP cs := by unfold GoalP; rw [if_neg h1, if_neg h2, if_neg h3]
        rw [hg] at hr
        conv => whnf
        refine ⟨_, _, isCall_ok lab cs sp hR.1 hf ob _ r hr, fun _ => rfl, ?_⟩
        conv => whnf
        exact ⟨rfl, rfl, rfl⟩
theorem goal0_ok (lab : Nat) (cs : List C) (sp : List (List LV)) (hR : RightP cs) (hf : ∀ c ∈ cs, c.fine) (ob : Obs) (pb : Nat) (r : Bool) (hr : r = true ↔ Goal0 cs) : Gives env4 305 [sl5 false lab cs sp, .bool false] ob pb (.bool r, ob) := by
  refine isGoalF_ok lab cs sp hR hf false (fun _ _ _ _ h => by cases h) ob pb r ?_
  rw [hr, ← goal0_iff]; simp
theorem isGoal_ok (lab : Nat) (cs : List C) (sp : List (List LV)) (hR : RightP cs) (hf : ∀ c ∈ cs, c.fine) (ob : Obs) (pb : Nat) (r : Bool) (hr : r = true ↔ GoalP True cs) : Gives env4 305 [sl5 false lab cs sp, .bool true] ob pb (.bool r, ob) := by
  refine isGoalF_ok lab cs sp hR hf true (fun a ra _ fa _ ob pb q hq => goal0_ok 0 a [] ra fa ob pb q hq) ob pb r ?_
  rw [hr]; simp
/-! ### The looks at a clause -/
def Cl.lv (c : Cl) : LV := .agg c.row
def LongW (c : Cl) : Prop := c.guards.length > 4 ∨ c.body.length > 8 ∨ c.locals > 16
theorem long_ok (c : Cl) (ob : Obs) (pb : Nat) (r : Bool) (hr : r = true ↔ LongW c) : Gives env4 291 [.agg c.row] ob pb (.bool r, ob) := by
  have hg : (c.guards.map T1.row).length = c.guards.length := by simp
  have hb : (c.body.map T1.row).length = c.body.length := by simp
  refine gives_code (f := tf291) rfl ?_
  conv => whnf
  refine sel_split (fun h1 => ?_) (fun h1 => ?_)
  · conv => whnf
    have h1 := of_decide_eq_true h1
    refine ⟨rfl, bool_of hr ⟨fun _ => .inl (by rw [hg] at h1; omega), fun _ => rfl⟩, rfl⟩
  · conv => whnf
    have h1 := of_decide_eq_false h1
    rw [hg] at h1
    refine sel_split (fun h2 => ?_) (fun h2 => ?_)
    · conv => whnf
      have h2 := of_decide_eq_true h2
      refine ⟨rfl, bool_of hr ⟨fun _ => .inr (.inl (by rw [hb] at h2; omega)), fun _ => rfl⟩, rfl⟩
    · conv => whnf
      have h2 := of_decide_eq_false h2
      rw [hb] at h2
      refine ⟨rfl, bool_of hr ⟨fun e => .inr (.inr (by simpa using e)), fun h => ?_⟩, rfl⟩
      rcases h with g | g | g
      · omega
      · omega
      · simpa using g
end Tree
