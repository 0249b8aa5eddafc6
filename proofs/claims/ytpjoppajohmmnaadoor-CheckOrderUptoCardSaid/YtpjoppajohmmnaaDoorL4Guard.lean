/- Layer 4: guards, calls, goals. -/
import Derived.Test.YtpjoppajohmmnaaDoorL4Sum
set_option autoImplicit false
set_option linter.unusedVariables false
set_option linter.unusedSimpArgs false
namespace Tree
open Go
set_option maxHeartbeats 4000000
set_option maxRecDepth 100000
def comps : List ByteArray := [⟨#[60]⟩, ⟨#[61, 60]⟩, ⟨#[62]⟩, ⟨#[62, 61]⟩, ⟨#[61, 58, 61]⟩, ⟨#[61, 92, 61]⟩]
def tests : List ByteArray := [⟨#[105, 110, 116, 101, 103, 101, 114]⟩, ⟨#[97, 116, 111, 109]⟩, ⟨#[99, 111, 109, 112, 111, 117, 110, 100]⟩, ⟨#[107, 110, 111, 119, 110]⟩]
def equalS : ByteArray := ⟨#[101, 113, 117, 97, 108]⟩
def unlikeS : ByteArray := ⟨#[117, 110, 108, 105, 107, 101]⟩
def FlatP (cs : List C) : Prop := ∃ c r, cs = c :: r ∧ c.k ≠ 3
theorem flat_cons {c : C} {r : List C} : FlatP (c :: r) ↔ c.k ≠ 3 := ⟨fun ⟨_, _, e, h⟩ => by cases e; exact h, fun h => ⟨c, r, rfl, h⟩⟩
theorem right_cons {cs : List C} (h : RightP cs) : ∃ c r, cs = c :: r := by
  cases cs with
  | nil => exact absurd rfl h.1
  | cons c r => exact ⟨c, r, rfl⟩
theorem isFlat_ok (lab : Nat) (cs : List C) (sp : List (List LV)) (hR : cs ≠ []) (ob : Obs) (pb : Nat) (r : Bool) (hr : r = true ↔ FlatP cs) : Gives env4 327 [sl5 false lab cs sp] ob pb (.bool r, ob) := by
  obtain ⟨c, t, rfl⟩ : ∃ c r, cs = c :: r := by
    cases cs with
    | nil => exact absurd rfl hR
    | cons c r => exact ⟨c, r, rfl⟩
  rw [flat_cons] at hr
  refine gives_code (f := tf327) rfl ?_
  conv => whnf
  refine ⟨_, ⟨by omega, idx_row (cs := c :: t) (i := 0) rfl⟩, ?_⟩
  conv => whnf
  refine ⟨rfl, bool_of hr ?_, rfl⟩
  simp
def CalP (cs : List C) : Prop := ∃ c r, cs = c :: r ∧ c.k ≠ 1 ∧ c.k ≠ 4 ∧ NameP c.text.data.toList
theorem call_cons {c : C} {r : List C} : CalP (c :: r) ↔ c.k ≠ 1 ∧ c.k ≠ 4 ∧ NameP c.text.data.toList := ⟨fun ⟨_, _, e, h⟩ => by cases e; exact h, fun h => ⟨c, r, rfl, h⟩⟩
theorem isCall_ok (lab : Nat) (cs : List C) (sp : List (List LV)) (hR : cs ≠ []) (hf : ∀ c ∈ cs, c.fine) (ob : Obs) (pb : Nat) (r : Bool) (hr : r = true ↔ CalP cs) : Gives env4 317 [sl5 false lab cs sp] ob pb (.bool r, ob) := by
  obtain ⟨c, t, rfl⟩ : ∃ c r, cs = c :: r := by
    cases cs with
    | nil => exact absurd rfl hR
    | cons c r => exact ⟨c, r, rfl⟩
  rw [call_cons] at hr
  refine gives_code (f := tf317) rfl ?_
  conv => whnf
  refine ⟨_, ⟨by omega, idx_row (cs := c :: t) (i := 0) rfl⟩, ?_⟩
  conv => whnf
  refine sel_split (fun h => ?_) (fun h => ?_)
  · conv => whnf
    have h : c.k ≠ 1 := by simpa using h
    refine ⟨_, ⟨by omega, idx_row (cs := c :: t) (i := 0) rfl⟩, ?_⟩
    conv => whnf
    refine sel_split (fun h2 => ?_) (fun h2 => ?_)
    · conv => whnf
      have h2 : c.k ≠ 4 := by simpa using h2
      obtain ⟨q, hq⟩ := boolOf (NameP c.text.data.toList)
      refine ⟨_, ⟨by omega, idx_row (cs := c :: t) (i := 0) rfl⟩, ?_⟩
      conv => whnf
      refine ⟨_, _, (isName_ok c.text (hf c (List.mem_cons_self ..)).1 ob _ q hq).le le14, fun _ => rfl, ?_⟩
      conv => whnf
      refine ⟨rfl, bool_of hr ?_, rfl⟩
      rw [hq]; exact ⟨fun g => ⟨h, h2, g⟩, fun g => g.2.2⟩
    · conv => whnf
      have h2 : c.k = 4 := by simpa using h2
      exact ⟨rfl, bool_of hr ⟨fun e => (nomatch e), fun g => absurd h2 g.2.1⟩, rfl⟩
  · conv => whnf
    have h : c.k = 1 := by simpa using h
    exact ⟨rfl, bool_of hr ⟨fun e => (nomatch e), fun g => absurd h g.1⟩, rfl⟩
def GuardOp (c : C) : Prop := (c.n = 1 ∧ c.text ∈ tests) ∨ (c.n = 2 ∧ (c.text = equalS ∨ c.text = unlikeS))
def GuardP (cs : List C) : Prop := IsP cs trueS 0 ∨ ∃ c r, cs = c :: r ∧ c.k = 3 ∧ ((c.n = 2 ∧ c.text ∈ comps ∧ ∀ a ∈ argsR cs, SumP a) ∨ (GuardOp c ∧ ∀ a ∈ argsR cs, FlatP a))
theorem op_not {c : C} (h : GuardOp c) : ¬ (c.n = 2 ∧ c.text ∈ comps) := by
  rintro ⟨h1, h2⟩
  rcases h with ⟨g, _⟩ | ⟨_, g⟩
  · omega
  · rcases g with g | g
    · rw [g] at h2; revert h2; simp [comps, equalS, unlikeS]
    · rw [g] at h2; revert h2; simp [comps, equalS, unlikeS]
theorem guard_iff {c : C} {r : List C} (ht : ¬ IsP (c :: r) trueS 0) (hk : c.k = 3) : GuardP (c :: r) ↔ (c.n = 2 ∧ c.text ∈ comps ∧ ∀ a ∈ argsR (c :: r), SumP a) ∨ (GuardOp c ∧ ∀ a ∈ argsR (c :: r), FlatP a) := by
  constructor
  · rintro (h | ⟨c', r', e, _, h⟩)
    · exact absurd h ht
    · cases e; exact h
  · intro h; exact .inr ⟨c, r, rfl, hk, h⟩
theorem str_ne {a b : ByteArray} (h : (a.toList == b.toList) = false) : a ≠ b := by
  intro e; subst e; simp at h
theorem str_eq {a b : ByteArray} (h : (a.toList == b.toList) = true) : a = b := bytes_eq.1 (eq_of_beq h)

theorem isGuard_ok (lab : Nat) (cs : List C) (sp : List (List LV)) (hR : RightP cs) (hf : ∀ c ∈ cs, c.fine) (ob : Obs) (pb : Nat) (res : Bool) (hr : res = true ↔ GuardP cs) : Gives env4 303 [sl5 false lab cs sp] ob pb (.bool res, ob) := by
  obtain ⟨c, r, rfl⟩ := right_cons hR
  have hl : (c :: r).length ≤ 4611686018427387904 := by have := hR.2.1; omega
  refine gives_code (f := tf303) rfl ?_
  conv => whnf
  obtain ⟨k, hk⟩ := boolOf (IsP (c :: r) trueS 0)
  refine ⟨_, _, is_ok lab (c :: r) sp trueS 0 ob _ k hk, fun _ => rfl, ?_⟩
  conv => whnf
  refine sel_split (fun h => ?_) (fun h => ?_)
  · conv => whnf
    exact ⟨rfl, bool_of hr ⟨fun _ => .inl (hk.1 h), fun _ => rfl⟩, rfl⟩
  · conv => whnf
    have ht : ¬ IsP (c :: r) trueS 0 := fun hn => by rw [hk.2 hn] at h; cases h
    refine ⟨_, ⟨by omega, idx_row (cs := c :: r) (i := 0) rfl⟩, ?_⟩
    conv => whnf
    refine sel_split (fun h2 => ?_) (fun h2 => ?_)
    · conv => whnf
      have h2 : c.k ≠ 3 := by simpa using h2
      refine ⟨rfl, bool_of hr ⟨fun e => (nomatch e), fun h => ?_⟩, rfl⟩
      exfalso
      rcases h with h | ⟨_, _, e, h, _⟩
      · exact ht h
      · cases e; exact h2 h
    · conv => whnf
      have hk3 : c.k = 3 := by simpa using h2
      refine sel_split (fun h3 => ?_) (fun h3 => ?_)
      · conv => whnf
        have hn2 : c.n = 2 := by simpa using h3
        obtain ⟨q, hq⟩ := boolOf (c.text ∈ comps)
        refine ⟨_, _, (hasStr_ok 0 comps c.text (by decide) ob _ q hq).le le14, fun _ => rfl, ?_⟩
        conv => whnf
        refine sel_split (fun h4 => ?_) (fun h4 => ?_)
        · conv => whnf
          have hcm : c.text ∈ comps := hq.1 h4
          refine ⟨_, _, (args_ok lab (c :: r) sp hl hf ob _).le le14, fun _ => noRefM _ _, ?_⟩
          conv => whnf
          obtain ⟨q2, hq2⟩ := boolOf (∃ t ∈ (argsR (c :: r)).map T1.mk0, ¬ SumP t.cs)
          refine ⟨_, _, any33p_ok 328 _ _ 0 _ ((argsR (c :: r)).map T1.mk0) [] (fun t => ¬ SumP t.cs) (by rw [List.length_map]; have := argsR_len (c :: r); omega) (fun t ht ob pb q hq => ?_) ob _ q2 hq2, fun _ => rfl, ?_⟩
          · obtain ⟨a, ha, rfl⟩ := List.mem_map.1 ht
            obtain ⟨s1, s2, s3⟩ := args_small hR hk3 ha
            obtain ⟨q', hq'⟩ := boolOf (SumP a)
            refine gives_code (f := tf328) rfl ?_
            conv => whnf
            refine ⟨_, _, isSum_ok _ 0 a [] (Nat.le_refl _) s2 (fun d hd => hf d (s3 d hd)) ob _ q' hq', fun _ => rfl, ?_⟩
            conv => whnf
            refine ⟨rfl, bool_of hq ?_, rfl⟩
            show (!q') = true ↔ ¬ SumP a
            rw [← hq']; cases q' <;> simp
          conv => whnf
          refine ⟨rfl, bool_of hr ?_, rfl⟩
          rw [guard_iff ht hk3]
          have hall : (!q2) = true ↔ ∀ a ∈ argsR (c :: r), SumP a := by
            constructor
            · intro e a ha
              have e : q2 = false := by simpa using e
              refine Classical.byContradiction fun hn => ?_
              have := hq2.2 ⟨T1.mk0 a, List.mem_map.2 ⟨a, ha, rfl⟩, hn⟩
              rw [e] at this; cases this
            · intro h
              cases hq : q2 with
              | false => rfl
              | true =>
                obtain ⟨t, ht, hn⟩ := hq2.1 hq
                obtain ⟨a, ha, rfl⟩ := List.mem_map.1 ht
                exact absurd (h a ha) hn
          rw [hall]
          exact ⟨fun h => .inl ⟨hn2, hcm, h⟩, fun h => by rcases h with h | h; exact h.2.2; exact absurd ⟨hn2, hcm⟩ (op_not h.1)⟩
        · conv => whnf
          have hcm : c.text ∉ comps := fun hm => by rw [hq.2 hm] at h4; cases h4
          refine sel_split (fun k1 => ?_) (fun k1 => ?_)
          · conv => whnf
            have k1 : c.n = 1 := by simpa using k1
            obtain ⟨p, hp⟩ := boolOf (c.text ∈ tests)
            refine ⟨_, _, (hasStr_ok 0 tests c.text (by decide) ob _ p hp).le le14, fun _ => rfl, ?_⟩
            conv => whnf
            refine sel_split (fun k2 => ?_) (fun k2 => ?_)
            · conv => whnf
              have k2 : c.text ∈ tests := hp.1 k2
              refine ⟨_, _, (args_ok lab (c :: r) sp hl hf ob _).le le14, fun _ => noRefM _ _, ?_⟩
              conv => whnf
              obtain ⟨q2, hq2⟩ := boolOf (∃ t ∈ (argsR (c :: r)).map T1.mk0, ¬ FlatP t.cs)
              refine ⟨_, _, any33p_ok 328 _ _ 0 _ ((argsR (c :: r)).map T1.mk0) [] (fun t => ¬ FlatP t.cs) (by rw [List.length_map]; have := argsR_len (c :: r); omega) (fun t ht ob pb q hq => ?_) ob _ q2 hq2, fun _ => rfl, ?_⟩
              · obtain ⟨a, ha, rfl⟩ := List.mem_map.1 ht
                obtain ⟨s1, s2, s3⟩ := args_small hR hk3 ha
                obtain ⟨q', hq'⟩ := boolOf (FlatP a)
                refine gives_code (f := tf328) rfl ?_
                conv => whnf
                refine ⟨_, _, isFlat_ok 0 a [] s2.1 ob _ q' hq', fun _ => rfl, ?_⟩
                conv => whnf
                refine ⟨rfl, bool_of hq ?_, rfl⟩
                show (!q') = true ↔ ¬ FlatP a
                rw [← hq']; cases q' <;> simp
              conv => whnf
              refine ⟨rfl, bool_of hr ?_, rfl⟩
              rw [guard_iff ht hk3]
              have hall : (!q2) = true ↔ ∀ a ∈ argsR (c :: r), FlatP a := by
                constructor
                · intro e a ha
                  have e : q2 = false := by simpa using e
                  refine Classical.byContradiction fun hn => ?_
                  have := hq2.2 ⟨T1.mk0 a, List.mem_map.2 ⟨a, ha, rfl⟩, hn⟩
                  rw [e] at this; cases this
                · intro h
                  cases hq : q2 with
                  | false => rfl
                  | true =>
                    obtain ⟨t, ht, hn⟩ := hq2.1 hq
                    obtain ⟨a, ha, rfl⟩ := List.mem_map.1 ht
                    exact absurd (h a ha) hn
              rw [hall]
              have hop : GuardOp c := .inl ⟨k1, k2⟩
              exact ⟨fun h => .inr ⟨hop, h⟩, fun h => by rcases h with h | h; exact absurd ⟨h.1, h.2.1⟩ (op_not hop); exact h.2⟩
            · conv => whnf
              have k2 : c.text ∉ tests := fun hm => by rw [hp.2 hm] at k2; cases k2
              refine sel_split (fun g1 => ?_) (fun g1 => ?_)
              · conv => whnf
                have g1 : c.n = 2 := by simpa using g1
                refine sel_split (fun g2 => ?_) (fun g2 => ?_)
                · conv => whnf
                  have g2 : c.text = equalS := str_eq g2
                  refine ⟨_, _, (args_ok lab (c :: r) sp hl hf ob _).le le14, fun _ => noRefM _ _, ?_⟩
                  conv => whnf
                  obtain ⟨q2, hq2⟩ := boolOf (∃ t ∈ (argsR (c :: r)).map T1.mk0, ¬ FlatP t.cs)
                  refine ⟨_, _, any33p_ok 328 _ _ 0 _ ((argsR (c :: r)).map T1.mk0) [] (fun t => ¬ FlatP t.cs) (by rw [List.length_map]; have := argsR_len (c :: r); omega) (fun t ht ob pb q hq => ?_) ob _ q2 hq2, fun _ => rfl, ?_⟩
                  · obtain ⟨a, ha, rfl⟩ := List.mem_map.1 ht
                    obtain ⟨s1, s2, s3⟩ := args_small hR hk3 ha
                    obtain ⟨q', hq'⟩ := boolOf (FlatP a)
                    refine gives_code (f := tf328) rfl ?_
                    conv => whnf
                    refine ⟨_, _, isFlat_ok 0 a [] s2.1 ob _ q' hq', fun _ => rfl, ?_⟩
                    conv => whnf
                    refine ⟨rfl, bool_of hq ?_, rfl⟩
                    show (!q') = true ↔ ¬ FlatP a
                    rw [← hq']; cases q' <;> simp
                  conv => whnf
                  refine ⟨rfl, bool_of hr ?_, rfl⟩
                  rw [guard_iff ht hk3]
                  have hall : (!q2) = true ↔ ∀ a ∈ argsR (c :: r), FlatP a := by
                    constructor
                    · intro e a ha
                      have e : q2 = false := by simpa using e
                      refine Classical.byContradiction fun hn => ?_
                      have := hq2.2 ⟨T1.mk0 a, List.mem_map.2 ⟨a, ha, rfl⟩, hn⟩
                      rw [e] at this; cases this
                    · intro h
                      cases hq : q2 with
                      | false => rfl
                      | true =>
                        obtain ⟨t, ht, hn⟩ := hq2.1 hq
                        obtain ⟨a, ha, rfl⟩ := List.mem_map.1 ht
                        exact absurd (h a ha) hn
                  rw [hall]
                  have hop : GuardOp c := .inr ⟨g1, .inl g2⟩
                  exact ⟨fun h => .inr ⟨hop, h⟩, fun h => by rcases h with h | h; exact absurd ⟨h.1, h.2.1⟩ (op_not hop); exact h.2⟩
                · conv => whnf
                  have g2 : c.text ≠ equalS := str_ne g2
                  refine sel_split (fun g3 => ?_) (fun g3 => ?_)
                  · conv => whnf
                    have g3 : c.text = unlikeS := str_eq g3
                    refine ⟨_, _, (args_ok lab (c :: r) sp hl hf ob _).le le14, fun _ => noRefM _ _, ?_⟩
                    conv => whnf
                    obtain ⟨q2, hq2⟩ := boolOf (∃ t ∈ (argsR (c :: r)).map T1.mk0, ¬ FlatP t.cs)
                    refine ⟨_, _, any33p_ok 328 _ _ 0 _ ((argsR (c :: r)).map T1.mk0) [] (fun t => ¬ FlatP t.cs) (by rw [List.length_map]; have := argsR_len (c :: r); omega) (fun t ht ob pb q hq => ?_) ob _ q2 hq2, fun _ => rfl, ?_⟩
                    · obtain ⟨a, ha, rfl⟩ := List.mem_map.1 ht
                      obtain ⟨s1, s2, s3⟩ := args_small hR hk3 ha
                      obtain ⟨q', hq'⟩ := boolOf (FlatP a)
                      refine gives_code (f := tf328) rfl ?_
                      conv => whnf
                      refine ⟨_, _, isFlat_ok 0 a [] s2.1 ob _ q' hq', fun _ => rfl, ?_⟩
                      conv => whnf
                      refine ⟨rfl, bool_of hq ?_, rfl⟩
                      show (!q') = true ↔ ¬ FlatP a
                      rw [← hq']; cases q' <;> simp
                    conv => whnf
                    refine ⟨rfl, bool_of hr ?_, rfl⟩
                    rw [guard_iff ht hk3]
                    have hall : (!q2) = true ↔ ∀ a ∈ argsR (c :: r), FlatP a := by
                      constructor
                      · intro e a ha
                        have e : q2 = false := by simpa using e
                        refine Classical.byContradiction fun hn => ?_
                        have := hq2.2 ⟨T1.mk0 a, List.mem_map.2 ⟨a, ha, rfl⟩, hn⟩
                        rw [e] at this; cases this
                      · intro h
                        cases hq : q2 with
                        | false => rfl
                        | true =>
                          obtain ⟨t, ht, hn⟩ := hq2.1 hq
                          obtain ⟨a, ha, rfl⟩ := List.mem_map.1 ht
                          exact absurd (h a ha) hn
                    rw [hall]
                    have hop : GuardOp c := .inr ⟨g1, .inr g3⟩
                    exact ⟨fun h => .inr ⟨hop, h⟩, fun h => by rcases h with h | h; exact absurd ⟨h.1, h.2.1⟩ (op_not hop); exact h.2⟩
                  · conv => whnf
                    have g3 : c.text ≠ unlikeS := str_ne g3
                    refine ⟨rfl, bool_of hr ⟨fun e => (nomatch e), fun h => ?_⟩, rfl⟩
                    exfalso
                    rcases (guard_iff ht hk3).1 h with h | h
                    · exact hcm h.2.1
                    · rcases h.1 with h | h
                      · exact k2 h.2
                      · exact h.2.elim g2 g3
              · conv => whnf
                have g1 : c.n ≠ 2 := by simpa using g1
                refine ⟨rfl, bool_of hr ⟨fun e => (nomatch e), fun h => ?_⟩, rfl⟩
                exfalso
                rcases (guard_iff ht hk3).1 h with h | h
                · exact hcm h.2.1
                · rcases h.1 with h | h
                  · exact k2 h.2
                  · exact g1 h.1
          · conv => whnf
            have k1 : c.n ≠ 1 := by simpa using k1
            refine sel_split (fun g1 => ?_) (fun g1 => ?_)
            · conv => whnf
              have g1 : c.n = 2 := by simpa using g1
              refine sel_split (fun g2 => ?_) (fun g2 => ?_)
              · conv => whnf
                have g2 : c.text = equalS := str_eq g2
                refine ⟨_, _, (args_ok lab (c :: r) sp hl hf ob _).le le14, fun _ => noRefM _ _, ?_⟩
                conv => whnf
                obtain ⟨q2, hq2⟩ := boolOf (∃ t ∈ (argsR (c :: r)).map T1.mk0, ¬ FlatP t.cs)
                refine ⟨_, _, any33p_ok 328 _ _ 0 _ ((argsR (c :: r)).map T1.mk0) [] (fun t => ¬ FlatP t.cs) (by rw [List.length_map]; have := argsR_len (c :: r); omega) (fun t ht ob pb q hq => ?_) ob _ q2 hq2, fun _ => rfl, ?_⟩
                · obtain ⟨a, ha, rfl⟩ := List.mem_map.1 ht
                  obtain ⟨s1, s2, s3⟩ := args_small hR hk3 ha
                  obtain ⟨q', hq'⟩ := boolOf (FlatP a)
                  refine gives_code (f := tf328) rfl ?_
                  conv => whnf
                  refine ⟨_, _, isFlat_ok 0 a [] s2.1 ob _ q' hq', fun _ => rfl, ?_⟩
                  conv => whnf
                  refine ⟨rfl, bool_of hq ?_, rfl⟩
                  show (!q') = true ↔ ¬ FlatP a
                  rw [← hq']; cases q' <;> simp
                conv => whnf
                refine ⟨rfl, bool_of hr ?_, rfl⟩
                rw [guard_iff ht hk3]
                have hall : (!q2) = true ↔ ∀ a ∈ argsR (c :: r), FlatP a := by
                  constructor
                  · intro e a ha
                    have e : q2 = false := by simpa using e
                    refine Classical.byContradiction fun hn => ?_
                    have := hq2.2 ⟨T1.mk0 a, List.mem_map.2 ⟨a, ha, rfl⟩, hn⟩
                    rw [e] at this; cases this
                  · intro h
                    cases hq : q2 with
                    | false => rfl
                    | true =>
                      obtain ⟨t, ht, hn⟩ := hq2.1 hq
                      obtain ⟨a, ha, rfl⟩ := List.mem_map.1 ht
                      exact absurd (h a ha) hn
                rw [hall]
                have hop : GuardOp c := .inr ⟨g1, .inl g2⟩
                exact ⟨fun h => .inr ⟨hop, h⟩, fun h => by rcases h with h | h; exact absurd ⟨h.1, h.2.1⟩ (op_not hop); exact h.2⟩
              · conv => whnf
                have g2 : c.text ≠ equalS := str_ne g2
                refine sel_split (fun g3 => ?_) (fun g3 => ?_)
                · conv => whnf
                  have g3 : c.text = unlikeS := str_eq g3
                  refine ⟨_, _, (args_ok lab (c :: r) sp hl hf ob _).le le14, fun _ => noRefM _ _, ?_⟩
                  conv => whnf
                  obtain ⟨q2, hq2⟩ := boolOf (∃ t ∈ (argsR (c :: r)).map T1.mk0, ¬ FlatP t.cs)
                  refine ⟨_, _, any33p_ok 328 _ _ 0 _ ((argsR (c :: r)).map T1.mk0) [] (fun t => ¬ FlatP t.cs) (by rw [List.length_map]; have := argsR_len (c :: r); omega) (fun t ht ob pb q hq => ?_) ob _ q2 hq2, fun _ => rfl, ?_⟩
                  · obtain ⟨a, ha, rfl⟩ := List.mem_map.1 ht
                    obtain ⟨s1, s2, s3⟩ := args_small hR hk3 ha
                    obtain ⟨q', hq'⟩ := boolOf (FlatP a)
                    refine gives_code (f := tf328) rfl ?_
                    conv => whnf
                    refine ⟨_, _, isFlat_ok 0 a [] s2.1 ob _ q' hq', fun _ => rfl, ?_⟩
                    conv => whnf
                    refine ⟨rfl, bool_of hq ?_, rfl⟩
                    show (!q') = true ↔ ¬ FlatP a
                    rw [← hq']; cases q' <;> simp
                  conv => whnf
                  refine ⟨rfl, bool_of hr ?_, rfl⟩
                  rw [guard_iff ht hk3]
                  have hall : (!q2) = true ↔ ∀ a ∈ argsR (c :: r), FlatP a := by
                    constructor
                    · intro e a ha
                      have e : q2 = false := by simpa using e
                      refine Classical.byContradiction fun hn => ?_
                      have := hq2.2 ⟨T1.mk0 a, List.mem_map.2 ⟨a, ha, rfl⟩, hn⟩
                      rw [e] at this; cases this
                    · intro h
                      cases hq : q2 with
                      | false => rfl
                      | true =>
                        obtain ⟨t, ht, hn⟩ := hq2.1 hq
                        obtain ⟨a, ha, rfl⟩ := List.mem_map.1 ht
                        exact absurd (h a ha) hn
                  rw [hall]
                  have hop : GuardOp c := .inr ⟨g1, .inr g3⟩
                  exact ⟨fun h => .inr ⟨hop, h⟩, fun h => by rcases h with h | h; exact absurd ⟨h.1, h.2.1⟩ (op_not hop); exact h.2⟩
                · conv => whnf
                  have g3 : c.text ≠ unlikeS := str_ne g3
                  refine ⟨rfl, bool_of hr ⟨fun e => (nomatch e), fun h => ?_⟩, rfl⟩
                  exfalso
                  rcases (guard_iff ht hk3).1 h with h | h
                  · exact hcm h.2.1
                  · rcases h.1 with h | h
                    · exact k1 h.1
                    · exact h.2.elim g2 g3
            · conv => whnf
              have g1 : c.n ≠ 2 := by simpa using g1
              refine ⟨rfl, bool_of hr ⟨fun e => (nomatch e), fun h => ?_⟩, rfl⟩
              exfalso
              rcases (guard_iff ht hk3).1 h with h | h
              · exact hcm h.2.1
              · rcases h.1 with h | h
                · exact k1 h.1
                · exact g1 h.1
      · conv => whnf
        have hn2 : c.n ≠ 2 := by simpa using h3
        refine sel_split (fun k1 => ?_) (fun k1 => ?_)
        · conv => whnf
          have k1 : c.n = 1 := by simpa using k1
          obtain ⟨p, hp⟩ := boolOf (c.text ∈ tests)
          refine ⟨_, _, (hasStr_ok 0 tests c.text (by decide) ob _ p hp).le le14, fun _ => rfl, ?_⟩
          conv => whnf
          refine sel_split (fun k2 => ?_) (fun k2 => ?_)
          · conv => whnf
            have k2 : c.text ∈ tests := hp.1 k2
            refine ⟨_, _, (args_ok lab (c :: r) sp hl hf ob _).le le14, fun _ => noRefM _ _, ?_⟩
            conv => whnf
            obtain ⟨q2, hq2⟩ := boolOf (∃ t ∈ (argsR (c :: r)).map T1.mk0, ¬ FlatP t.cs)
            refine ⟨_, _, any33p_ok 328 _ _ 0 _ ((argsR (c :: r)).map T1.mk0) [] (fun t => ¬ FlatP t.cs) (by rw [List.length_map]; have := argsR_len (c :: r); omega) (fun t ht ob pb q hq => ?_) ob _ q2 hq2, fun _ => rfl, ?_⟩
            · obtain ⟨a, ha, rfl⟩ := List.mem_map.1 ht
              obtain ⟨s1, s2, s3⟩ := args_small hR hk3 ha
              obtain ⟨q', hq'⟩ := boolOf (FlatP a)
              refine gives_code (f := tf328) rfl ?_
              conv => whnf
              refine ⟨_, _, isFlat_ok 0 a [] s2.1 ob _ q' hq', fun _ => rfl, ?_⟩
              conv => whnf
              refine ⟨rfl, bool_of hq ?_, rfl⟩
              show (!q') = true ↔ ¬ FlatP a
              rw [← hq']; cases q' <;> simp
            conv => whnf
            refine ⟨rfl, bool_of hr ?_, rfl⟩
            rw [guard_iff ht hk3]
            have hall : (!q2) = true ↔ ∀ a ∈ argsR (c :: r), FlatP a := by
              constructor
              · intro e a ha
                have e : q2 = false := by simpa using e
                refine Classical.byContradiction fun hn => ?_
                have := hq2.2 ⟨T1.mk0 a, List.mem_map.2 ⟨a, ha, rfl⟩, hn⟩
                rw [e] at this; cases this
              · intro h
                cases hq : q2 with
                | false => rfl
                | true =>
                  obtain ⟨t, ht, hn⟩ := hq2.1 hq
                  obtain ⟨a, ha, rfl⟩ := List.mem_map.1 ht
                  exact absurd (h a ha) hn
            rw [hall]
            have hop : GuardOp c := .inl ⟨k1, k2⟩
            exact ⟨fun h => .inr ⟨hop, h⟩, fun h => by rcases h with h | h; exact absurd ⟨h.1, h.2.1⟩ (op_not hop); exact h.2⟩
          · conv => whnf
            have k2 : c.text ∉ tests := fun hm => by rw [hp.2 hm] at k2; cases k2
            refine sel_split (fun g1 => ?_) (fun g1 => ?_)
            · conv => whnf
              have g1 : c.n = 2 := by simpa using g1
              refine sel_split (fun g2 => ?_) (fun g2 => ?_)
              · conv => whnf
                have g2 : c.text = equalS := str_eq g2
                refine ⟨_, _, (args_ok lab (c :: r) sp hl hf ob _).le le14, fun _ => noRefM _ _, ?_⟩
                conv => whnf
                obtain ⟨q2, hq2⟩ := boolOf (∃ t ∈ (argsR (c :: r)).map T1.mk0, ¬ FlatP t.cs)
                refine ⟨_, _, any33p_ok 328 _ _ 0 _ ((argsR (c :: r)).map T1.mk0) [] (fun t => ¬ FlatP t.cs) (by rw [List.length_map]; have := argsR_len (c :: r); omega) (fun t ht ob pb q hq => ?_) ob _ q2 hq2, fun _ => rfl, ?_⟩
                · obtain ⟨a, ha, rfl⟩ := List.mem_map.1 ht
                  obtain ⟨s1, s2, s3⟩ := args_small hR hk3 ha
                  obtain ⟨q', hq'⟩ := boolOf (FlatP a)
                  refine gives_code (f := tf328) rfl ?_
                  conv => whnf
                  refine ⟨_, _, isFlat_ok 0 a [] s2.1 ob _ q' hq', fun _ => rfl, ?_⟩
                  conv => whnf
                  refine ⟨rfl, bool_of hq ?_, rfl⟩
                  show (!q') = true ↔ ¬ FlatP a
                  rw [← hq']; cases q' <;> simp
                conv => whnf
                refine ⟨rfl, bool_of hr ?_, rfl⟩
                rw [guard_iff ht hk3]
                have hall : (!q2) = true ↔ ∀ a ∈ argsR (c :: r), FlatP a := by
                  constructor
                  · intro e a ha
                    have e : q2 = false := by simpa using e
                    refine Classical.byContradiction fun hn => ?_
                    have := hq2.2 ⟨T1.mk0 a, List.mem_map.2 ⟨a, ha, rfl⟩, hn⟩
                    rw [e] at this; cases this
                  · intro h
                    cases hq : q2 with
                    | false => rfl
                    | true =>
                      obtain ⟨t, ht, hn⟩ := hq2.1 hq
                      obtain ⟨a, ha, rfl⟩ := List.mem_map.1 ht
                      exact absurd (h a ha) hn
                rw [hall]
                have hop : GuardOp c := .inr ⟨g1, .inl g2⟩
                exact ⟨fun h => .inr ⟨hop, h⟩, fun h => by rcases h with h | h; exact absurd ⟨h.1, h.2.1⟩ (op_not hop); exact h.2⟩
              · conv => whnf
                have g2 : c.text ≠ equalS := str_ne g2
                refine sel_split (fun g3 => ?_) (fun g3 => ?_)
                · conv => whnf
                  have g3 : c.text = unlikeS := str_eq g3
                  refine ⟨_, _, (args_ok lab (c :: r) sp hl hf ob _).le le14, fun _ => noRefM _ _, ?_⟩
                  conv => whnf
                  obtain ⟨q2, hq2⟩ := boolOf (∃ t ∈ (argsR (c :: r)).map T1.mk0, ¬ FlatP t.cs)
                  refine ⟨_, _, any33p_ok 328 _ _ 0 _ ((argsR (c :: r)).map T1.mk0) [] (fun t => ¬ FlatP t.cs) (by rw [List.length_map]; have := argsR_len (c :: r); omega) (fun t ht ob pb q hq => ?_) ob _ q2 hq2, fun _ => rfl, ?_⟩
                  · obtain ⟨a, ha, rfl⟩ := List.mem_map.1 ht
                    obtain ⟨s1, s2, s3⟩ := args_small hR hk3 ha
                    obtain ⟨q', hq'⟩ := boolOf (FlatP a)
                    refine gives_code (f := tf328) rfl ?_
                    conv => whnf
                    refine ⟨_, _, isFlat_ok 0 a [] s2.1 ob _ q' hq', fun _ => rfl, ?_⟩
                    conv => whnf
                    refine ⟨rfl, bool_of hq ?_, rfl⟩
                    show (!q') = true ↔ ¬ FlatP a
                    rw [← hq']; cases q' <;> simp
                  conv => whnf
                  refine ⟨rfl, bool_of hr ?_, rfl⟩
                  rw [guard_iff ht hk3]
                  have hall : (!q2) = true ↔ ∀ a ∈ argsR (c :: r), FlatP a := by
                    constructor
                    · intro e a ha
                      have e : q2 = false := by simpa using e
                      refine Classical.byContradiction fun hn => ?_
                      have := hq2.2 ⟨T1.mk0 a, List.mem_map.2 ⟨a, ha, rfl⟩, hn⟩
                      rw [e] at this; cases this
                    · intro h
                      cases hq : q2 with
                      | false => rfl
                      | true =>
                        obtain ⟨t, ht, hn⟩ := hq2.1 hq
                        obtain ⟨a, ha, rfl⟩ := List.mem_map.1 ht
                        exact absurd (h a ha) hn
                  rw [hall]
                  have hop : GuardOp c := .inr ⟨g1, .inr g3⟩
                  exact ⟨fun h => .inr ⟨hop, h⟩, fun h => by rcases h with h | h; exact absurd ⟨h.1, h.2.1⟩ (op_not hop); exact h.2⟩
                · conv => whnf
                  have g3 : c.text ≠ unlikeS := str_ne g3
                  refine ⟨rfl, bool_of hr ⟨fun e => (nomatch e), fun h => ?_⟩, rfl⟩
                  exfalso
                  rcases (guard_iff ht hk3).1 h with h | h
                  · exact hn2 h.1
                  · rcases h.1 with h | h
                    · exact k2 h.2
                    · exact h.2.elim g2 g3
            · conv => whnf
              have g1 : c.n ≠ 2 := by simpa using g1
              refine ⟨rfl, bool_of hr ⟨fun e => (nomatch e), fun h => ?_⟩, rfl⟩
              exfalso
              rcases (guard_iff ht hk3).1 h with h | h
              · exact hn2 h.1
              · rcases h.1 with h | h
                · exact k2 h.2
                · exact g1 h.1
        · conv => whnf
          have k1 : c.n ≠ 1 := by simpa using k1
          refine sel_split (fun g1 => ?_) (fun g1 => ?_)
          · conv => whnf
            have g1 : c.n = 2 := by simpa using g1
            refine sel_split (fun g2 => ?_) (fun g2 => ?_)
            · conv => whnf
              have g2 : c.text = equalS := str_eq g2
              refine ⟨_, _, (args_ok lab (c :: r) sp hl hf ob _).le le14, fun _ => noRefM _ _, ?_⟩
              conv => whnf
              obtain ⟨q2, hq2⟩ := boolOf (∃ t ∈ (argsR (c :: r)).map T1.mk0, ¬ FlatP t.cs)
              refine ⟨_, _, any33p_ok 328 _ _ 0 _ ((argsR (c :: r)).map T1.mk0) [] (fun t => ¬ FlatP t.cs) (by rw [List.length_map]; have := argsR_len (c :: r); omega) (fun t ht ob pb q hq => ?_) ob _ q2 hq2, fun _ => rfl, ?_⟩
              · obtain ⟨a, ha, rfl⟩ := List.mem_map.1 ht
                obtain ⟨s1, s2, s3⟩ := args_small hR hk3 ha
                obtain ⟨q', hq'⟩ := boolOf (FlatP a)
                refine gives_code (f := tf328) rfl ?_
                conv => whnf
                refine ⟨_, _, isFlat_ok 0 a [] s2.1 ob _ q' hq', fun _ => rfl, ?_⟩
                conv => whnf
                refine ⟨rfl, bool_of hq ?_, rfl⟩
                show (!q') = true ↔ ¬ FlatP a
                rw [← hq']; cases q' <;> simp
              conv => whnf
              refine ⟨rfl, bool_of hr ?_, rfl⟩
              rw [guard_iff ht hk3]
              have hall : (!q2) = true ↔ ∀ a ∈ argsR (c :: r), FlatP a := by
                constructor
                · intro e a ha
                  have e : q2 = false := by simpa using e
                  refine Classical.byContradiction fun hn => ?_
                  have := hq2.2 ⟨T1.mk0 a, List.mem_map.2 ⟨a, ha, rfl⟩, hn⟩
                  rw [e] at this; cases this
                · intro h
                  cases hq : q2 with
                  | false => rfl
                  | true =>
                    obtain ⟨t, ht, hn⟩ := hq2.1 hq
                    obtain ⟨a, ha, rfl⟩ := List.mem_map.1 ht
                    exact absurd (h a ha) hn
              rw [hall]
              have hop : GuardOp c := .inr ⟨g1, .inl g2⟩
              exact ⟨fun h => .inr ⟨hop, h⟩, fun h => by rcases h with h | h; exact absurd ⟨h.1, h.2.1⟩ (op_not hop); exact h.2⟩
            · conv => whnf
              have g2 : c.text ≠ equalS := str_ne g2
              refine sel_split (fun g3 => ?_) (fun g3 => ?_)
              · conv => whnf
                have g3 : c.text = unlikeS := str_eq g3
                refine ⟨_, _, (args_ok lab (c :: r) sp hl hf ob _).le le14, fun _ => noRefM _ _, ?_⟩
                conv => whnf
                obtain ⟨q2, hq2⟩ := boolOf (∃ t ∈ (argsR (c :: r)).map T1.mk0, ¬ FlatP t.cs)
                refine ⟨_, _, any33p_ok 328 _ _ 0 _ ((argsR (c :: r)).map T1.mk0) [] (fun t => ¬ FlatP t.cs) (by rw [List.length_map]; have := argsR_len (c :: r); omega) (fun t ht ob pb q hq => ?_) ob _ q2 hq2, fun _ => rfl, ?_⟩
                · obtain ⟨a, ha, rfl⟩ := List.mem_map.1 ht
                  obtain ⟨s1, s2, s3⟩ := args_small hR hk3 ha
                  obtain ⟨q', hq'⟩ := boolOf (FlatP a)
                  refine gives_code (f := tf328) rfl ?_
                  conv => whnf
                  refine ⟨_, _, isFlat_ok 0 a [] s2.1 ob _ q' hq', fun _ => rfl, ?_⟩
                  conv => whnf
                  refine ⟨rfl, bool_of hq ?_, rfl⟩
                  show (!q') = true ↔ ¬ FlatP a
                  rw [← hq']; cases q' <;> simp
                conv => whnf
                refine ⟨rfl, bool_of hr ?_, rfl⟩
                rw [guard_iff ht hk3]
                have hall : (!q2) = true ↔ ∀ a ∈ argsR (c :: r), FlatP a := by
                  constructor
                  · intro e a ha
                    have e : q2 = false := by simpa using e
                    refine Classical.byContradiction fun hn => ?_
                    have := hq2.2 ⟨T1.mk0 a, List.mem_map.2 ⟨a, ha, rfl⟩, hn⟩
                    rw [e] at this; cases this
                  · intro h
                    cases hq : q2 with
                    | false => rfl
                    | true =>
                      obtain ⟨t, ht, hn⟩ := hq2.1 hq
                      obtain ⟨a, ha, rfl⟩ := List.mem_map.1 ht
                      exact absurd (h a ha) hn
                rw [hall]
                have hop : GuardOp c := .inr ⟨g1, .inr g3⟩
                exact ⟨fun h => .inr ⟨hop, h⟩, fun h => by rcases h with h | h; exact absurd ⟨h.1, h.2.1⟩ (op_not hop); exact h.2⟩
              · conv => whnf
                have g3 : c.text ≠ unlikeS := str_ne g3
                refine ⟨rfl, bool_of hr ⟨fun e => (nomatch e), fun h => ?_⟩, rfl⟩
                exfalso
                rcases (guard_iff ht hk3).1 h with h | h
                · exact hn2 h.1
                · rcases h.1 with h | h
                  · exact k1 h.1
                  · exact h.2.elim g2 g3
          · conv => whnf
            have g1 : c.n ≠ 2 := by simpa using g1
            refine ⟨rfl, bool_of hr ⟨fun e => (nomatch e), fun h => ?_⟩, rfl⟩
            exfalso
            rcases (guard_iff ht hk3).1 h with h | h
            · exact hn2 h.1
            · rcases h.1 with h | h
              · exact k1 h.1
              · exact g1 h.1
end Tree
