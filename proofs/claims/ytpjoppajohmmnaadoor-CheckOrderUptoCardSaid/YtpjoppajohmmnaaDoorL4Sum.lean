/- Layer 4: sums, guards, calls, goals. -/
import Derived.Test.YtpjoppajohmmnaaDoorL4Fn
set_option autoImplicit false
set_option linter.unusedVariables false
set_option linter.unusedSimpArgs false
namespace Tree
open Go
set_option maxHeartbeats 4000000
set_option maxRecDepth 100000
def bs (l : List Nat) : ByteArray := ⟨(l.map (UInt8.ofNat ·)).toArray⟩
def twos : List ByteArray := [⟨#[43]⟩, ⟨#[45]⟩, ⟨#[42]⟩, ⟨#[100, 105, 118]⟩, ⟨#[109, 111, 100]⟩, ⟨#[109, 105, 110]⟩, ⟨#[109, 97, 120]⟩]
def absS : ByteArray := ⟨#[97, 98, 115]⟩
def SumOp (c : C) : Prop := (c.text ∈ twos ∧ c.n = 2) ∨ (c.text = absS ∧ c.n = 1)
inductive SumP : List C → Prop
  | leaf {c : C} {r : List C} (h : c.k = 1 ∨ c.k = 4) : SumP (c :: r)
  | op {c : C} {r : List C} (hk : c.k = 3) (ho : SumOp c) (ha : ∀ a ∈ argsR (c :: r), SumP a) : SumP (c :: r)
theorem sum_iff {c : C} {r : List C} : SumP (c :: r) ↔ (c.k = 1 ∨ c.k = 4) ∨ (c.k = 3 ∧ SumOp c ∧ ∀ a ∈ argsR (c :: r), SumP a) := by
  constructor
  · intro h
    cases h with
    | leaf h => exact .inl h
    | op h1 h2 h3 => exact .inr ⟨h1, h2, h3⟩
  · rintro (h | ⟨h1, h2, h3⟩)
    · exact .leaf h
    · exact .op h1 h2 h3
theorem args_small {c : C} {r : List C} (h : RightP (c :: r)) (hk : c.k = 3) {a : List C} (ha : a ∈ argsR (c :: r)) : a.length < (c :: r).length ∧ RightP a ∧ ∀ d ∈ a, d ∈ c :: r := by
  obtain ⟨f1, f2, f3, f4⟩ := args_facts h hk
  refine ⟨?_, f4 a ha, fun d hd => List.mem_cons_of_mem _ (by rw [← f3]; exact List.mem_flatten.2 ⟨a, ha, hd⟩)⟩
  have : a.length ≤ (argsR (c :: r)).flatten.length := by
    have hs : ∀ (l : List (List C)), a ∈ l → a.length ≤ l.flatten.length := by
      intro l
      induction l with
      | nil => intro h; cases h
      | cons x l ih =>
        intro h
        simp only [List.flatten_cons, List.length_append]
        rcases List.mem_cons.1 h with rfl | h
        · omega
        · have := ih h; omega
    exact hs _ ha
  rw [f3] at this
  simp only [List.length_cons]; omega
theorem argsR_len (cs : List C) : (argsR cs).length ≤ 8 := by
  by_cases h : StructP cs
  · obtain ⟨hR, c, r, rfl, hk⟩ := h
    obtain ⟨_, _, _, h4⟩ := (right_walk _).1 hR
    rw [(args_facts hR hk).2.1]
    exact (ok_parts (h4 c (List.mem_cons_self ..))).2
  · unfold argsR; rw [if_neg h]; simp

theorem isSum_ok : ∀ (n : Nat) (lab : Nat) (cs : List C) (sp : List (List LV)), cs.length ≤ n → RightP cs → (∀ c ∈ cs, c.fine) → ∀ (ob : Obs) (pb : Nat) (r : Bool), (r = true ↔ SumP cs) → Gives env4 301 [sl5 false lab cs sp] ob pb (.bool r, ob)
  | 0, lab, cs, sp, hn, hR, _, ob, pb, r, _ => by
    have := hR.1
    cases cs with
    | nil => exact absurd rfl this
    | cons c r => simp at hn
  | n + 1, lab, [], sp, hn, hR, _, ob, pb, r, _ => absurd rfl hR.1
  | n + 1, lab, c :: r, sp, hn, hR, hf, ob, pb, res, hr => by
    have hl : (c :: r).length ≤ 4611686018427387904 := by have := hR.2.1; omega
    refine gives_code (f := tf301) rfl ?_
    conv => whnf
    refine ⟨_, ⟨by omega, idx_row (cs := c :: r) (i := 0) rfl⟩, ?_⟩
    conv => whnf
    refine sel_split (fun h1 => ?_) (fun h1 => ?_)
    · conv => whnf
      have h1 : c.k = 1 := by simpa using h1
      exact ⟨rfl, bool_of hr ⟨fun _ => .leaf (.inl h1), fun _ => rfl⟩, rfl⟩
    · conv => whnf
      have h1 : c.k ≠ 1 := by simpa using h1
      refine sel_split (fun h2 => ?_) (fun h2 => ?_)
      · conv => whnf
        have h2 : c.k = 4 := by simpa using h2
        exact ⟨rfl, bool_of hr ⟨fun _ => .leaf (.inr h2), fun _ => rfl⟩, rfl⟩
      · conv => whnf
        have h2 : c.k ≠ 4 := by simpa using h2
        refine sel_split (fun h3 => ?_) (fun h3 => ?_)
        · have hk3 : c.k = 3 := by simpa using h3
          have hany : ∀ (ob : Obs) (pb : Nat) (r' : Bool), (r' = true ↔ ∃ t ∈ (argsR (c :: r)).map T1.mk0, ¬ SumP t.cs) → Gives env4 33 [sl1 false 0 ((argsR (c :: r)).map T1.mk0) [], .fn 326 []] ob pb (.bool r', ob) := by
            intro ob pb r' hr'
            refine any33_ok 326 0 ((argsR (c :: r)).map T1.mk0) [] (fun t => ¬ SumP t.cs) (by rw [List.length_map]; have := argsR_len (c :: r); omega) (fun t ht ob pb q hq => ?_) ob pb r' hr'
            obtain ⟨a, ha, rfl⟩ := List.mem_map.1 ht
            obtain ⟨s1, s2, s3⟩ := args_small hR hk3 ha
            obtain ⟨q', hq'⟩ := boolOf (SumP a)
            refine gives_code (f := tf326) rfl ?_
            conv => whnf
            refine ⟨_, _, isSum_ok n 0 a [] (by omega) s2 (fun d hd => hf d (s3 d hd)) ob _ q' hq', fun _ => rfl, ?_⟩
            conv => whnf
            refine ⟨rfl, bool_of hq ?_, rfl⟩
            show (!q') = true ↔ ¬ SumP a
            rw [← hq']; cases q' <;> simp
          conv => whnf
          obtain ⟨q, hq⟩ := boolOf (c.text ∈ twos)
          obtain ⟨q2, hq2⟩ := boolOf (∃ t ∈ (argsR (c :: r)).map T1.mk0, ¬ SumP t.cs)
          refine ⟨_, _, (hasStr_ok 0 twos c.text (by decide) ob _ q hq).le le14, fun _ => rfl, ?_⟩
          conv => whnf
          refine sel_split (fun h6 => ?_) (fun h6 => ?_)
          · conv => whnf
            refine sel_split (fun h7 => ?_) (fun h7 => ?_)
            · conv => whnf
              have h7 : c.n = 2 := by simpa using h7
              refine ⟨_, _, (args_ok lab (c :: r) sp hl hf ob _).le le14, fun _ => noRefM _ _, ?_⟩
              conv => whnf
              refine ⟨_, _, hany ob _ q2 hq2, fun _ => rfl, ?_⟩
              conv => whnf
              refine ⟨rfl, bool_of hr ?_, rfl⟩
              rw [sum_iff]
              constructor
              · intro e
                have e : q2 = false := by simpa using e
                refine .inr ⟨hk3, .inl ⟨hq.1 h6, h7⟩, fun a ha => Classical.byContradiction fun hn => ?_⟩
                have := hq2.2 ⟨T1.mk0 a, List.mem_map.2 ⟨a, ha, rfl⟩, hn⟩
                rw [e] at this; cases this
              · rintro (h | ⟨_, _, h⟩)
                · omega
                · have : q2 = false := by
                    cases hq : q2 with
                    | false => rfl
                    | true =>
                      obtain ⟨t, ht, hn⟩ := hq2.1 hq
                      obtain ⟨a, ha, rfl⟩ := List.mem_map.1 ht
                      exact absurd (h a ha) hn
                  rw [this]; rfl
            · conv => whnf
              have h7 : c.n ≠ 2 := by simpa using h7
              refine sel_split (fun h4 => ?_) (fun h4 => ?_)
              · conv => whnf
                have h4 : c.text = absS := by
                  have := eq_of_beq h4
                  exact bytes_eq.1 this
                refine sel_split (fun h5 => ?_) (fun h5 => ?_)
                · conv => whnf
                  have h5 : c.n = 1 := by simpa using h5
                  refine ⟨_, _, (args_ok lab (c :: r) sp hl hf ob _).le le14, fun _ => noRefM _ _, ?_⟩
                  conv => whnf
                  refine ⟨_, _, hany ob _ q2 hq2, fun _ => rfl, ?_⟩
                  conv => whnf
                  refine ⟨rfl, bool_of hr ?_, rfl⟩
                  rw [sum_iff]
                  constructor
                  · intro e
                    have e : q2 = false := by simpa using e
                    refine .inr ⟨hk3, .inr ⟨h4, h5⟩, fun a ha => Classical.byContradiction fun hn => ?_⟩
                    have := hq2.2 ⟨T1.mk0 a, List.mem_map.2 ⟨a, ha, rfl⟩, hn⟩
                    rw [e] at this; cases this
                  · rintro (h | ⟨_, _, h⟩)
                    · omega
                    · have : q2 = false := by
                        cases hq : q2 with
                        | false => rfl
                        | true =>
                          obtain ⟨t, ht, hn⟩ := hq2.1 hq
                          obtain ⟨a, ha, rfl⟩ := List.mem_map.1 ht
                          exact absurd (h a ha) hn
                      rw [this]; rfl
                · conv => whnf
                  have h5 : c.n ≠ 1 := by simpa using h5
                  refine ⟨rfl, bool_of hr ⟨fun e => (nomatch e), fun h => ?_⟩, rfl⟩
                  exfalso
                  rcases sum_iff.1 h with h | ⟨_, h, _⟩
                  · omega
                  · rcases h with h | h
                    · exact h7 h.2
                    · exact h5 h.2
              · conv => whnf
                have h4 : c.text ≠ absS := fun e => by
                  have : (c.text.toList == absS.toList) = true := by rw [beq_iff_eq, bytes_eq]; exact e
                  have h4 : (c.text.toList == absS.toList) = false := h4
                  rw [this] at h4; cases h4
                refine ⟨rfl, bool_of hr ⟨fun e => (nomatch e), fun h => ?_⟩, rfl⟩
                exfalso
                rcases sum_iff.1 h with h | ⟨_, h, _⟩
                · omega
                · rcases h with h | h
                  · exact h7 h.2
                  · exact h4 h.1
          · conv => whnf
            have h6 : c.text ∉ twos := fun hm => by rw [hq.2 hm] at h6; cases h6
            refine sel_split (fun h4 => ?_) (fun h4 => ?_)
            · conv => whnf
              have h4 : c.text = absS := by
                have := eq_of_beq h4
                exact bytes_eq.1 this
              refine sel_split (fun h5 => ?_) (fun h5 => ?_)
              · conv => whnf
                have h5 : c.n = 1 := by simpa using h5
                refine ⟨_, _, (args_ok lab (c :: r) sp hl hf ob _).le le14, fun _ => noRefM _ _, ?_⟩
                conv => whnf
                refine ⟨_, _, hany ob _ q2 hq2, fun _ => rfl, ?_⟩
                conv => whnf
                refine ⟨rfl, bool_of hr ?_, rfl⟩
                rw [sum_iff]
                constructor
                · intro e
                  have e : q2 = false := by simpa using e
                  refine .inr ⟨hk3, .inr ⟨h4, h5⟩, fun a ha => Classical.byContradiction fun hn => ?_⟩
                  have := hq2.2 ⟨T1.mk0 a, List.mem_map.2 ⟨a, ha, rfl⟩, hn⟩
                  rw [e] at this; cases this
                · rintro (h | ⟨_, _, h⟩)
                  · omega
                  · have : q2 = false := by
                      cases hq : q2 with
                      | false => rfl
                      | true =>
                        obtain ⟨t, ht, hn⟩ := hq2.1 hq
                        obtain ⟨a, ha, rfl⟩ := List.mem_map.1 ht
                        exact absurd (h a ha) hn
                    rw [this]; rfl
              · conv => whnf
                have h5 : c.n ≠ 1 := by simpa using h5
                refine ⟨rfl, bool_of hr ⟨fun e => (nomatch e), fun h => ?_⟩, rfl⟩
                exfalso
                rcases sum_iff.1 h with h | ⟨_, h, _⟩
                · omega
                · rcases h with h | h
                  · exact h6 h.1
                  · exact h5 h.2
            · conv => whnf
              have h4 : c.text ≠ absS := fun e => by
                have : (c.text.toList == absS.toList) = true := by rw [beq_iff_eq, bytes_eq]; exact e
                have h4 : (c.text.toList == absS.toList) = false := h4
                rw [this] at h4; cases h4
              refine ⟨rfl, bool_of hr ⟨fun e => (nomatch e), fun h => ?_⟩, rfl⟩
              exfalso
              rcases sum_iff.1 h with h | ⟨_, h, _⟩
              · omega
              · rcases h with h | h
                · exact h6 h.1
                · exact h4 h.1
        · conv => whnf
          have h3 : c.k ≠ 3 := by simpa using h3
          refine ⟨rfl, bool_of hr ⟨fun e => (nomatch e), fun h => ?_⟩, rfl⟩
          exfalso
          rcases sum_iff.1 h with h | ⟨h, _⟩
          · omega
          · exact h3 h
end Tree
