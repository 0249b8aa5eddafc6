/- Layer 4: the law CheckOrder, what E answers. -/
import Derived.Test.YtpjoppajohmmnaaDoorTLc
import Derived.Test.YtpjoppajohmmnaaDoorTLb
set_option autoImplicit false
set_option linter.unusedVariables false
set_option linter.unusedSimpArgs false
namespace Tree
open Go
set_option maxHeartbeats 4000000
set_option maxRecDepth 100000
theorem gives_same {E : Env} {g g' : Nat} {f : TFn} {args : List LV} {ob : Obs} {pb : Nat} {r : LV × Obs} (h : E.fns g = some (.code f)) (h' : E.fns g' = some (.code f)) (hg : Gives E g args ob pb r) : Gives E g' args ob pb r := by
  obtain ⟨n, hn⟩ := hg
  refine ⟨n, ?_⟩
  cases n with
  | zero => simp [call] at hn
  | succ n => rw [call, h] at hn; rw [call, h']; exact hn
theorem refIs_ok (lab : Nat) (cs : List C) (sp : List (List LV)) (s : ByteArray) (n : Int) (ob : Obs) (pb : Nat) (r : Bool) (hr : r = true ↔ IsP cs s n) : Gives env4 256 [sl5 false lab cs sp, .str s, .int .i64 n] ob pb (.bool r, ob) :=
  gives_same (g := 312) (f := tf312) rfl rfl (is_ok lab cs sp s n ob pb r hr)
end Tree

set_option autoImplicit false
set_option linter.unusedVariables false
set_option linter.unusedSimpArgs false
namespace Tree
open Go
set_option maxHeartbeats 4000000
set_option maxRecDepth 100000
theorem isP_cons {c : C} {r : List C} {s : ByteArray} {n : Int} : IsP (c :: r) s n ↔ c.text = s ∧ (c.k = 3 ∧ c.n = n ∨ n = 0 ∧ c.k = 2) :=
  ⟨fun ⟨_, _, e, h⟩ => by cases e; exact h, fun h => ⟨c, r, rfl, h⟩⟩
theorem okC_kinds {c : C} (h : okC c) : (c.k = 1 ∨ c.k = 2 ∨ c.k = 3 ∨ c.k = 4) ∧ (c.k = 2 → NameP c.text.data.toList) ∧ (c.k = 3 → 1 ≤ c.n) := by
  unfold okC at h
  rcases h with h | h | h | h
  · exact ⟨.inl h.1, fun e => by omega, fun e => by omega⟩
  · exact ⟨.inr (.inl h.1), fun _ => h.2.1, fun e => by omega⟩
  · exact ⟨.inr (.inr (.inl h.1)), fun e => by omega, fun _ => by rcases h.2.2 with g | g <;> omega⟩
  · exact ⟨.inr (.inr (.inr h.1)), fun e => by omega, fun e => by omega⟩
theorem right_kinds {c : C} {r : List C} (h : RightP (c :: r)) : (c.k = 1 ∨ c.k = 2 ∨ c.k = 3 ∨ c.k = 4) ∧ (c.k = 2 → NameP c.text.data.toList) ∧ (c.k = 3 → 1 ≤ c.n) :=
  okC_kinds (((right_walk _).1 h).2.2.2 c (List.mem_cons_self ..))
theorem refArgs_ok (lab : Nat) (cs : List C) (sp : List (List LV)) (hl : cs.length ≤ 4611686018427387904) (hf : ∀ c ∈ cs, c.fine) (ob : Obs) (pb : Nat) : Gives env1 29 [sl5 false lab cs sp] ob pb (sl1 true 0 ((argsR cs).map T1.mk0) [], ob) := by
  have hlen : (cs.map C.row).length = cs.length := by simp
  obtain ⟨q, hq⟩ := boolOf (RightP cs)
  have no : ¬ StructP cs → argsR cs = [] := fun h => by unfold argsR; rw [if_neg h]
  refine gives_code (f := tf29) rfl ?_
  conv => whnf
  refine ⟨_, _, refRight_ok lab cs sp hl hf ob _ q hq, fun _ => rfl, ?_⟩
  conv => whnf
  refine sel_split (fun h1 => ?_) (fun h1 => ?_)
  · conv => whnf
    have h1 : q = false := by simpa using h1
    refine ⟨rfl, ?_, rfl⟩
    rw [no (fun h => by have := hq.2 h.1; rw [h1] at this; cases this)]; rfl
  · conv => whnf
    have h1 : q = true := by simpa using h1
    have hR := hq.1 h1
    obtain ⟨c, r, rfl⟩ : ∃ c r, cs = c :: r := by
      cases cs with
      | nil => exact absurd rfl hR.1
      | cons c r => exact ⟨c, r, rfl⟩
    refine ⟨_, ⟨by omega, idx_row (cs := c :: r) (i := 0) rfl⟩, ?_⟩
    conv => whnf
    refine sel_split (fun h2 => ?_) (fun h2 => ?_)
    · conv => whnf
      have h2 : c.k ≠ 3 := by simpa using h2
      refine ⟨rfl, ?_, rfl⟩
      rw [no (fun h => by
        obtain ⟨_, c', r', e, hk⟩ := h
        injection e with e1 e2
        subst e1; exact h2 hk)]; rfl
    · conv => whnf
      have hk : c.k = 3 := by simpa using h2
      obtain ⟨f1, f2, f3, f4⟩ := args_facts hR hk
      obtain ⟨g1, g2, g3, g4⟩ := struct_facts hR hk
      obtain ⟨_, q2, _, q4⟩ := (right_walk _).1 hR
      refine loop_abs (ι := Nat × Nat × List (List C)) (S := fun p => S17 (sl5 false lab (c :: r) sp) (sl1 true 0 (p.2.2.map T1.mk0) []) p.1 ob) (m := fun p => (c :: r).length - p.1)
        (P := fun p => 1 ≤ p.1 ∧ p.1 ≤ (c :: r).length ∧ walk ((c :: r).drop p.1) p.2.1 = some [] ∧ p.2.2 ++ splitW p.2.1 ((c :: r).drop p.1) = argsR (c :: r)) ?_ (1, ar c, []) ⟨Nat.le_refl _, by simp, by simpa using g1, by simpa using f1.symm⟩ rfl
      rintro R ⟨a, m, done⟩ ⟨h3, h4, h5, h6⟩ hN hE hRt
      simp only at h3 h4 h5 h6
      conv => whnf
      refine sel_split (fun h => ?_) (fun h => ?_)
      · conv => whnf
        have h := of_decide_eq_true h
        rw [hlen] at h
        have halt : a < (c :: r).length := by omega
        obtain ⟨m', rfl⟩ : ∃ m', m = m' + 1 := by
          cases m with
          | zero =>
            rw [walk_zero] at h5
            have := congrArg (Option.map List.length) h5
            simp only [Option.map_some, Option.some.injEq, List.length_drop, List.length_nil] at this
            omega
          | succ m => exact ⟨m, rfl⟩
        rw [Nat.add_comm, walk_add] at h5
        obtain ⟨rest, w1, w2⟩ := Option.bind_eq_some_iff.1 h5
        obtain ⟨d1, d2, d3⟩ := drop_split w1 h4
        have hend : endE (c :: r) (a : Int) = ((a + (((c :: r).drop a).length - rest.length) : Nat) : Int) := by
          unfold endE
          rw [if_neg (by omega)]
          have : ((a : Int)).toNat = a := by omega
          rw [this]
          have := scan_walk (c :: r).length ((c :: r).drop a) 1 a (fun d hd => q4 d (List.mem_of_mem_drop hd)) (by simp only [List.length_drop]; omega) (by simp only [List.length_drop]; omega)
          rw [w1] at this
          exact this
        obtain ⟨b, hb⟩ : ∃ b, b = a + (((c :: r).drop a).length - rest.length) := ⟨_, rfl⟩
        rw [← hb] at hend d1 d2 d3
        have hsp : splitW (m' + 1) ((c :: r).drop a) = ((c :: r).drop a).take (b - a) :: splitW m' ((c :: r).drop b) := by
          simp only [splitW, w1]
          rw [← d1]
          congr 2; omega
        refine ⟨_, _, refEnd_ok lab (c :: r) sp a (by omega) ob _, fun _ => rfl, ?_⟩
        conv => whnf
        refine ⟨(((c :: r).drop a).take (b - a)).map C.row, ((c :: r).drop b).map C.row ++ sp, ⟨⟨by omega, ?_, ?_⟩, ?_, ?_⟩, ?_⟩
        · show (a : Int) ≤ endE (c :: r) a
          rw [hend]; omega
        · show endE (c :: r) a ≤ _
          rw [hend]; simp only [List.length_append, hlen]; omega
        · show _ = (((c :: r).map C.row ++ sp).take (endE (c :: r) a).toNat).drop (a : Int).toNat
          rw [hend]
          have e1 : ((b : Nat) : Int).toNat = b := by omega
          have e2 : ((a : Nat) : Int).toNat = a := by omega
          rw [e1, e2, List.take_append_of_le_length (by rw [hlen]; omega), ← List.map_take, ← List.map_drop, List.drop_take]
        · show _ = ((c :: r).map C.row ++ sp).drop (endE (c :: r) a).toNat
          rw [hend]
          have e1 : ((b : Nat) : Int).toNat = b := by omega
          rw [e1, List.drop_append_of_le_length (by rw [hlen]; omega), List.map_drop]
        conv => whnf
        have h256 : (((c :: r).drop a).take (b - a)).length ≤ 256 := by simp only [List.length_take, List.length_drop]; omega
        refine ⟨_, _, copied_ok lab (((c :: r).drop a).take (b - a)) (((c :: r).drop b).map C.row ++ sp) (by omega) ob _, fun _ => noRef5 _ _ _ _, ?_⟩
        conv => whnf
        have hdone : done.length ≤ 256 := by
          have := congrArg List.length h6
          rw [f2, List.length_append] at this
          have := (ok_parts (q4 c (List.mem_cons_self ..))).2
          omega
        refine ⟨((done ++ [((c :: r).drop a).take (b - a)]).map T1.mk0).map T1.row, ⟨.inl rfl, ?_, ?_⟩, ?_⟩
        · show (((done.map T1.mk0).map T1.row).length + 1) * 24 ≤ _
          simp only [List.length_map]; omega
        · simp only [List.map_append]; rfl
        conv => whnf
        refine hN (b, m', done ++ [((c :: r).drop a).take (b - a)]) _ ⟨by omega, d3, ?_, ?_⟩ (by show (c :: r).length - b < (c :: r).length - a; omega) ?_
        · rw [← d1]; exact w2
        · rw [List.append_assoc, ← h6, hsp]; rfl
        · show _ = S17 _ _ ((b : Nat) : Int) ob
          rw [← hend]; rfl
      · conv => whnf
        have h := of_decide_eq_false h
        rw [hlen] at h
        have : a = (c :: r).length := by omega
        subst this
        refine hE _ _ ?_
        conv => whnf
        refine ⟨rfl, ?_, rfl⟩
        rw [List.drop_length] at h5 h6
        have := walk_nil h5
        subst this
        simp only [splitW, List.append_nil] at h6
        rw [h6]; rfl
theorem refCall_ok (lab : Nat) (cs : List C) (sp : List (List LV)) (hR : RightP cs) (hf : ∀ c ∈ cs, c.fine) (ob : Obs) (pb : Nat) (r : Bool) (hr : r = true ↔ (CalP cs ∧ ¬ IsP cs trueS 0)) : Gives env4 329 [sl5 false lab cs sp] ob pb (.bool r, ob) := by
  obtain ⟨c, t, rfl⟩ := right_cons hR
  obtain ⟨k1, k2, k3⟩ := right_kinds hR
  rw [call_cons, isP_cons] at hr
  unfold trueS at hr
  obtain ⟨q, hq⟩ := boolOf (NameP c.text.data.toList)
  have gN : ∀ ob pb, Gives env4 4 [.str c.text] ob pb (.bool q, ob) := fun ob pb => (refIsName_ok c.text (hf c (List.mem_cons_self ..)).1 ob pb q hq).le le14
  refine gives_code (f := tf329) rfl ?_
  conv => whnf
  repeat' first
    | (refine sel_split (fun _ => ?_) (fun _ => ?_) <;> conv => whnf)
    | (refine ⟨_, ⟨by omega, idx_row (cs := c :: t) (i := 0) rfl⟩, ?_⟩; conv => whnf)
    | (refine ⟨_, _, gN _ _, fun _ => rfl, ?_⟩; conv => whnf)
  all_goals
    refine ⟨rfl, bool_of hr ?_, rfl⟩
    simp only [beq_iff_eq, beq_eq_false_iff_ne, ne_eq, bytes_eq, Bool.not_eq_true', Bool.not_eq_false', decide_eq_true_eq, decide_eq_false_iff_not] at *
    grind
theorem args_n {c : C} {r : List C} (hR : RightP (c :: r)) (hk : c.k = 3) : ((argsR (c :: r)).length : Int) = c.n := by
  have h1 := (args_facts hR hk).2.1
  have h2 := (ok_parts (((right_walk _).1 hR).2.2.2 c (List.mem_cons_self ..)))
  have h3 := (right_kinds hR).2.2 hk
  have h4 := h2.1
  unfold partsC at h4
  rw [if_pos hk] at h4
  rw [h1]; omega
theorem refSum_ok : ∀ (n : Nat) (lab : Nat) (cs : List C) (sp : List (List LV)), cs.length ≤ n → RightP cs → (∀ c ∈ cs, c.fine) → ∀ (ob : Obs) (pb : Nat) (r : Bool), (r = true ↔ SumP cs) → Gives env4 302 [sl5 false lab cs sp] ob pb (.bool r, ob)
  | 0, lab, cs, sp, hn, hR, _, ob, pb, r, _ => by
    have := hR.1
    cases cs with
    | nil => exact absurd rfl this
    | cons c r => simp at hn
  | n + 1, lab, [], sp, hn, hR, _, ob, pb, r, _ => absurd rfl hR.1
  | n + 1, lab, c :: t, sp, hn, hR, hf, ob, pb, r, hr => by
    have hl : (c :: t).length ≤ 4611686018427387904 := by have := hR.2.1; omega
    obtain ⟨k1, k2, k3⟩ := right_kinds hR
    have hno : c.k ≠ 3 → argsR (c :: t) = [] := fun h => by
      unfold argsR; rw [if_neg]
      rintro ⟨_, c', r', e, hk⟩
      injection e with e1 e2; subst e1; exact h hk
    have hn' := args_n hR
    have gS : c.k = 3 → ∀ a ∈ argsR (c :: t), ∃ q, (q = true ↔ SumP a) ∧ ∀ ob pb, Gives env4 302 [sl5 false 0 a []] ob pb (.bool q, ob) := fun hk a ha => by
      obtain ⟨s1, s2, s3⟩ := args_small hR hk ha
      obtain ⟨q, hq⟩ := boolOf (SumP a)
      exact ⟨q, hq, fun ob pb => refSum_ok n 0 a [] (by omega) s2 (fun d hd => hf d (s3 d hd)) ob pb q hq⟩
    rw [sum_iff] at hr
    unfold SumOp twos absS at hr
    refine gives_code (f := tf302) rfl ?_
    conv => whnf
    refine ⟨_, _, (refArgs_ok lab (c :: t) sp hl hf ob _).le le14, fun _ => noRefM _ _, ?_⟩
    generalize argsR (c :: t) = l at hno hn' gS hr ⊢
    conv => whnf
    refine ⟨_, ⟨by omega, idx_row (cs := c :: t) (i := 0) rfl⟩, ?_⟩
    conv => whnf
    refine sel_split (fun h1 => ?_) (fun h1 => ?_)
    · conv => whnf
      refine ⟨rfl, bool_of hr ?_, rfl⟩
      simp only [beq_iff_eq, beq_eq_false_iff_ne, ne_eq, bytes_eq, Bool.not_eq_true', Bool.not_eq_false', decide_eq_true_eq, decide_eq_false_iff_not] at *
      grind
    · conv => whnf
      refine sel_split (fun h2 => ?_) (fun h2 => ?_)
      · conv => whnf
        refine ⟨rfl, bool_of hr ?_, rfl⟩
        simp only [beq_iff_eq, beq_eq_false_iff_ne, ne_eq, bytes_eq, Bool.not_eq_true', Bool.not_eq_false', decide_eq_true_eq, decide_eq_false_iff_not] at *
        grind
      · conv => whnf
        refine sel_split (fun h3 => ?_) (fun h3 => ?_)
        · conv => whnf
          refine ⟨rfl, bool_of hr ?_, rfl⟩
          simp only [beq_iff_eq, beq_eq_false_iff_ne, ne_eq, bytes_eq, Bool.not_eq_true', Bool.not_eq_false', decide_eq_true_eq, decide_eq_false_iff_not] at *
          grind
        · have hk3 : c.k = 3 := by simpa using h3
          have hn3 := hn' hk3
          have gS := gS hk3
          match l, hn3, gS, hr with
          | [], hn3, gS, hr => exact absurd (k3 hk3) (by simp at hn3; omega)
          | [a], hn3, gS, hr =>
            obtain ⟨q, hq, ga⟩ := gS a (List.mem_cons_self ..)
            simp only [List.mem_singleton, forall_eq, List.length_cons, List.length_nil] at hr hn3
            conv => whnf
            repeat' first
              | (refine sel_split (fun _ => ?_) (fun _ => ?_) <;> conv => whnf)
              | (refine ⟨_, ⟨by omega, idx_t (ts := [a].map T1.mk0) (i := 0) rfl⟩, ?_⟩; conv => whnf)
              | (refine ⟨_, _, ga _ _, fun _ => rfl, ?_⟩; conv => whnf)
            all_goals
              refine ⟨rfl, bool_of hr ?_, rfl⟩
              simp only [beq_iff_eq, beq_eq_false_iff_ne, ne_eq, bytes_eq, Bool.not_eq_true', Bool.not_eq_false', decide_eq_true_eq, decide_eq_false_iff_not] at *
              grind
          | [a, b], hn3, gS, hr =>
            obtain ⟨q, hq, ga⟩ := gS a (List.mem_cons_self ..)
            obtain ⟨p, hp, gb⟩ := gS b (List.mem_cons_of_mem _ (List.mem_cons_self ..))
            simp only [List.mem_cons, List.not_mem_nil, or_false, forall_eq_or_imp, forall_eq, List.length_cons, List.length_nil] at hr hn3
            conv => whnf
            repeat' first
              | (refine sel_split (fun _ => ?_) (fun _ => ?_) <;> conv => whnf)
              | (refine ⟨_, ⟨by omega, idx_t (ts := [a, b].map T1.mk0) (i := 0) rfl⟩, ?_⟩; conv => whnf)
              | (refine ⟨_, ⟨by omega, idx_t (ts := [a, b].map T1.mk0) (i := 1) rfl⟩, ?_⟩; conv => whnf)
              | (refine ⟨_, _, ga _ _, fun _ => rfl, ?_⟩; conv => whnf)
              | (refine ⟨_, _, gb _ _, fun _ => rfl, ?_⟩; conv => whnf)
            all_goals
              refine ⟨rfl, bool_of hr ?_, rfl⟩
              simp only [beq_iff_eq, beq_eq_false_iff_ne, ne_eq, bytes_eq, Bool.not_eq_true', Bool.not_eq_false', decide_eq_true_eq, decide_eq_false_iff_not] at *
              grind
          | a :: b :: d :: l, hn3, gS, hr =>
            simp only [List.length_cons] at hn3
            have hlen : ((a :: b :: d :: l).map T1.mk0 |>.map T1.row).length = l.length + 3 := by simp
            conv => whnf
            refine ⟨rfl, bool_of hr ?_, rfl⟩
            simp only [beq_iff_eq, beq_eq_false_iff_ne, ne_eq, bytes_eq, Bool.not_eq_true', Bool.not_eq_false', decide_eq_true_eq, decide_eq_false_iff_not] at *
            grind
end Tree

set_option autoImplicit false
set_option linter.unusedVariables false
set_option linter.unusedSimpArgs false
namespace Tree
open Go
set_option maxHeartbeats 4000000
set_option maxRecDepth 100000
theorem simple_ok (lab : Nat) (cs : List C) (sp : List (List LV)) (hR : cs ≠ []) (ob : Obs) (pb : Nat) (r : Bool) (hr : r = true ↔ FlatP cs) : Gives env4 304 [sl5 false lab cs sp] ob pb (.bool r, ob) :=
  gives_same (g := 327) (f := tf327) rfl rfl (isFlat_ok lab cs sp hR ob pb r hr)
theorem guardP_cons {c : C} {r : List C} : GuardP (c :: r) ↔ IsP (c :: r) trueS 0 ∨ (c.k = 3 ∧ ((c.n = 2 ∧ c.text ∈ comps ∧ ∀ a ∈ argsR (c :: r), SumP a) ∨ (GuardOp c ∧ ∀ a ∈ argsR (c :: r), FlatP a))) := by
  constructor
  · rintro (h | ⟨c', r', e, h⟩)
    · exact .inl h
    · cases e; exact .inr h
  · rintro (h | h)
    · exact .inl h
    · exact .inr ⟨c, r, rfl, h⟩
theorem refGuard_ok (lab : Nat) (cs : List C) (sp : List (List LV)) (hl : cs.length ≤ 4611686018427387904) (hf : ∀ c ∈ cs, c.fine) (ob : Obs) (pb : Nat) (r : Bool) (hr : r = true ↔ RightP cs ∧ GuardP cs) : Gives env4 283 [sl5 false lab cs sp] ob pb (.bool r, ob) := by
  obtain ⟨q, hq⟩ := boolOf (RightP cs)
  refine gives_code (f := tf283) rfl ?_
  conv => whnf
  refine ⟨_, _, (refRight_ok lab cs sp hl hf ob _ q hq).le le14, fun _ => rfl, ?_⟩
  conv => whnf
  refine sel_split (fun h => ?_) (fun h => ?_)
  · conv => whnf
    have h : q = false := by simpa using h
    refine ⟨rfl, bool_of hr ?_, rfl⟩
    rw [← hq]; simp [h]
  · conv => whnf
    have h : q = true := by simpa using h
    have hR := hq.1 h
    replace hr : r = true ↔ GuardP cs := hr.trans ⟨fun h => h.2, fun h => ⟨hR, h⟩⟩
    obtain ⟨c, t, rfl⟩ := right_cons hR
    obtain ⟨k1, k2, k3⟩ := right_kinds hR
    have hno : c.k ≠ 3 → argsR (c :: t) = [] := fun h => by
      unfold argsR; rw [if_neg]
      rintro ⟨_, c', r', e, hk⟩
      injection e with e1 e2; subst e1; exact h hk
    have hn' := args_n hR
    obtain ⟨b, hb⟩ := boolOf (IsP (c :: t) trueS 0)
    have gT : ∀ ob pb, Gives env4 256 [sl5 false lab (c :: t) sp, .str ⟨#[116, 114, 117, 101]⟩, .int .i64 0] ob pb (.bool b, ob) := fun ob pb => refIs_ok lab (c :: t) sp trueS 0 ob pb b hb
    have gS : c.k = 3 → ∀ a ∈ argsR (c :: t), ∃ q p, (q = true ↔ SumP a) ∧ (p = true ↔ FlatP a) ∧ (∀ ob pb, Gives env4 302 [sl5 false 0 a []] ob pb (.bool q, ob)) ∧ ∀ ob pb, Gives env4 304 [sl5 false 0 a []] ob pb (.bool p, ob) := fun hk a ha => by
      obtain ⟨s1, s2, s3⟩ := args_small hR hk ha
      obtain ⟨q, hq⟩ := boolOf (SumP a)
      obtain ⟨p, hp⟩ := boolOf (FlatP a)
      exact ⟨q, p, hq, hp, fun ob pb => refSum_ok _ 0 a [] (Nat.le_refl _) s2 (fun d hd => hf d (s3 d hd)) ob pb q hq, fun ob pb => simple_ok 0 a [] s2.1 ob pb p hp⟩
    have hop : GuardOp c → ¬ (c.n = 2 ∧ c.text ∈ comps) := op_not
    rw [guardP_cons, isP_cons] at hr
    rw [isP_cons] at hb
    unfold GuardOp comps tests equalS unlikeS trueS at hr
    unfold GuardOp comps tests equalS unlikeS at hop
    unfold trueS at hb
    refine ⟨_, _, gT _ _, fun _ => rfl, ?_⟩
    conv => whnf
    refine sel_split (fun h1 => ?_) (fun h1 => ?_)
    · conv => whnf
      refine ⟨rfl, bool_of hr ?_, rfl⟩
      rw [← hb]; simp [h1]
    conv => whnf
    refine ⟨_, _, (refArgs_ok lab (c :: t) sp hl hf ob _).le le14, fun _ => noRefM _ _, ?_⟩
    clear gT
    generalize argsR (c :: t) = l at hno hn' gS hr ⊢
    by_cases hk3 : c.k = 3
    · have hn3 := hn' hk3
      have gS := gS hk3
      clear hno hn'
      match l, hn3, gS, hr with
      | [], hn3, gS, hr => exact absurd (k3 hk3) (by simp at hn3; omega)
      | [a], hn3, gS, hr =>
        obtain ⟨q, p, hq, hp, ga, fa⟩ := gS a (List.mem_cons_self ..)
        simp only [List.mem_cons, List.not_mem_nil, or_false, List.mem_singleton, forall_eq, List.length_cons, List.length_nil] at hr hn3 hop
        conv => whnf
        repeat' first
          | (refine sel_split (fun _ => ?_) (fun _ => ?_) <;> conv => whnf)
          | (refine ⟨_, ⟨by omega, idx_row (cs := c :: t) (i := 0) rfl⟩, ?_⟩; conv => whnf)
          | (refine ⟨_, ⟨by omega, idx_t (ts := [a].map T1.mk0) (i := 0) rfl⟩, ?_⟩; conv => whnf)
          | (refine ⟨_, _, fa _ _, fun _ => rfl, ?_⟩; conv => whnf)
        all_goals
          refine ⟨rfl, bool_of hr ?_, rfl⟩
          try simp only [beq_iff_eq, beq_eq_false_iff_ne, ne_eq, bytes_eq, Bool.not_eq_true', Bool.not_eq_false', decide_eq_true_eq, decide_eq_false_iff_not] at *
          grind
      | [a, b'], hn3, gS, hr =>
        obtain ⟨q, p, hq, hp, ga, fa⟩ := gS a (List.mem_cons_self ..)
        obtain ⟨q', p', hq', hp', gb, fb⟩ := gS b' (List.mem_cons_of_mem _ (List.mem_cons_self ..))
        simp only [List.mem_cons, List.not_mem_nil, or_false, forall_eq_or_imp, forall_eq, List.length_cons, List.length_nil] at hr hn3 hop
        conv => whnf
        repeat' first
          | (refine sel_split (fun _ => ?_) (fun _ => ?_) <;> conv => whnf)
          | (refine ⟨_, ⟨by omega, idx_row (cs := c :: t) (i := 0) rfl⟩, ?_⟩; conv => whnf)
          | (refine ⟨_, ⟨by omega, idx_t (ts := [a, b'].map T1.mk0) (i := 0) rfl⟩, ?_⟩; conv => whnf)
          | (refine ⟨_, ⟨by omega, idx_t (ts := [a, b'].map T1.mk0) (i := 1) rfl⟩, ?_⟩; conv => whnf)
          | (refine ⟨_, _, fa _ _, fun _ => rfl, ?_⟩; conv => whnf)
          | (refine ⟨_, _, fb _ _, fun _ => rfl, ?_⟩; conv => whnf)
          | (refine ⟨_, _, ga _ _, fun _ => rfl, ?_⟩; conv => whnf)
          | (refine ⟨_, _, gb _ _, fun _ => rfl, ?_⟩; conv => whnf)
        all_goals
          refine ⟨rfl, bool_of hr ?_, rfl⟩
          try simp only [beq_iff_eq, beq_eq_false_iff_ne, ne_eq, bytes_eq, Bool.not_eq_true', Bool.not_eq_false', decide_eq_true_eq, decide_eq_false_iff_not] at *
          grind
      | a :: b' :: d :: l, hn3, gS, hr =>
        simp only [List.length_cons] at hn3
        have hc2 : c.n ≠ 2 := by omega
        have hc1 : c.n ≠ 1 := by omega
        conv => whnf
        refine ⟨rfl, bool_of hr ?_, rfl⟩
        try simp only [beq_iff_eq, beq_eq_false_iff_ne, ne_eq, bytes_eq, Bool.not_eq_true', Bool.not_eq_false', decide_eq_true_eq, decide_eq_false_iff_not] at *
        grind
    · have := hno hk3
      subst this
      conv => whnf
      refine ⟨rfl, bool_of hr ?_, rfl⟩
      try simp only [beq_iff_eq, beq_eq_false_iff_ne, ne_eq, bytes_eq, Bool.not_eq_true', Bool.not_eq_false', decide_eq_true_eq, decide_eq_false_iff_not] at *
      grind
theorem nameP_not {s : ByteArray} (h : NameP s.data.toList) : s ≠ eqS ∧ s ≠ asS ∧ s ≠ atS := by
  have h0 := h.2.2 0
  refine ⟨?_, ?_, ?_⟩ <;> (rintro rfl; revert h0; simp [eqS, asS, atS, okB, smallB])
theorem placeP_cons {c : C} {r : List C} : PlaceP (c :: r) ↔ (c.k = 4 ∨ c.k = 1 ∧ 0 ≤ c.n ∧ c.n < 4) := ⟨fun ⟨_, _, e, h⟩ => by cases e; exact h, fun h => ⟨c, r, rfl, h⟩⟩
theorem refGoalF_ok (lab : Nat) (cs : List C) (sp : List (List LV)) (hR : RightP cs) (hf : ∀ c ∈ cs, c.fine) (far : Bool) (rec : far = false → ∀ (a : List C), RightP a → (∀ c ∈ a, c.fine) → ∀ (q : Bool), (q = true ↔ Goal0 a) → ∀ ob pb, Gives env4 306 [sl5 false 0 a [], .bool true] ob pb (.bool q, ob))
    (ob : Obs) (pb : Nat) (r : Bool) (hr : r = true ↔ GoalP (far = false) cs) : Gives env4 306 [sl5 false lab cs sp, .bool far] ob pb (.bool r, ob) := by
  have hl : cs.length ≤ 4611686018427387904 := by have := hR.2.1; omega
  obtain ⟨c, t, rfl⟩ := right_cons hR
  obtain ⟨k1, k2, k3⟩ := right_kinds hR
  obtain ⟨b1, hb1⟩ := boolOf (IsP (c :: t) trueS 0)
  obtain ⟨b2, hb2⟩ := boolOf (IsP (c :: t) eqS 2)
  obtain ⟨b3, hb3⟩ := boolOf (CalP (c :: t) ∧ ¬ IsP (c :: t) trueS 0)
  obtain ⟨b4, hb4⟩ := boolOf (IsP (c :: t) asS 2)
  obtain ⟨b5, hb5⟩ := boolOf (IsP (c :: t) atS 2)
  have g1 : ∀ ob pb, Gives env4 256 [sl5 false lab (c :: t) sp, .str ⟨#[116, 114, 117, 101]⟩, .int .i64 0] ob pb (.bool b1, ob) := fun ob pb => refIs_ok lab (c :: t) sp trueS 0 ob pb b1 hb1
  have g2 : ∀ ob pb, Gives env4 256 [sl5 false lab (c :: t) sp, .str ⟨#[61]⟩, .int .i64 2] ob pb (.bool b2, ob) := fun ob pb => refIs_ok lab (c :: t) sp eqS 2 ob pb b2 hb2
  have g3 : ∀ ob pb, Gives env4 329 [sl5 false lab (c :: t) sp] ob pb (.bool b3, ob) := fun ob pb => refCall_ok lab (c :: t) sp hR hf ob pb b3 hb3
  have g4 : ∀ ob pb, Gives env4 256 [sl5 false lab (c :: t) sp, .str ⟨#[58, 61]⟩, .int .i64 2] ob pb (.bool b4, ob) := fun ob pb => refIs_ok lab (c :: t) sp asS 2 ob pb b4 hb4
  have g5 : ∀ ob pb, Gives env4 256 [sl5 false lab (c :: t) sp, .str ⟨#[64]⟩, .int .i64 2] ob pb (.bool b5, ob) := fun ob pb => refIs_ok lab (c :: t) sp atS 2 ob pb b5 hb5
  have gA : ∀ ob pb, Gives env4 29 [sl5 false lab (c :: t) sp] ob pb (sl1 true 0 ((argsR (c :: t)).map T1.mk0) [], ob) := fun ob pb => (refArgs_ok lab (c :: t) sp hl hf ob pb).le le14
  have hname : CalP (c :: t) → ¬ IsP (c :: t) asS 2 ∧ ¬ IsP (c :: t) atS 2 := fun h => by
    have := nameP_not (call_cons.1 h).2.2
    rw [isP_cons, isP_cons]
    exact ⟨fun h => this.2.1 h.1, fun h => this.2.2 h.1⟩
  have htc : IsP (c :: t) trueS 0 → CalP (c :: t) := fun h => by
    rw [isP_cons] at h; rw [call_cons]
    rcases h.2 with g | g
    · have := k3 g.1; omega
    · exact ⟨by omega, by omega, k2 g.2⟩
  have hcal : CalP (c :: t) ↔ b1 = true ∨ b3 = true := by
    rw [hb1, hb3]
    constructor
    · intro h
      by_cases ht : IsP (c :: t) trueS 0
      · exact .inl ht
      · exact .inr ⟨h, ht⟩
    · rintro (h | h)
      · exact htc h
      · exact h.1
  have hcs : b4 = true → b5 = true → False := fun h4 h5 => by
    have h4 := (isP_cons.1 (hb4.1 h4)).1
    have h5 := (isP_cons.1 (hb5.1 h5)).1
    rw [h4] at h5; revert h5; simp [asS, atS]
  refine gives_code (f := tf306) rfl ?_
  conv => whnf
  by_cases hA : IsP (c :: t) asS 2
  · obtain ⟨a, b, ha, ra, rb, fa, fb, la, lb⟩ := args2 hR hA
    obtain ⟨p, hp⟩ := boolOf (SumP b)
    have gS : ∀ ob pb, Gives env4 302 [sl5 false 0 b []] ob pb (.bool p, ob) := fun ob pb => refSum_ok _ 0 b [] (Nat.le_refl _) rb (fun d hd => hf d (fb d hd)) ob pb p hp
    have hg : GoalP (far = false) (c :: t) ↔ b2 = true ∨ SumP b := by
      unfold GoalP
      by_cases h2 : IsP (c :: t) eqS 2
      · rw [if_pos h2]; simp [hb2.2 h2]
      · rw [if_neg h2, if_pos hA, ha]
        have : b2 = false := by cases hx : b2 with | false => rfl | true => exact absurd (hb2.1 hx) h2
        simp [this]
    have h4 := hb4.2 hA
    rw [hg] at hr
    rw [ha] at gA
    have hnc : b1 = false ∧ b3 = false := by
      have : ¬ CalP (c :: t) := fun h => (hname h).1 hA
      rw [hcal] at this; simpa using this
    have h5 : b5 = false := by cases hx : b5 with | false => rfl | true => exact (hcs h4 hx).elim
    clear hcal hname htc hb1 hb3 hb2 hb4 hb5 hcs rec
    obtain ⟨rfl, rfl⟩ := hnc
    subst h4; subst h5
    repeat' first
      | (refine sel_split (fun _ => ?_) (fun _ => ?_) <;> conv => whnf)
      | (refine ⟨_, _, g1 _ _, fun _ => rfl, ?_⟩; conv => whnf)
      | (refine ⟨_, _, g2 _ _, fun _ => rfl, ?_⟩; conv => whnf)
      | (refine ⟨_, _, g3 _ _, fun _ => rfl, ?_⟩; conv => whnf)
      | (refine ⟨_, _, g4 _ _, fun _ => rfl, ?_⟩; conv => whnf)
      | (refine ⟨_, _, g5 _ _, fun _ => rfl, ?_⟩; conv => whnf)
      | (refine ⟨_, _, gA _ _, fun _ => noRefM _ _, ?_⟩; conv => whnf)
      | (refine ⟨_, ⟨by omega, idx_t (ts := [a, b].map T1.mk0) (i := 1) rfl⟩, ?_⟩; conv => whnf)
      | (refine ⟨_, _, gS _ _, fun _ => rfl, ?_⟩; conv => whnf)
    all_goals
      refine ⟨rfl, bool_of hr ?_, rfl⟩
      try simp only [beq_iff_eq, beq_eq_false_iff_ne, ne_eq, bytes_eq, Bool.not_eq_true', Bool.not_eq_false', decide_eq_true_eq, decide_eq_false_iff_not] at *
      grind
  · have h4 : b4 = false := by cases hx : b4 with | false => rfl | true => exact absurd (hb4.1 hx) hA
    by_cases hT : IsP (c :: t) atS 2
    · obtain ⟨a, b, ha, ra, rb, fa, fb, la, lb⟩ := args2 hR hT
      obtain ⟨d, u, rfl⟩ := right_cons rb
      obtain ⟨p, hp⟩ := boolOf (Goal0 a)
      have gG : far = false → ∀ ob pb, Gives env4 306 [sl5 false 0 a [], .bool true] ob pb (.bool p, ob) := fun hfar => rec hfar a ra (fun d hd => hf d (fa d hd)) p hp
      have hg : GoalP (far = false) (c :: t) ↔ b2 = true ∨ (far = false ∧ Goal0 a ∧ (d.k = 4 ∨ d.k = 1 ∧ 0 ≤ d.n ∧ d.n < 4)) := by
        unfold GoalP
        by_cases h2 : IsP (c :: t) eqS 2
        · rw [if_pos h2]; simp [hb2.2 h2]
        · rw [if_neg h2, if_neg hA, if_pos hT, ha]
          have : b2 = false := by cases hx : b2 with | false => rfl | true => exact absurd (hb2.1 hx) h2
          simp only [List.getD_cons_zero, List.getD_cons_succ, placeP_cons]
          simp [this]
      have h5 := hb5.2 hT
      rw [hg] at hr
      rw [ha] at gA
      have hnc : b1 = false ∧ b3 = false := by
        have : ¬ CalP (c :: t) := fun h => (hname h).2 hT
        rw [hcal] at this; simpa using this
      clear hcal hname htc hb1 hb3 hb2 hb4 hb5 hcs rec
      obtain ⟨rfl, rfl⟩ := hnc
      subst h4; subst h5
      cases far
      · have gG := gG rfl
        repeat' first
          | (refine sel_split (fun _ => ?_) (fun _ => ?_) <;> conv => whnf)
          | (refine ⟨_, _, g1 _ _, fun _ => rfl, ?_⟩; conv => whnf)
          | (refine ⟨_, _, g2 _ _, fun _ => rfl, ?_⟩; conv => whnf)
          | (refine ⟨_, _, g3 _ _, fun _ => rfl, ?_⟩; conv => whnf)
          | (refine ⟨_, _, g4 _ _, fun _ => rfl, ?_⟩; conv => whnf)
          | (refine ⟨_, _, g5 _ _, fun _ => rfl, ?_⟩; conv => whnf)
          | (refine ⟨_, _, gG _ _, fun _ => rfl, ?_⟩; conv => whnf)
          | (refine ⟨_, _, gA _ _, fun _ => noRefM _ _, ?_⟩; conv => whnf)
          | (refine ⟨_, ⟨by omega, idx_t (ts := [a, d :: u].map T1.mk0) (i := 0) rfl⟩, ?_⟩; conv => whnf)
          | (refine ⟨_, ⟨by omega, idx_t (ts := [a, d :: u].map T1.mk0) (i := 1) rfl⟩, ?_⟩; conv => whnf)
          | (refine ⟨_, ⟨by omega, idx_row (cs := d :: u) (i := 0) rfl⟩, ?_⟩; conv => whnf)
        all_goals
          refine ⟨rfl, bool_of hr ?_, rfl⟩
          try simp only [beq_iff_eq, beq_eq_false_iff_ne, ne_eq, bytes_eq, Bool.not_eq_true', Bool.not_eq_false', decide_eq_true_eq, decide_eq_false_iff_not] at *
          grind
      · clear gG
        repeat' first
          | (refine sel_split (fun _ => ?_) (fun _ => ?_) <;> conv => whnf)
          | (refine ⟨_, _, g1 _ _, fun _ => rfl, ?_⟩; conv => whnf)
          | (refine ⟨_, _, g2 _ _, fun _ => rfl, ?_⟩; conv => whnf)
          | (refine ⟨_, _, g3 _ _, fun _ => rfl, ?_⟩; conv => whnf)
          | (refine ⟨_, _, g4 _ _, fun _ => rfl, ?_⟩; conv => whnf)
          | (refine ⟨_, _, g5 _ _, fun _ => rfl, ?_⟩; conv => whnf)
          | (refine ⟨_, _, gA _ _, fun _ => noRefM _ _, ?_⟩; conv => whnf)
          | (refine ⟨_, ⟨by omega, idx_t (ts := [a, d :: u].map T1.mk0) (i := 0) rfl⟩, ?_⟩; conv => whnf)
          | (refine ⟨_, ⟨by omega, idx_t (ts := [a, d :: u].map T1.mk0) (i := 1) rfl⟩, ?_⟩; conv => whnf)
          | (refine ⟨_, ⟨by omega, idx_row (cs := d :: u) (i := 0) rfl⟩, ?_⟩; conv => whnf)
        all_goals
          refine ⟨rfl, bool_of hr ?_, rfl⟩
          try simp only [beq_iff_eq, beq_eq_false_iff_ne, ne_eq, bytes_eq, Bool.not_eq_true', Bool.not_eq_false', decide_eq_true_eq, decide_eq_false_iff_not] at *
          grind
    · have h5 : b5 = false := by cases hx : b5 with | false => rfl | true => exact absurd (hb5.1 hx) hT
      have hg : GoalP (far = false) (c :: t) ↔ b2 = true ∨ b1 = true ∨ b3 = true := by
        unfold GoalP
        by_cases h2 : IsP (c :: t) eqS 2
        · rw [if_pos h2]; simp [hb2.2 h2]
        · rw [if_neg h2, if_neg hA, if_neg hT, hcal]
          have : b2 = false := by cases hx : b2 with | false => rfl | true => exact absurd (hb2.1 hx) h2
          simp [this]
      rw [hg] at hr
      generalize argsR (c :: t) = l at gA
      clear hcal hname htc hb1 hb3 hb2 hb4 hb5 hcs rec
      subst h4; subst h5
      cases far
      · repeat' first
          | (refine sel_split (fun _ => ?_) (fun _ => ?_) <;> conv => whnf)
          | (refine ⟨_, _, g1 _ _, fun _ => rfl, ?_⟩; conv => whnf)
          | (refine ⟨_, _, g2 _ _, fun _ => rfl, ?_⟩; conv => whnf)
          | (refine ⟨_, _, g3 _ _, fun _ => rfl, ?_⟩; conv => whnf)
          | (refine ⟨_, _, g4 _ _, fun _ => rfl, ?_⟩; conv => whnf)
          | (refine ⟨_, _, g5 _ _, fun _ => rfl, ?_⟩; conv => whnf)
          | (refine ⟨_, _, gA _ _, fun _ => noRefM _ _, ?_⟩; conv => whnf)
        all_goals
          refine ⟨rfl, bool_of hr ?_, rfl⟩
          try simp only [beq_iff_eq, beq_eq_false_iff_ne, ne_eq, bytes_eq, Bool.not_eq_true', Bool.not_eq_false', decide_eq_true_eq, decide_eq_false_iff_not] at *
          grind
      · repeat' first
          | (refine sel_split (fun _ => ?_) (fun _ => ?_) <;> conv => whnf)
          | (refine ⟨_, _, g1 _ _, fun _ => rfl, ?_⟩; conv => whnf)
          | (refine ⟨_, _, g2 _ _, fun _ => rfl, ?_⟩; conv => whnf)
          | (refine ⟨_, _, g3 _ _, fun _ => rfl, ?_⟩; conv => whnf)
          | (refine ⟨_, _, g4 _ _, fun _ => rfl, ?_⟩; conv => whnf)
          | (refine ⟨_, _, g5 _ _, fun _ => rfl, ?_⟩; conv => whnf)
          | (refine ⟨_, _, gA _ _, fun _ => noRefM _ _, ?_⟩; conv => whnf)
        all_goals
          refine ⟨rfl, bool_of hr ?_, rfl⟩
          try simp only [beq_iff_eq, beq_eq_false_iff_ne, ne_eq, bytes_eq, Bool.not_eq_true', Bool.not_eq_false', decide_eq_true_eq, decide_eq_false_iff_not] at *
          grind
theorem refGoal0_ok (lab : Nat) (cs : List C) (sp : List (List LV)) (hR : RightP cs) (hf : ∀ c ∈ cs, c.fine) (ob : Obs) (pb : Nat) (r : Bool) (hr : r = true ↔ Goal0 cs) : Gives env4 306 [sl5 false lab cs sp, .bool true] ob pb (.bool r, ob) := by
  refine refGoalF_ok lab cs sp hR hf true (fun h => by cases h) ob pb r ?_
  rw [hr, ← goal0_iff]; simp
theorem refGoal_ok (lab : Nat) (cs : List C) (sp : List (List LV)) (hR : RightP cs) (hf : ∀ c ∈ cs, c.fine) (ob : Obs) (pb : Nat) (r : Bool) (hr : r = true ↔ GoalP True cs) : Gives env4 306 [sl5 false lab cs sp, .bool false] ob pb (.bool r, ob) := by
  refine refGoalF_ok lab cs sp hR hf false (fun _ a ra fa q hq ob pb => refGoal0_ok 0 a [] ra fa ob pb q hq) ob pb r ?_
  rw [hr]; simp
theorem refIsGoal_ok (lab : Nat) (cs : List C) (sp : List (List LV)) (hl : cs.length ≤ 4611686018427387904) (hf : ∀ c ∈ cs, c.fine) (ob : Obs) (pb : Nat) (r : Bool) (hr : r = true ↔ RightP cs ∧ GoalP True cs) : Gives env4 285 [sl5 false lab cs sp] ob pb (.bool r, ob) := by
  obtain ⟨q, hq⟩ := boolOf (RightP cs)
  obtain ⟨p, hp⟩ := boolOf (GoalP True cs)
  refine gives_code (f := tf285) rfl ?_
  conv => whnf
  refine ⟨_, _, (refRight_ok lab cs sp hl hf ob _ q hq).le le14, fun _ => rfl, ?_⟩
  conv => whnf
  refine sel_split (fun h => ?_) (fun h => ?_)
  · conv => whnf
    refine ⟨_, _, refGoal_ok lab cs sp (hq.1 h) hf ob _ p hp, fun _ => rfl, ?_⟩
    conv => whnf
    refine ⟨rfl, bool_of hr ?_, rfl⟩
    rw [hp, ← hq]; simp [h]
  · conv => whnf
    refine ⟨rfl, bool_of hr ?_, rfl⟩
    rw [← hq]; simp [h]
end Tree

set_option autoImplicit false
set_option linter.unusedVariables false
set_option linter.unusedSimpArgs false
namespace Tree
open Go
set_option maxHeartbeats 4000000
set_option maxRecDepth 100000
end Tree

set_option autoImplicit false
set_option linter.unusedVariables false
set_option linter.unusedSimpArgs false
namespace Tree
open Go
set_option maxHeartbeats 4000000
set_option maxRecDepth 100000
end Tree

set_option autoImplicit false
set_option linter.unusedVariables false
set_option linter.unusedSimpArgs false
namespace Tree
open Go
set_option maxHeartbeats 4000000
set_option maxRecDepth 100000
end Tree

set_option autoImplicit false
set_option linter.unusedVariables false
set_option linter.unusedSimpArgs false
namespace Tree
open Go
set_option maxHeartbeats 4000000
set_option maxRecDepth 100000
end Tree
