/- Layer 4: the law CheckOrder, what E answers. -/
import Derived.Test.YtpjoppajohmmnaaDoorTLc
import Derived.Test.YtpjoppajohmmnaaDoorTLb
set_option autoImplicit false
set_option linter.unusedVariables false
set_option linter.unusedSimpArgs false
namespace Tree
open Go
set_option maxHeartbeats 4000000
set_option maxRecDepth 100000
theorem gives_same {E : Env} {g g' : Nat} {f : TFn} {args : List LV} {ob : Obs} {pb : Nat} {r : LV × Obs} (h : E.fns g = some (.code f)) (h' : E.fns g' = some (.code f)) (hg : Gives E g args ob pb r) : Gives E g' args ob pb r := by
  obtain ⟨n, hn⟩ := hg
  refine ⟨n, ?_⟩
  cases n with
  | zero => simp [call] at hn
  | succ n => rw [call, h] at hn; rw [call, h']; exact hn
theorem refIs_ok (lab : Nat) (cs : List C) (sp : List (List LV)) (s : ByteArray) (n : Int) (ob : Obs) (pb : Nat) (r : Bool) (hr : r = true ↔ IsP cs s n) : Gives env4 256 [sl5 false lab cs sp, .str s, .int .i64 n] ob pb (.bool r, ob) :=
  gives_same (g := 312) (f := tf312) rfl rfl (is_ok lab cs sp s n ob pb r hr)
theorem mem_addO {o : List PV} {v : Option PV} {x : PV} : x ∈ addO o v ↔ x ∈ o ∨ v = some x := by
  cases v with
  | none => simp [addO]
  | some v => simp only [addO, mem_addP, Option.some.injEq]; constructor <;> (rintro (h | h); exact .inl h; exact .inr h.symm)
theorem mem_predsC : ∀ {p : List Cl} {o : List PV} {x : PV}, x ∈ predsC o p ↔ x ∈ o ∨ ∃ c ∈ p, predC c.head = some x
  | [], o, x => by simp [predsC]
  | c :: p, o, x => by
    have e : predsC o (c :: p) = predsC (addO o (predC c.head)) p := rfl
    rw [e, mem_predsC, mem_addO]
    simp only [List.mem_cons, exists_eq_or_imp, or_assoc]
end Tree

set_option autoImplicit false
set_option linter.unusedVariables false
set_option linter.unusedSimpArgs false
namespace Tree
open Go
set_option maxHeartbeats 4000000
set_option maxRecDepth 100000
theorem isP_cons {c : C} {r : List C} {s : ByteArray} {n : Int} : IsP (c :: r) s n ↔ c.text = s ∧ (c.k = 3 ∧ c.n = n ∨ n = 0 ∧ c.k = 2) :=
  ⟨fun ⟨_, _, e, h⟩ => by cases e; exact h, fun h => ⟨c, r, rfl, h⟩⟩
theorem okC_kinds {c : C} (h : okC c) : (c.k = 1 ∨ c.k = 2 ∨ c.k = 3 ∨ c.k = 4) ∧ (c.k = 2 → NameP c.text.data.toList) ∧ (c.k = 3 → 1 ≤ c.n) := by
  unfold okC at h
  rcases h with h | h | h | h
  · exact ⟨.inl h.1, fun e => by omega, fun e => by omega⟩
  · exact ⟨.inr (.inl h.1), fun _ => h.2.1, fun e => by omega⟩
  · exact ⟨.inr (.inr (.inl h.1)), fun e => by omega, fun _ => by rcases h.2.2 with g | g <;> omega⟩
  · exact ⟨.inr (.inr (.inr h.1)), fun e => by omega, fun e => by omega⟩
theorem right_kinds {c : C} {r : List C} (h : RightP (c :: r)) : (c.k = 1 ∨ c.k = 2 ∨ c.k = 3 ∨ c.k = 4) ∧ (c.k = 2 → NameP c.text.data.toList) ∧ (c.k = 3 → 1 ≤ c.n) :=
  okC_kinds (((right_walk _).1 h).2.2.2 c (List.mem_cons_self ..))
theorem refArgs_ok (lab : Nat) (cs : List C) (sp : List (List LV)) (hl : cs.length ≤ 4611686018427387904) (hf : ∀ c ∈ cs, c.fine) (ob : Obs) (pb : Nat) : Gives env1 29 [sl5 false lab cs sp] ob pb (sl1 true 0 ((argsR cs).map T1.mk0) [], ob) := by
  have hlen : (cs.map C.row).length = cs.length := by simp
  obtain ⟨q, hq⟩ := boolOf (RightP cs)
  have no : ¬ StructP cs → argsR cs = [] := fun h => by unfold argsR; rw [if_neg h]
  refine gives_code (f := tf29) rfl ?_
  conv => whnf
  refine ⟨_, _, refRight_ok lab cs sp hl hf ob _ q hq, fun _ => rfl, ?_⟩
  conv => whnf
  refine sel_split (fun h1 => ?_) (fun h1 => ?_)
  · conv => whnf
    have h1 : q = false := by simpa using h1
    refine ⟨rfl, ?_, rfl⟩
    rw [no (fun h => by have := hq.2 h.1; rw [h1] at this; cases this)]; rfl
  · conv => whnf
    have h1 : q = true := by simpa using h1
    have hR := hq.1 h1
    obtain ⟨c, r, rfl⟩ : ∃ c r, cs = c :: r := by
      cases cs with
      | nil => exact absurd rfl hR.1
      | cons c r => exact ⟨c, r, rfl⟩
    refine ⟨_, ⟨by omega, idx_row (cs := c :: r) (i := 0) rfl⟩, ?_⟩
    conv => whnf
    refine sel_split (fun h2 => ?_) (fun h2 => ?_)
    · conv => whnf
      have h2 : c.k ≠ 3 := by simpa using h2
      refine ⟨rfl, ?_, rfl⟩
      rw [no (fun h => by
        obtain ⟨_, c', r', e, hk⟩ := h
        injection e with e1 e2
        subst e1; exact h2 hk)]; rfl
    · conv => whnf
      have hk : c.k = 3 := by simpa using h2
      obtain ⟨f1, f2, f3, f4⟩ := args_facts hR hk
      obtain ⟨g1, g2, g3, g4⟩ := struct_facts hR hk
      obtain ⟨_, q2, _, q4⟩ := (right_walk _).1 hR
      refine loop_abs (ι := Nat × Nat × List (List C)) (S := fun p => S17 (sl5 false lab (c :: r) sp) (sl1 true 0 (p.2.2.map T1.mk0) []) p.1 ob) (m := fun p => (c :: r).length - p.1)
        (P := fun p => 1 ≤ p.1 ∧ p.1 ≤ (c :: r).length ∧ walk ((c :: r).drop p.1) p.2.1 = some [] ∧ p.2.2 ++ splitW p.2.1 ((c :: r).drop p.1) = argsR (c :: r)) ?_ (1, ar c, []) ⟨Nat.le_refl _, by simp, by simpa using g1, by simpa using f1.symm⟩ rfl
      rintro R ⟨a, m, done⟩ ⟨h3, h4, h5, h6⟩ hN hE hRt
      simp only at h3 h4 h5 h6
      conv => whnf
      refine sel_split (fun h => ?_) (fun h => ?_)
      · conv => whnf
        have h := of_decide_eq_true h
        rw [hlen] at h
        have halt : a < (c :: r).length := by omega
        obtain ⟨m', rfl⟩ : ∃ m', m = m' + 1 := by
          cases m with
          | zero =>
            rw [walk_zero] at h5
            have := congrArg (Option.map List.length) h5
            simp only [Option.map_some, Option.some.injEq, List.length_drop, List.length_nil] at this
            omega
          | succ m => exact ⟨m, rfl⟩
        rw [Nat.add_comm, walk_add] at h5
        obtain ⟨rest, w1, w2⟩ := Option.bind_eq_some_iff.1 h5
        obtain ⟨d1, d2, d3⟩ := drop_split w1 h4
        have hend : endE (c :: r) (a : Int) = ((a + (((c :: r).drop a).length - rest.length) : Nat) : Int) := by
          unfold endE
          rw [if_neg (by omega)]
          have : ((a : Int)).toNat = a := by omega
          rw [this]
          have := scan_walk (c :: r).length ((c :: r).drop a) 1 a (fun d hd => q4 d (List.mem_of_mem_drop hd)) (by simp only [List.length_drop]; omega) (by simp only [List.length_drop]; omega)
          rw [w1] at this
          exact this
        obtain ⟨b, hb⟩ : ∃ b, b = a + (((c :: r).drop a).length - rest.length) := ⟨_, rfl⟩
        rw [← hb] at hend d1 d2 d3
        have hsp : splitW (m' + 1) ((c :: r).drop a) = ((c :: r).drop a).take (b - a) :: splitW m' ((c :: r).drop b) := by
          simp only [splitW, w1]
          rw [← d1]
          congr 2; omega
        refine ⟨_, _, refEnd_ok lab (c :: r) sp a (by omega) ob _, fun _ => rfl, ?_⟩
        conv => whnf
        refine ⟨(((c :: r).drop a).take (b - a)).map C.row, ((c :: r).drop b).map C.row ++ sp, ⟨⟨by omega, ?_, ?_⟩, ?_, ?_⟩, ?_⟩
        · show (a : Int) ≤ endE (c :: r) a
          rw [hend]; omega
        · show endE (c :: r) a ≤ _
          rw [hend]; simp only [List.length_append, hlen]; omega
        · show _ = (((c :: r).map C.row ++ sp).take (endE (c :: r) a).toNat).drop (a : Int).toNat
          rw [hend]
          have e1 : ((b : Nat) : Int).toNat = b := by omega
          have e2 : ((a : Nat) : Int).toNat = a := by omega
          rw [e1, e2, List.take_append_of_le_length (by rw [hlen]; omega), ← List.map_take, ← List.map_drop, List.drop_take]
        · show _ = ((c :: r).map C.row ++ sp).drop (endE (c :: r) a).toNat
          rw [hend]
          have e1 : ((b : Nat) : Int).toNat = b := by omega
          rw [e1, List.drop_append_of_le_length (by rw [hlen]; omega), List.map_drop]
        conv => whnf
        have h256 : (((c :: r).drop a).take (b - a)).length ≤ 256 := by simp only [List.length_take, List.length_drop]; omega
        refine ⟨_, _, copied_ok lab (((c :: r).drop a).take (b - a)) (((c :: r).drop b).map C.row ++ sp) (by omega) ob _, fun _ => noRef5 _ _ _ _, ?_⟩
        conv => whnf
        have hdone : done.length ≤ 256 := by
          have := congrArg List.length h6
          rw [f2, List.length_append] at this
          have := (ok_parts (q4 c (List.mem_cons_self ..))).2
          omega
        refine ⟨((done ++ [((c :: r).drop a).take (b - a)]).map T1.mk0).map T1.row, ⟨.inl rfl, ?_, ?_⟩, ?_⟩
        · show (((done.map T1.mk0).map T1.row).length + 1) * 24 ≤ _
          simp only [List.length_map]; omega
        · simp only [List.map_append]; rfl
        conv => whnf
        refine hN (b, m', done ++ [((c :: r).drop a).take (b - a)]) _ ⟨by omega, d3, ?_, ?_⟩ (by show (c :: r).length - b < (c :: r).length - a; omega) ?_
        · rw [← d1]; exact w2
        · rw [List.append_assoc, ← h6, hsp]; rfl
        · show _ = S17 _ _ ((b : Nat) : Int) ob
          rw [← hend]; rfl
      · conv => whnf
        have h := of_decide_eq_false h
        rw [hlen] at h
        have : a = (c :: r).length := by omega
        subst this
        refine hE _ _ ?_
        conv => whnf
        refine ⟨rfl, ?_, rfl⟩
        rw [List.drop_length] at h5 h6
        have := walk_nil h5
        subst this
        simp only [splitW, List.append_nil] at h6
        rw [h6]; rfl
theorem refCall_ok (lab : Nat) (cs : List C) (sp : List (List LV)) (hR : RightP cs) (hf : ∀ c ∈ cs, c.fine) (ob : Obs) (pb : Nat) (r : Bool) (hr : r = true ↔ (CalP cs ∧ ¬ IsP cs trueS 0)) : Gives env4 329 [sl5 false lab cs sp] ob pb (.bool r, ob) := by
  obtain ⟨c, t, rfl⟩ := right_cons hR
  obtain ⟨k1, k2, k3⟩ := right_kinds hR
  rw [call_cons, isP_cons] at hr
  unfold trueS at hr
  obtain ⟨q, hq⟩ := boolOf (NameP c.text.data.toList)
  have gN : ∀ ob pb, Gives env4 4 [.str c.text] ob pb (.bool q, ob) := fun ob pb => (refIsName_ok c.text (hf c (List.mem_cons_self ..)).1 ob pb q hq).le le14
  refine gives_code (f := tf329) rfl ?_
  conv => whnf
  repeat' first
    | (refine sel_split (fun _ => ?_) (fun _ => ?_) <;> conv => whnf)
    | (refine ⟨_, ⟨by omega, idx_row (cs := c :: t) (i := 0) rfl⟩, ?_⟩; conv => whnf)
    | (refine ⟨_, _, gN _ _, fun _ => rfl, ?_⟩; conv => whnf)
  all_goals
    refine ⟨rfl, bool_of hr ?_, rfl⟩
    simp only [beq_iff_eq, beq_eq_false_iff_ne, ne_eq, bytes_eq, Bool.not_eq_true', Bool.not_eq_false', decide_eq_true_eq, decide_eq_false_iff_not] at *
    grind
theorem args_n {c : C} {r : List C} (hR : RightP (c :: r)) (hk : c.k = 3) : ((argsR (c :: r)).length : Int) = c.n := by
  have h1 := (args_facts hR hk).2.1
  have h2 := (ok_parts (((right_walk _).1 hR).2.2.2 c (List.mem_cons_self ..)))
  have h3 := (right_kinds hR).2.2 hk
  have h4 := h2.1
  unfold partsC at h4
  rw [if_pos hk] at h4
  rw [h1]; omega
theorem refSum_ok : ∀ (n : Nat) (lab : Nat) (cs : List C) (sp : List (List LV)), cs.length ≤ n → RightP cs → (∀ c ∈ cs, c.fine) → ∀ (ob : Obs) (pb : Nat) (r : Bool), (r = true ↔ SumP cs) → Gives env4 302 [sl5 false lab cs sp] ob pb (.bool r, ob)
  | 0, lab, cs, sp, hn, hR, _, ob, pb, r, _ => by
    have := hR.1
    cases cs with
    | nil => exact absurd rfl this
    | cons c r => simp at hn
  | n + 1, lab, [], sp, hn, hR, _, ob, pb, r, _ => absurd rfl hR.1
  | n + 1, lab, c :: t, sp, hn, hR, hf, ob, pb, r, hr => by
    have hl : (c :: t).length ≤ 4611686018427387904 := by have := hR.2.1; omega
    obtain ⟨k1, k2, k3⟩ := right_kinds hR
    have hno : c.k ≠ 3 → argsR (c :: t) = [] := fun h => by
      unfold argsR; rw [if_neg]
      rintro ⟨_, c', r', e, hk⟩
      injection e with e1 e2; subst e1; exact h hk
    have hn' := args_n hR
    have gS : c.k = 3 → ∀ a ∈ argsR (c :: t), ∃ q, (q = true ↔ SumP a) ∧ ∀ ob pb, Gives env4 302 [sl5 false 0 a []] ob pb (.bool q, ob) := fun hk a ha => by
      obtain ⟨s1, s2, s3⟩ := args_small hR hk ha
      obtain ⟨q, hq⟩ := boolOf (SumP a)
      exact ⟨q, hq, fun ob pb => refSum_ok n 0 a [] (by omega) s2 (fun d hd => hf d (s3 d hd)) ob pb q hq⟩
    rw [sum_iff] at hr
    unfold SumOp twos absS at hr
    refine gives_code (f := tf302) rfl ?_
    conv => whnf
    refine ⟨_, _, (refArgs_ok lab (c :: t) sp hl hf ob _).le le14, fun _ => noRefM _ _, ?_⟩
    generalize argsR (c :: t) = l at hno hn' gS hr ⊢
    conv => whnf
    refine ⟨_, ⟨by omega, idx_row (cs := c :: t) (i := 0) rfl⟩, ?_⟩
    conv => whnf
    refine sel_split (fun h1 => ?_) (fun h1 => ?_)
    · conv => whnf
      refine ⟨rfl, bool_of hr ?_, rfl⟩
      simp only [beq_iff_eq, beq_eq_false_iff_ne, ne_eq, bytes_eq, Bool.not_eq_true', Bool.not_eq_false', decide_eq_true_eq, decide_eq_false_iff_not] at *
      grind
    · conv => whnf
      refine sel_split (fun h2 => ?_) (fun h2 => ?_)
      · conv => whnf
        refine ⟨rfl, bool_of hr ?_, rfl⟩
        simp only [beq_iff_eq, beq_eq_false_iff_ne, ne_eq, bytes_eq, Bool.not_eq_true', Bool.not_eq_false', decide_eq_true_eq, decide_eq_false_iff_not] at *
        grind
      · conv => whnf
        refine sel_split (fun h3 => ?_) (fun h3 => ?_)
        · conv => whnf
          refine ⟨rfl, bool_of hr ?_, rfl⟩
          simp only [beq_iff_eq, beq_eq_false_iff_ne, ne_eq, bytes_eq, Bool.not_eq_true', Bool.not_eq_false', decide_eq_true_eq, decide_eq_false_iff_not] at *
          grind
        · have hk3 : c.k = 3 := by simpa using h3
          have hn3 := hn' hk3
          have gS := gS hk3
          match l, hn3, gS, hr with
          | [], hn3, gS, hr => exact absurd (k3 hk3) (by simp at hn3; omega)
          | [a], hn3, gS, hr =>
            obtain ⟨q, hq, ga⟩ := gS a (List.mem_cons_self ..)
            simp only [List.mem_singleton, forall_eq, List.length_cons, List.length_nil] at hr hn3
            conv => whnf
            repeat' first
              | (refine sel_split (fun _ => ?_) (fun _ => ?_) <;> conv => whnf)
              | (refine ⟨_, ⟨by omega, idx_t (ts := [a].map T1.mk0) (i := 0) rfl⟩, ?_⟩; conv => whnf)
              | (refine ⟨_, _, ga _ _, fun _ => rfl, ?_⟩; conv => whnf)
            all_goals
              refine ⟨rfl, bool_of hr ?_, rfl⟩
              simp only [beq_iff_eq, beq_eq_false_iff_ne, ne_eq, bytes_eq, Bool.not_eq_true', Bool.not_eq_false', decide_eq_true_eq, decide_eq_false_iff_not] at *
              grind
          | [a, b], hn3, gS, hr =>
            obtain ⟨q, hq, ga⟩ := gS a (List.mem_cons_self ..)
            obtain ⟨p, hp, gb⟩ := gS b (List.mem_cons_of_mem _ (List.mem_cons_self ..))
            simp only [List.mem_cons, List.not_mem_nil, or_false, forall_eq_or_imp, forall_eq, List.length_cons, List.length_nil] at hr hn3
            conv => whnf
            repeat' first
              | (refine sel_split (fun _ => ?_) (fun _ => ?_) <;> conv => whnf)
              | (refine ⟨_, ⟨by omega, idx_t (ts := [a, b].map T1.mk0) (i := 0) rfl⟩, ?_⟩; conv => whnf)
              | (refine ⟨_, ⟨by omega, idx_t (ts := [a, b].map T1.mk0) (i := 1) rfl⟩, ?_⟩; conv => whnf)
              | (refine ⟨_, _, ga _ _, fun _ => rfl, ?_⟩; conv => whnf)
              | (refine ⟨_, _, gb _ _, fun _ => rfl, ?_⟩; conv => whnf)
            all_goals
              refine ⟨rfl, bool_of hr ?_, rfl⟩
              simp only [beq_iff_eq, beq_eq_false_iff_ne, ne_eq, bytes_eq, Bool.not_eq_true', Bool.not_eq_false', decide_eq_true_eq, decide_eq_false_iff_not] at *
              grind
          | a :: b :: d :: l, hn3, gS, hr =>
            simp only [List.length_cons] at hn3
            have hlen : ((a :: b :: d :: l).map T1.mk0 |>.map T1.row).length = l.length + 3 := by simp
            conv => whnf
            refine ⟨rfl, bool_of hr ?_, rfl⟩
            simp only [beq_iff_eq, beq_eq_false_iff_ne, ne_eq, bytes_eq, Bool.not_eq_true', Bool.not_eq_false', decide_eq_true_eq, decide_eq_false_iff_not] at *
            grind
end Tree

set_option autoImplicit false
set_option linter.unusedVariables false
set_option linter.unusedSimpArgs false
namespace Tree
open Go
set_option maxHeartbeats 4000000
set_option maxRecDepth 100000
theorem simple_ok (lab : Nat) (cs : List C) (sp : List (List LV)) (hR : cs ≠ []) (ob : Obs) (pb : Nat) (r : Bool) (hr : r = true ↔ FlatP cs) : Gives env4 304 [sl5 false lab cs sp] ob pb (.bool r, ob) :=
  gives_same (g := 327) (f := tf327) rfl rfl (isFlat_ok lab cs sp hR ob pb r hr)
theorem guardP_cons {c : C} {r : List C} : GuardP (c :: r) ↔ IsP (c :: r) trueS 0 ∨ (c.k = 3 ∧ ((c.n = 2 ∧ c.text ∈ comps ∧ ∀ a ∈ argsR (c :: r), SumP a) ∨ (GuardOp c ∧ ∀ a ∈ argsR (c :: r), FlatP a))) := by
  constructor
  · rintro (h | ⟨c', r', e, h⟩)
    · exact .inl h
    · cases e; exact .inr h
  · rintro (h | h)
    · exact .inl h
    · exact .inr ⟨c, r, rfl, h⟩
theorem refGuard_ok (lab : Nat) (cs : List C) (sp : List (List LV)) (hl : cs.length ≤ 4611686018427387904) (hf : ∀ c ∈ cs, c.fine) (ob : Obs) (pb : Nat) (r : Bool) (hr : r = true ↔ RightP cs ∧ GuardP cs) : Gives env4 283 [sl5 false lab cs sp] ob pb (.bool r, ob) := by
  obtain ⟨q, hq⟩ := boolOf (RightP cs)
  refine gives_code (f := tf283) rfl ?_
  conv => whnf
  refine ⟨_, _, (refRight_ok lab cs sp hl hf ob _ q hq).le le14, fun _ => rfl, ?_⟩
  conv => whnf
  refine sel_split (fun h => ?_) (fun h => ?_)
  · conv => whnf
    have h : q = false := by simpa using h
    refine ⟨rfl, bool_of hr ?_, rfl⟩
    rw [← hq]; simp [h]
  · conv => whnf
    have h : q = true := by simpa using h
    have hR := hq.1 h
    replace hr : r = true ↔ GuardP cs := hr.trans ⟨fun h => h.2, fun h => ⟨hR, h⟩⟩
    obtain ⟨c, t, rfl⟩ := right_cons hR
    obtain ⟨k1, k2, k3⟩ := right_kinds hR
    have hno : c.k ≠ 3 → argsR (c :: t) = [] := fun h => by
      unfold argsR; rw [if_neg]
      rintro ⟨_, c', r', e, hk⟩
      injection e with e1 e2; subst e1; exact h hk
    have hn' := args_n hR
    obtain ⟨b, hb⟩ := boolOf (IsP (c :: t) trueS 0)
    have gT : ∀ ob pb, Gives env4 256 [sl5 false lab (c :: t) sp, .str ⟨#[116, 114, 117, 101]⟩, .int .i64 0] ob pb (.bool b, ob) := fun ob pb => refIs_ok lab (c :: t) sp trueS 0 ob pb b hb
    have gS : c.k = 3 → ∀ a ∈ argsR (c :: t), ∃ q p, (q = true ↔ SumP a) ∧ (p = true ↔ FlatP a) ∧ (∀ ob pb, Gives env4 302 [sl5 false 0 a []] ob pb (.bool q, ob)) ∧ ∀ ob pb, Gives env4 304 [sl5 false 0 a []] ob pb (.bool p, ob) := fun hk a ha => by
      obtain ⟨s1, s2, s3⟩ := args_small hR hk ha
      obtain ⟨q, hq⟩ := boolOf (SumP a)
      obtain ⟨p, hp⟩ := boolOf (FlatP a)
      exact ⟨q, p, hq, hp, fun ob pb => refSum_ok _ 0 a [] (Nat.le_refl _) s2 (fun d hd => hf d (s3 d hd)) ob pb q hq, fun ob pb => simple_ok 0 a [] s2.1 ob pb p hp⟩
    have hop : GuardOp c → ¬ (c.n = 2 ∧ c.text ∈ comps) := op_not
    rw [guardP_cons, isP_cons] at hr
    rw [isP_cons] at hb
    unfold GuardOp comps tests equalS unlikeS trueS at hr
    unfold GuardOp comps tests equalS unlikeS at hop
    unfold trueS at hb
    refine ⟨_, _, gT _ _, fun _ => rfl, ?_⟩
    conv => whnf
    refine sel_split (fun h1 => ?_) (fun h1 => ?_)
    · conv => whnf
      refine ⟨rfl, bool_of hr ?_, rfl⟩
      rw [← hb]; simp [h1]
    conv => whnf
    refine ⟨_, _, (refArgs_ok lab (c :: t) sp hl hf ob _).le le14, fun _ => noRefM _ _, ?_⟩
    clear gT
    generalize argsR (c :: t) = l at hno hn' gS hr ⊢
    by_cases hk3 : c.k = 3
    · have hn3 := hn' hk3
      have gS := gS hk3
      clear hno hn'
      match l, hn3, gS, hr with
      | [], hn3, gS, hr => exact absurd (k3 hk3) (by simp at hn3; omega)
      | [a], hn3, gS, hr =>
        obtain ⟨q, p, hq, hp, ga, fa⟩ := gS a (List.mem_cons_self ..)
        simp only [List.mem_cons, List.not_mem_nil, or_false, List.mem_singleton, forall_eq, List.length_cons, List.length_nil] at hr hn3 hop
        conv => whnf
        repeat' first
          | (refine sel_split (fun _ => ?_) (fun _ => ?_) <;> conv => whnf)
          | (refine ⟨_, ⟨by omega, idx_row (cs := c :: t) (i := 0) rfl⟩, ?_⟩; conv => whnf)
          | (refine ⟨_, ⟨by omega, idx_t (ts := [a].map T1.mk0) (i := 0) rfl⟩, ?_⟩; conv => whnf)
          | (refine ⟨_, _, fa _ _, fun _ => rfl, ?_⟩; conv => whnf)
        all_goals
          refine ⟨rfl, bool_of hr ?_, rfl⟩
          try simp only [beq_iff_eq, beq_eq_false_iff_ne, ne_eq, bytes_eq, Bool.not_eq_true', Bool.not_eq_false', decide_eq_true_eq, decide_eq_false_iff_not] at *
          grind
      | [a, b'], hn3, gS, hr =>
        obtain ⟨q, p, hq, hp, ga, fa⟩ := gS a (List.mem_cons_self ..)
        obtain ⟨q', p', hq', hp', gb, fb⟩ := gS b' (List.mem_cons_of_mem _ (List.mem_cons_self ..))
        simp only [List.mem_cons, List.not_mem_nil, or_false, forall_eq_or_imp, forall_eq, List.length_cons, List.length_nil] at hr hn3 hop
        conv => whnf
        repeat' first
          | (refine sel_split (fun _ => ?_) (fun _ => ?_) <;> conv => whnf)
          | (refine ⟨_, ⟨by omega, idx_row (cs := c :: t) (i := 0) rfl⟩, ?_⟩; conv => whnf)
          | (refine ⟨_, ⟨by omega, idx_t (ts := [a, b'].map T1.mk0) (i := 0) rfl⟩, ?_⟩; conv => whnf)
          | (refine ⟨_, ⟨by omega, idx_t (ts := [a, b'].map T1.mk0) (i := 1) rfl⟩, ?_⟩; conv => whnf)
          | (refine ⟨_, _, fa _ _, fun _ => rfl, ?_⟩; conv => whnf)
          | (refine ⟨_, _, fb _ _, fun _ => rfl, ?_⟩; conv => whnf)
          | (refine ⟨_, _, ga _ _, fun _ => rfl, ?_⟩; conv => whnf)
          | (refine ⟨_, _, gb _ _, fun _ => rfl, ?_⟩; conv => whnf)
        all_goals
          refine ⟨rfl, bool_of hr ?_, rfl⟩
          try simp only [beq_iff_eq, beq_eq_false_iff_ne, ne_eq, bytes_eq, Bool.not_eq_true', Bool.not_eq_false', decide_eq_true_eq, decide_eq_false_iff_not] at *
          grind
      | a :: b' :: d :: l, hn3, gS, hr =>
        simp only [List.length_cons] at hn3
        have hc2 : c.n ≠ 2 := by omega
        have hc1 : c.n ≠ 1 := by omega
        conv => whnf
        refine ⟨rfl, bool_of hr ?_, rfl⟩
        try simp only [beq_iff_eq, beq_eq_false_iff_ne, ne_eq, bytes_eq, Bool.not_eq_true', Bool.not_eq_false', decide_eq_true_eq, decide_eq_false_iff_not] at *
        grind
    · have := hno hk3
      subst this
      conv => whnf
      refine ⟨rfl, bool_of hr ?_, rfl⟩
      try simp only [beq_iff_eq, beq_eq_false_iff_ne, ne_eq, bytes_eq, Bool.not_eq_true', Bool.not_eq_false', decide_eq_true_eq, decide_eq_false_iff_not] at *
      grind
theorem nameP_not {s : ByteArray} (h : NameP s.data.toList) : s ≠ eqS ∧ s ≠ asS ∧ s ≠ atS := by
  have h0 := h.2.2 0
  refine ⟨?_, ?_, ?_⟩ <;> (rintro rfl; revert h0; simp [eqS, asS, atS, okB, smallB])
theorem placeP_cons {c : C} {r : List C} : PlaceP (c :: r) ↔ (c.k = 4 ∨ c.k = 1 ∧ 0 ≤ c.n ∧ c.n < 4) := ⟨fun ⟨_, _, e, h⟩ => by cases e; exact h, fun h => ⟨c, r, rfl, h⟩⟩
theorem refGoalF_ok (lab : Nat) (cs : List C) (sp : List (List LV)) (hR : RightP cs) (hf : ∀ c ∈ cs, c.fine) (far : Bool) (rec : far = false → ∀ (a : List C), RightP a → (∀ c ∈ a, c.fine) → ∀ (q : Bool), (q = true ↔ Goal0 a) → ∀ ob pb, Gives env4 306 [sl5 false 0 a [], .bool true] ob pb (.bool q, ob))
    (ob : Obs) (pb : Nat) (r : Bool) (hr : r = true ↔ GoalP (far = false) cs) : Gives env4 306 [sl5 false lab cs sp, .bool far] ob pb (.bool r, ob) := by
  have hl : cs.length ≤ 4611686018427387904 := by have := hR.2.1; omega
  obtain ⟨c, t, rfl⟩ := right_cons hR
  obtain ⟨k1, k2, k3⟩ := right_kinds hR
  obtain ⟨b1, hb1⟩ := boolOf (IsP (c :: t) trueS 0)
  obtain ⟨b2, hb2⟩ := boolOf (IsP (c :: t) eqS 2)
  obtain ⟨b3, hb3⟩ := boolOf (CalP (c :: t) ∧ ¬ IsP (c :: t) trueS 0)
  obtain ⟨b4, hb4⟩ := boolOf (IsP (c :: t) asS 2)
  obtain ⟨b5, hb5⟩ := boolOf (IsP (c :: t) atS 2)
  have g1 : ∀ ob pb, Gives env4 256 [sl5 false lab (c :: t) sp, .str ⟨#[116, 114, 117, 101]⟩, .int .i64 0] ob pb (.bool b1, ob) := fun ob pb => refIs_ok lab (c :: t) sp trueS 0 ob pb b1 hb1
  have g2 : ∀ ob pb, Gives env4 256 [sl5 false lab (c :: t) sp, .str ⟨#[61]⟩, .int .i64 2] ob pb (.bool b2, ob) := fun ob pb => refIs_ok lab (c :: t) sp eqS 2 ob pb b2 hb2
  have g3 : ∀ ob pb, Gives env4 329 [sl5 false lab (c :: t) sp] ob pb (.bool b3, ob) := fun ob pb => refCall_ok lab (c :: t) sp hR hf ob pb b3 hb3
  have g4 : ∀ ob pb, Gives env4 256 [sl5 false lab (c :: t) sp, .str ⟨#[58, 61]⟩, .int .i64 2] ob pb (.bool b4, ob) := fun ob pb => refIs_ok lab (c :: t) sp asS 2 ob pb b4 hb4
  have g5 : ∀ ob pb, Gives env4 256 [sl5 false lab (c :: t) sp, .str ⟨#[64]⟩, .int .i64 2] ob pb (.bool b5, ob) := fun ob pb => refIs_ok lab (c :: t) sp atS 2 ob pb b5 hb5
  have gA : ∀ ob pb, Gives env4 29 [sl5 false lab (c :: t) sp] ob pb (sl1 true 0 ((argsR (c :: t)).map T1.mk0) [], ob) := fun ob pb => (refArgs_ok lab (c :: t) sp hl hf ob pb).le le14
  have hname : CalP (c :: t) → ¬ IsP (c :: t) asS 2 ∧ ¬ IsP (c :: t) atS 2 := fun h => by
    have := nameP_not (call_cons.1 h).2.2
    rw [isP_cons, isP_cons]
    exact ⟨fun h => this.2.1 h.1, fun h => this.2.2 h.1⟩
  have htc : IsP (c :: t) trueS 0 → CalP (c :: t) := fun h => by
    rw [isP_cons] at h; rw [call_cons]
    rcases h.2 with g | g
    · have := k3 g.1; omega
    · exact ⟨by omega, by omega, k2 g.2⟩
  have hcal : CalP (c :: t) ↔ b1 = true ∨ b3 = true := by
    rw [hb1, hb3]
    constructor
    · intro h
      by_cases ht : IsP (c :: t) trueS 0
      · exact .inl ht
      · exact .inr ⟨h, ht⟩
    · rintro (h | h)
      · exact htc h
      · exact h.1
  have hcs : b4 = true → b5 = true → False := fun h4 h5 => by
    have h4 := (isP_cons.1 (hb4.1 h4)).1
    have h5 := (isP_cons.1 (hb5.1 h5)).1
    rw [h4] at h5; revert h5; simp [asS, atS]
  refine gives_code (f := tf306) rfl ?_
  conv => whnf
  by_cases hA : IsP (c :: t) asS 2
  · obtain ⟨a, b, ha, ra, rb, fa, fb, la, lb⟩ := args2 hR hA
    obtain ⟨p, hp⟩ := boolOf (SumP b)
    have gS : ∀ ob pb, Gives env4 302 [sl5 false 0 b []] ob pb (.bool p, ob) := fun ob pb => refSum_ok _ 0 b [] (Nat.le_refl _) rb (fun d hd => hf d (fb d hd)) ob pb p hp
    have hg : GoalP (far = false) (c :: t) ↔ b2 = true ∨ SumP b := by
      unfold GoalP
      by_cases h2 : IsP (c :: t) eqS 2
      · rw [if_pos h2]; simp [hb2.2 h2]
      · rw [if_neg h2, if_pos hA, ha]
        have : b2 = false := by cases hx : b2 with | false => rfl | true => exact absurd (hb2.1 hx) h2
        simp [this]
    have h4 := hb4.2 hA
    rw [hg] at hr
    rw [ha] at gA
    have hnc : b1 = false ∧ b3 = false := by
      have : ¬ CalP (c :: t) := fun h => (hname h).1 hA
      rw [hcal] at this; simpa using this
    have h5 : b5 = false := by cases hx : b5 with | false => rfl | true => exact (hcs h4 hx).elim
    clear hcal hname htc hb1 hb3 hb2 hb4 hb5 hcs rec
    obtain ⟨rfl, rfl⟩ := hnc
    subst h4; subst h5
    repeat' first
      | (refine sel_split (fun _ => ?_) (fun _ => ?_) <;> conv => whnf)
      | (refine ⟨_, _, g1 _ _, fun _ => rfl, ?_⟩; conv => whnf)
      | (refine ⟨_, _, g2 _ _, fun _ => rfl, ?_⟩; conv => whnf)
      | (refine ⟨_, _, g3 _ _, fun _ => rfl, ?_⟩; conv => whnf)
      | (refine ⟨_, _, g4 _ _, fun _ => rfl, ?_⟩; conv => whnf)
      | (refine ⟨_, _, g5 _ _, fun _ => rfl, ?_⟩; conv => whnf)
      | (refine ⟨_, _, gA _ _, fun _ => noRefM _ _, ?_⟩; conv => whnf)
      | (refine ⟨_, ⟨by omega, idx_t (ts := [a, b].map T1.mk0) (i := 1) rfl⟩, ?_⟩; conv => whnf)
      | (refine ⟨_, _, gS _ _, fun _ => rfl, ?_⟩; conv => whnf)
    all_goals
      refine ⟨rfl, bool_of hr ?_, rfl⟩
      try simp only [beq_iff_eq, beq_eq_false_iff_ne, ne_eq, bytes_eq, Bool.not_eq_true', Bool.not_eq_false', decide_eq_true_eq, decide_eq_false_iff_not] at *
      grind
  · have h4 : b4 = false := by cases hx : b4 with | false => rfl | true => exact absurd (hb4.1 hx) hA
    by_cases hT : IsP (c :: t) atS 2
    · obtain ⟨a, b, ha, ra, rb, fa, fb, la, lb⟩ := args2 hR hT
      obtain ⟨d, u, rfl⟩ := right_cons rb
      obtain ⟨p, hp⟩ := boolOf (Goal0 a)
      have gG : far = false → ∀ ob pb, Gives env4 306 [sl5 false 0 a [], .bool true] ob pb (.bool p, ob) := fun hfar => rec hfar a ra (fun d hd => hf d (fa d hd)) p hp
      have hg : GoalP (far = false) (c :: t) ↔ b2 = true ∨ (far = false ∧ Goal0 a ∧ (d.k = 4 ∨ d.k = 1 ∧ 0 ≤ d.n ∧ d.n < 4)) := by
        unfold GoalP
        by_cases h2 : IsP (c :: t) eqS 2
        · rw [if_pos h2]; simp [hb2.2 h2]
        · rw [if_neg h2, if_neg hA, if_pos hT, ha]
          have : b2 = false := by cases hx : b2 with | false => rfl | true => exact absurd (hb2.1 hx) h2
          simp only [List.getD_cons_zero, List.getD_cons_succ, placeP_cons]
          simp [this]
      have h5 := hb5.2 hT
      rw [hg] at hr
      rw [ha] at gA
      have hnc : b1 = false ∧ b3 = false := by
        have : ¬ CalP (c :: t) := fun h => (hname h).2 hT
        rw [hcal] at this; simpa using this
      clear hcal hname htc hb1 hb3 hb2 hb4 hb5 hcs rec
      obtain ⟨rfl, rfl⟩ := hnc
      subst h4; subst h5
      cases far
      · have gG := gG rfl
        repeat' first
          | (refine sel_split (fun _ => ?_) (fun _ => ?_) <;> conv => whnf)
          | (refine ⟨_, _, g1 _ _, fun _ => rfl, ?_⟩; conv => whnf)
          | (refine ⟨_, _, g2 _ _, fun _ => rfl, ?_⟩; conv => whnf)
          | (refine ⟨_, _, g3 _ _, fun _ => rfl, ?_⟩; conv => whnf)
          | (refine ⟨_, _, g4 _ _, fun _ => rfl, ?_⟩; conv => whnf)
          | (refine ⟨_, _, g5 _ _, fun _ => rfl, ?_⟩; conv => whnf)
          | (refine ⟨_, _, gG _ _, fun _ => rfl, ?_⟩; conv => whnf)
          | (refine ⟨_, _, gA _ _, fun _ => noRefM _ _, ?_⟩; conv => whnf)
          | (refine ⟨_, ⟨by omega, idx_t (ts := [a, d :: u].map T1.mk0) (i := 0) rfl⟩, ?_⟩; conv => whnf)
          | (refine ⟨_, ⟨by omega, idx_t (ts := [a, d :: u].map T1.mk0) (i := 1) rfl⟩, ?_⟩; conv => whnf)
          | (refine ⟨_, ⟨by omega, idx_row (cs := d :: u) (i := 0) rfl⟩, ?_⟩; conv => whnf)
        all_goals
          refine ⟨rfl, bool_of hr ?_, rfl⟩
          try simp only [beq_iff_eq, beq_eq_false_iff_ne, ne_eq, bytes_eq, Bool.not_eq_true', Bool.not_eq_false', decide_eq_true_eq, decide_eq_false_iff_not] at *
          grind
      · clear gG
        repeat' first
          | (refine sel_split (fun _ => ?_) (fun _ => ?_) <;> conv => whnf)
          | (refine ⟨_, _, g1 _ _, fun _ => rfl, ?_⟩; conv => whnf)
          | (refine ⟨_, _, g2 _ _, fun _ => rfl, ?_⟩; conv => whnf)
          | (refine ⟨_, _, g3 _ _, fun _ => rfl, ?_⟩; conv => whnf)
          | (refine ⟨_, _, g4 _ _, fun _ => rfl, ?_⟩; conv => whnf)
          | (refine ⟨_, _, g5 _ _, fun _ => rfl, ?_⟩; conv => whnf)
          | (refine ⟨_, _, gA _ _, fun _ => noRefM _ _, ?_⟩; conv => whnf)
          | (refine ⟨_, ⟨by omega, idx_t (ts := [a, d :: u].map T1.mk0) (i := 0) rfl⟩, ?_⟩; conv => whnf)
          | (refine ⟨_, ⟨by omega, idx_t (ts := [a, d :: u].map T1.mk0) (i := 1) rfl⟩, ?_⟩; conv => whnf)
          | (refine ⟨_, ⟨by omega, idx_row (cs := d :: u) (i := 0) rfl⟩, ?_⟩; conv => whnf)
        all_goals
          refine ⟨rfl, bool_of hr ?_, rfl⟩
          try simp only [beq_iff_eq, beq_eq_false_iff_ne, ne_eq, bytes_eq, Bool.not_eq_true', Bool.not_eq_false', decide_eq_true_eq, decide_eq_false_iff_not] at *
          grind
    · have h5 : b5 = false := by cases hx : b5 with | false => rfl | true => exact absurd (hb5.1 hx) hT
      have hg : GoalP (far = false) (c :: t) ↔ b2 = true ∨ b1 = true ∨ b3 = true := by
        unfold GoalP
        by_cases h2 : IsP (c :: t) eqS 2
        · rw [if_pos h2]; simp [hb2.2 h2]
        · rw [if_neg h2, if_neg hA, if_neg hT, hcal]
          have : b2 = false := by cases hx : b2 with | false => rfl | true => exact absurd (hb2.1 hx) h2
          simp [this]
      rw [hg] at hr
      generalize argsR (c :: t) = l at gA
      clear hcal hname htc hb1 hb3 hb2 hb4 hb5 hcs rec
      subst h4; subst h5
      cases far
      · repeat' first
          | (refine sel_split (fun _ => ?_) (fun _ => ?_) <;> conv => whnf)
          | (refine ⟨_, _, g1 _ _, fun _ => rfl, ?_⟩; conv => whnf)
          | (refine ⟨_, _, g2 _ _, fun _ => rfl, ?_⟩; conv => whnf)
          | (refine ⟨_, _, g3 _ _, fun _ => rfl, ?_⟩; conv => whnf)
          | (refine ⟨_, _, g4 _ _, fun _ => rfl, ?_⟩; conv => whnf)
          | (refine ⟨_, _, g5 _ _, fun _ => rfl, ?_⟩; conv => whnf)
          | (refine ⟨_, _, gA _ _, fun _ => noRefM _ _, ?_⟩; conv => whnf)
        all_goals
          refine ⟨rfl, bool_of hr ?_, rfl⟩
          try simp only [beq_iff_eq, beq_eq_false_iff_ne, ne_eq, bytes_eq, Bool.not_eq_true', Bool.not_eq_false', decide_eq_true_eq, decide_eq_false_iff_not] at *
          grind
      · repeat' first
          | (refine sel_split (fun _ => ?_) (fun _ => ?_) <;> conv => whnf)
          | (refine ⟨_, _, g1 _ _, fun _ => rfl, ?_⟩; conv => whnf)
          | (refine ⟨_, _, g2 _ _, fun _ => rfl, ?_⟩; conv => whnf)
          | (refine ⟨_, _, g3 _ _, fun _ => rfl, ?_⟩; conv => whnf)
          | (refine ⟨_, _, g4 _ _, fun _ => rfl, ?_⟩; conv => whnf)
          | (refine ⟨_, _, g5 _ _, fun _ => rfl, ?_⟩; conv => whnf)
          | (refine ⟨_, _, gA _ _, fun _ => noRefM _ _, ?_⟩; conv => whnf)
        all_goals
          refine ⟨rfl, bool_of hr ?_, rfl⟩
          try simp only [beq_iff_eq, beq_eq_false_iff_ne, ne_eq, bytes_eq, Bool.not_eq_true', Bool.not_eq_false', decide_eq_true_eq, decide_eq_false_iff_not] at *
          grind
theorem refGoal0_ok (lab : Nat) (cs : List C) (sp : List (List LV)) (hR : RightP cs) (hf : ∀ c ∈ cs, c.fine) (ob : Obs) (pb : Nat) (r : Bool) (hr : r = true ↔ Goal0 cs) : Gives env4 306 [sl5 false lab cs sp, .bool true] ob pb (.bool r, ob) := by
  refine refGoalF_ok lab cs sp hR hf true (fun h => by cases h) ob pb r ?_
  rw [hr, ← goal0_iff]; simp
theorem refGoal_ok (lab : Nat) (cs : List C) (sp : List (List LV)) (hR : RightP cs) (hf : ∀ c ∈ cs, c.fine) (ob : Obs) (pb : Nat) (r : Bool) (hr : r = true ↔ GoalP True cs) : Gives env4 306 [sl5 false lab cs sp, .bool false] ob pb (.bool r, ob) := by
  refine refGoalF_ok lab cs sp hR hf false (fun _ a ra fa q hq ob pb => refGoal0_ok 0 a [] ra fa ob pb q hq) ob pb r ?_
  rw [hr]; simp
theorem refIsGoal_ok (lab : Nat) (cs : List C) (sp : List (List LV)) (hl : cs.length ≤ 4611686018427387904) (hf : ∀ c ∈ cs, c.fine) (ob : Obs) (pb : Nat) (r : Bool) (hr : r = true ↔ RightP cs ∧ GoalP True cs) : Gives env4 285 [sl5 false lab cs sp] ob pb (.bool r, ob) := by
  obtain ⟨q, hq⟩ := boolOf (RightP cs)
  obtain ⟨p, hp⟩ := boolOf (GoalP True cs)
  refine gives_code (f := tf285) rfl ?_
  conv => whnf
  refine ⟨_, _, (refRight_ok lab cs sp hl hf ob _ q hq).le le14, fun _ => rfl, ?_⟩
  conv => whnf
  refine sel_split (fun h => ?_) (fun h => ?_)
  · conv => whnf
    refine ⟨_, _, refGoal_ok lab cs sp (hq.1 h) hf ob _ p hp, fun _ => rfl, ?_⟩
    conv => whnf
    refine ⟨rfl, bool_of hr ?_, rfl⟩
    rw [hp, ← hq]; simp [h]
  · conv => whnf
    refine ⟨rfl, bool_of hr ?_, rfl⟩
    rw [← hq]; simp [h]
end Tree

set_option autoImplicit false
set_option linter.unusedVariables false
set_option linter.unusedSimpArgs false
namespace Tree
open Go
set_option maxHeartbeats 4000000
set_option maxRecDepth 100000
def ofC : List C → PV
  | [] => (emptyS, 0)
  | c :: _ => if c.k = 3 then (c.text, c.n) else (c.text, 0)
theorem refOf_ok (lab : Nat) (cs : List C) (sp : List (List LV)) (hne : cs ≠ []) (ob : Obs) (pb : Nat) : Gives env4 334 [sl5 false lab cs sp] ob pb (pv (ofC cs), ob) := by
  obtain ⟨c, t, rfl⟩ := List.exists_cons_of_ne_nil hne
  refine gives_code (f := tf334) rfl ?_
  conv => whnf
  refine ⟨_, ⟨by omega, idx_row (cs := c :: t) (i := 0) rfl⟩, ?_⟩
  conv => whnf
  refine sel_split (fun h => ?_) (fun h => ?_)
  · conv => whnf
    refine ⟨_, ⟨by omega, idx_row (cs := c :: t) (i := 0) rfl⟩, ?_⟩
    conv => whnf
    refine ⟨_, ⟨by omega, idx_row (cs := c :: t) (i := 0) rfl⟩, ?_⟩
    conv => whnf
    have h : c.k = 3 := by simpa using h
    refine ⟨rfl, ?_, rfl⟩
    rw [ofC, if_pos h]; rfl
  · conv => whnf
    refine ⟨_, ⟨by omega, idx_row (cs := c :: t) (i := 0) rfl⟩, ?_⟩
    conv => whnf
    have h : ¬ c.k = 3 := by simpa using h
    refine ⟨rfl, ?_, rfl⟩
    rw [ofC, if_neg h]; rfl
open Classical in
noncomputable def callP (cs : List C) : Option PV := match predC cs with
  | some q => if q = (trueS, 0) then none else some q
  | none => none
theorem callC_right {cs : List C} (hR : RightP cs) : (IsP cs atS 2 → callC cs = callP ((argsR cs).headD [])) ∧ (¬ IsP cs atS 2 → callC cs = callP cs) := by
  constructor
  · intro h; rw [callC, if_pos hR, if_pos h]; rfl
  · intro h; rw [callC, if_pos hR, if_neg h]; rfl
open Classical in
theorem called_eq {c : C} {r : List C} (hR : RightP (c :: r)) : callP (c :: r) = if CalP (c :: r) ∧ ¬ IsP (c :: r) trueS 0 then some (ofC (c :: r)) else none := by
  obtain ⟨k1, k2, k3⟩ := right_kinds hR
  simp only [callP, predC, ofC, call_cons, isP_cons]
  grind
theorem args0_right {cs : List C} (hR : RightP cs) (hT : IsP cs atS 2) : ∃ a b, argsR cs = [a, b] ∧ RightP a ∧ ∀ d ∈ a, d ∈ cs := by
  obtain ⟨a, b, ha, ra, rb, fa, fb, la, lb⟩ := args2 hR hT
  exact ⟨a, b, ha, ra, fa⟩
theorem refCalled_ok (lab : Nat) (cs : List C) (sp : List (List LV)) (hl : cs.length ≤ 4611686018427387904) (hf : ∀ c ∈ cs, c.fine) (ob : Obs) (pb : Nat) : Gives env4 332 [sl5 false lab cs sp] ob pb (predV (callC cs), ob) := by
  obtain ⟨q, hq⟩ := boolOf (RightP cs)
  have tail : ∀ (l : Nat) (ds : List C) (s : List (List LV)), RightP ds → (∀ c ∈ ds, c.fine) → ∃ b : Bool, (∀ ob pb, Gives env4 329 [sl5 false l ds s] ob pb (.bool b, ob)) ∧ callP ds = if b then some (ofC ds) else none := by
    intro l ds s hR hf
    obtain ⟨b, hb⟩ := boolOf (CalP ds ∧ ¬ IsP ds trueS 0)
    refine ⟨b, fun ob pb => refCall_ok l ds s hR hf ob pb b hb, ?_⟩
    obtain ⟨c, t, rfl⟩ := right_cons hR
    have := called_eq hR
    rw [this]
    by_cases h : CalP (c :: t) ∧ ¬ IsP (c :: t) trueS 0
    · rw [if_pos h, if_pos (hb.2 h)]
    · rw [if_neg h, if_neg (fun e => h (hb.1 e))]
  refine gives_code (f := tf332) rfl ?_
  conv => whnf
  refine ⟨_, _, (refRight_ok lab cs sp hl hf ob _ q hq).le le14, fun _ => rfl, ?_⟩
  conv => whnf
  refine sel_split (fun h => ?_) (fun h => ?_)
  · conv => whnf
    have h : q = false := by simpa using h
    have hn : ¬ RightP cs := fun hR => by rw [hq.2 hR] at h; cases h
    refine ⟨rfl, ?_, rfl⟩
    rw [callC, if_neg hn]; rfl
  · conv => whnf
    have h : q = true := by simpa using h
    have hR := hq.1 h
    obtain ⟨b, hb⟩ := boolOf (IsP cs atS 2)
    refine ⟨_, _, refIs_ok lab cs sp atS 2 ob _ b hb, fun _ => rfl, ?_⟩
    conv => whnf
    refine sel_split (fun h2 => ?_) (fun h2 => ?_)
    · conv => whnf
      have hT := hb.1 h2
      obtain ⟨a, a2, ha, ra, fa⟩ := args0_right hR hT
      refine ⟨_, _, (refArgs_ok lab cs sp hl hf ob _).le le14, fun _ => noRefM _ _, ?_⟩
      rw [ha]
      conv => whnf
      refine ⟨_, ⟨by omega, idx_t (ts := [a, a2].map T1.mk0) (i := 0) rfl⟩, ?_⟩
      conv => whnf
      obtain ⟨p, gp, hp⟩ := tail 0 a [] ra (fun d hd => hf d (fa d hd))
      have hc : callC cs = if p then some (ofC a) else none := by
        rw [(callC_right hR).1 hT, ha]; exact hp
      refine ⟨_, _, gp _ _, fun _ => rfl, ?_⟩
      conv => whnf
      refine sel_split (fun h3 => ?_) (fun h3 => ?_)
      · conv => whnf
        have h3 : p = false := by simpa using h3
        refine ⟨rfl, ?_, rfl⟩
        rw [hc, h3]; rfl
      · conv => whnf
        have h3 : p = true := by simpa using h3
        refine ⟨_, _, refOf_ok 0 a [] ra.1 ob _, fun _ => rfl, ?_⟩
        conv => whnf
        refine ⟨rfl, ?_, rfl⟩
        rw [hc, h3]; rfl
    · conv => whnf
      have hT : ¬ IsP cs atS 2 := fun hn => by rw [hb.2 hn] at h2; cases h2
      obtain ⟨p, gp, hp⟩ := tail lab cs sp hR hf
      have hc : callC cs = if p then some (ofC cs) else none := by
        rw [(callC_right hR).2 hT]; exact hp
      refine ⟨_, _, gp _ _, fun _ => rfl, ?_⟩
      conv => whnf
      refine sel_split (fun h3 => ?_) (fun h3 => ?_)
      · conv => whnf
        have h3 : p = false := by simpa using h3
        refine ⟨rfl, ?_, rfl⟩
        rw [hc, h3]; rfl
      · conv => whnf
        have h3 : p = true := by simpa using h3
        refine ⟨_, _, refOf_ok lab cs sp hR.1 ob _, fun _ => rfl, ?_⟩
        conv => whnf
        refine ⟨rfl, ?_, rfl⟩
        rw [hc, h3]; rfl
theorem refWith_ok (ns : List PV) (x : PV) (hl : ns.length ≤ 4294967296) (ob : Obs) (pb : Nat) : Gives env4 333 [slP true 0 ns [], pv x] ob pb (slP true 0 (addP ns x) [], ob) := by
  have hlen : (ns.map prow).length = ns.length := by simp
  refine gives_code (f := tf333) rfl ?_
  conv => whnf
  refine loop_v (V := fun i : Nat => [(5, .int .i64 i)]) (O := fun _ => ob) (m := fun i => ns.length - i) (P := fun i => i ≤ ns.length ∧ ∀ (k : Nat) v, k < i → ns[k]? = some v → v ≠ x) ?_ 0 ⟨Nat.zero_le _, fun k v h => by omega⟩ rfl
  rintro R i ⟨hi, hP⟩ hN hE hR
  conv => whnf
  refine sel_split (fun h => ?_) (fun h => ?_)
  · conv => whnf
    have h := of_decide_eq_true h
    rw [hlen] at h
    obtain ⟨v, hv⟩ : ∃ s, ns[i]? = some s := ⟨_, List.getElem?_eq_getElem (show i < ns.length by omega)⟩
    have e : IntKind.i64.wrap ((i : Int) + 1) = ((i + 1 : Nat) : Int) := by rw [wrap64] <;> omega
    refine ⟨_, ⟨by omega, idx_p hv⟩, ?_⟩
    conv => whnf
    refine sel_split (fun h2 => ?_) (fun h2 => ?_)
    · conv => whnf
      have h2 : v = x := (pv_eq h2).1 rfl
      refine hR _ ?_
      conv => whnf
      refine ⟨rfl, ?_, rfl⟩
      rw [addP, if_pos (by rw [← h2]; exact List.mem_of_getElem? hv)]; rfl
    · conv => whnf
      have h2 : v ≠ x := fun e => by have := (pv_eq h2).2 e; cases this
      refine hN (i + 1) _ ⟨by omega, fun k d hk hd => ?_⟩ (by omega) ?_
      · by_cases hki : k = i
        · subst hki; rw [hv] at hd; cases hd; exact h2
        · exact hP k d (by omega) hd
      · rw [← e]; rfl
  · conv => whnf
    have h := of_decide_eq_false h
    rw [hlen] at h
    have : i = ns.length := by omega
    subst this
    have hx : x ∉ ns := fun hm => by
      obtain ⟨k, hk, e⟩ := List.getElem_of_mem hm
      exact hP k x (by omega) (by rw [List.getElem?_eq_getElem hk, e]) rfl
    have ha : addP ns x = ns ++ [x] := by rw [addP, if_neg hx]
    refine hE _ _ ?_
    conv => whnf
    refine ⟨(addP ns x).map prow, ⟨.inl rfl, ?_, ?_⟩, ?_⟩
    · show ((ns.map prow).length + 1) * 24 ≤ _
      rw [hlen]; omega
    · rw [ha, List.map_append]; rfl
    conv => whnf
    exact ⟨rfl, rfl, rfl⟩
theorem refCallsOf_ok (c : Cl) (hf : c.fine) (ob : Obs) (pb : Nat) : Gives env4 324 [.agg c.row] ob pb (slP true 0 (callsC [] c.body) [], ob) := by
  have hlen : (c.body.map T1.row).length = c.body.length := by simp
  have hbl := hf.bl
  refine gives_code (f := tf324) rfl ?_
  conv => whnf
  refine loop_v (V := fun i : Nat => [(3, slP true 0 (callsC [] (c.body.take i)) []), (4, .int .i64 i)]) (O := fun _ => ob) (m := fun i => c.body.length - i) (P := fun i => i ≤ c.body.length) ?_ 0 (Nat.zero_le _) rfl
  intro R i hi hN hE hR
  conv => whnf
  refine sel_split (fun h => ?_) (fun h => ?_)
  · conv => whnf
    have h := of_decide_eq_true h
    rw [hlen] at h
    obtain ⟨t, ht⟩ : ∃ t, c.body[i]? = some t := ⟨_, List.getElem?_eq_getElem (show i < c.body.length by omega)⟩
    have e : IntKind.i64.wrap ((i : Int) + 1) = ((i + 1 : Nat) : Int) := by rw [wrap64] <;> omega
    have htf := hf.bf t (List.mem_of_getElem? ht)
    have hst := callsC_take ht []
    have hcl := callsC_len (c.body.take i) []
    rw [List.length_take] at hcl
    simp only [List.length_nil] at hcl
    refine ⟨_, ⟨by omega, idx_t ht⟩, ?_⟩
    conv => whnf
    refine ⟨_, _, refCalled_ok t.lab t.cs t.sp htf.1 htf.2 ob _, fun _ => noRefPV _ _, ?_⟩
    rcases hp : callC t.cs with _ | x
    · rw [hp] at hst
      conv => whnf
      refine hN (i + 1) _ (by omega) (by omega) ?_
      rw [← e, hst]; rfl
    · rw [hp] at hst
      conv => whnf
      refine ⟨_, _, refWith_ok (callsC [] (c.body.take i)) x (by omega) ob _, fun _ => noRefP _ _ _ _, ?_⟩
      conv => whnf
      refine hN (i + 1) _ (by omega) (by omega) ?_
      rw [← e, hst]; rfl
  · conv => whnf
    have h := of_decide_eq_false h
    rw [hlen] at h
    have : i = c.body.length := by omega
    subst this
    refine hE _ _ ?_
    rw [List.take_length]
    conv => whnf
    exact ⟨rfl, rfl, rfl⟩
end Tree

set_option autoImplicit false
set_option linter.unusedVariables false
set_option linter.unusedSimpArgs false
namespace Tree
open Go
set_option maxHeartbeats 4000000
set_option maxRecDepth 100000
def HdP (cs : List C) : Prop := ∃ c r, cs = c :: r ∧ (c.k = 2 ∨ c.k = 3) ∧ NameP c.text.data.toList
theorem hd_cons {c : C} {r : List C} : HdP (c :: r) ↔ (c.k = 2 ∨ c.k = 3) ∧ NameP c.text.data.toList := ⟨fun ⟨_, _, e, h⟩ => by cases e; exact h, fun h => ⟨c, r, rfl, h⟩⟩
theorem refIsHead_ok (lab : Nat) (cs : List C) (sp : List (List LV)) (hf : ∀ c ∈ cs, c.fine) (ob : Obs) (pb : Nat) (r : Bool) (hr : r = true ↔ HdP cs) : Gives env4 320 [sl5 false lab cs sp] ob pb (.bool r, ob) := by
  refine gives_code (f := tf320) rfl ?_
  cases cs with
  | nil =>
    conv => whnf
    refine ⟨rfl, bool_of hr ⟨fun e => (nomatch e), fun ⟨c, t, e, _⟩ => by cases e⟩, rfl⟩
  | cons c t =>
    rw [hd_cons] at hr
    obtain ⟨q, hq⟩ := boolOf (NameP c.text.data.toList)
    have gN : ∀ ob pb, Gives env4 4 [.str c.text] ob pb (.bool q, ob) := fun ob pb => (refIsName_ok c.text (hf c (List.mem_cons_self ..)).1 ob pb q hq).le le14
    have hlen : 0 < ((c :: t).map C.row).length := by simp
    conv => whnf
    repeat' first
      | (refine sel_split (fun _ => ?_) (fun _ => ?_) <;> conv => whnf)
      | (refine ⟨_, ⟨by omega, idx_row (cs := c :: t) (i := 0) rfl⟩, ?_⟩; conv => whnf)
      | (refine ⟨_, _, gN _ _, fun _ => rfl, ?_⟩; conv => whnf)
    all_goals
      refine ⟨rfl, bool_of hr ?_, rfl⟩
      try simp only [beq_iff_eq, beq_eq_false_iff_ne, ne_eq, bytes_eq, Bool.not_eq_true', Bool.not_eq_false', decide_eq_true_eq, decide_eq_false_iff_not] at *
      grind
theorem refTwice_ok (lab : Nat) (cs : List C) (sp : List (List LV)) (hl : cs.length ≤ 1048576) (ob : Obs) (pb : Nat) (r : Bool) (hr : r = true ↔ cntV cs ≠ (varsC [] cs).length) : Gives env4 321 [sl5 false lab cs sp] ob pb (.bool r, ob) := by
  have hlen : (cs.map C.row).length = cs.length := by simp
  refine gives_code (f := tf321) rfl ?_
  conv => whnf
  refine loop_v (V := fun i : Nat => [(3, .int .i64 (cntV (cs.take i) : Nat)), (4, .int .i64 i)]) (O := fun _ => ob) (m := fun i => cs.length - i) (P := fun i => i ≤ cs.length) ?_ 0 (Nat.zero_le _) rfl
  intro R i hi hN hE hR
  conv => whnf
  refine sel_split (fun h => ?_) (fun h => ?_)
  · conv => whnf
    have h := of_decide_eq_true h
    rw [hlen] at h
    obtain ⟨c, hc⟩ : ∃ c, cs[i]? = some c := ⟨_, List.getElem?_eq_getElem (show i < cs.length by omega)⟩
    have e : IntKind.i64.wrap ((i : Int) + 1) = ((i + 1 : Nat) : Int) := by rw [wrap64] <;> omega
    have hct := cntV_take hc
    have hcl := cntV_le (cs.take i)
    rw [List.length_take] at hcl
    have e2 : IntKind.i64.wrap (((cntV (cs.take i) : Nat) : Int) + 1) = ((cntV (cs.take i) + 1 : Nat) : Int) := by rw [wrap64] <;> omega
    refine ⟨_, ⟨by omega, idx_row hc⟩, ?_⟩
    conv => whnf
    refine sel_split (fun h2 => ?_) (fun h2 => ?_)
    · conv => whnf
      have h2 : c.k = 4 := by simpa using h2
      rw [if_pos h2] at hct
      refine hN (i + 1) _ (by omega) (by omega) ?_
      rw [← e, hct, ← e2]; rfl
    · conv => whnf
      have h2 : c.k ≠ 4 := by simpa using h2
      rw [if_neg h2] at hct
      refine hN (i + 1) _ (by omega) (by omega) ?_
      rw [← e, hct]; rfl
  · conv => whnf
    have h := of_decide_eq_false h
    rw [hlen] at h
    have : i = cs.length := by omega
    subst this
    refine hE _ _ ?_
    rw [List.take_length]
    conv => whnf
    refine ⟨_, _, (varsOf_ok ⟨lab, cs, sp⟩ hl ob _).le le14, fun _ => noRef2 _ _ _ _, ?_⟩
    conv => whnf
    refine ⟨rfl, bool_of hr ?_, rfl⟩
    simp; omega
def BadT (cs : List C) (n : Int) : Prop := ¬ RightP cs ∨ ∃ v ∈ varsC [] cs, v.1 ≠ -1 ∨ v.2 ≥ n
theorem refBad_ok (lab : Nat) (cs : List C) (sp : List (List LV)) (n : Int) (hl : cs.length ≤ 1048576) (hf : ∀ c ∈ cs, c.fine) (ob : Obs) (pb : Nat) (r : Bool) (hr : r = true ↔ BadT cs n) : Gives env4 322 [sl5 false lab cs sp, .int .i64 n] ob pb (.bool r, ob) := by
  obtain ⟨q, hq⟩ := boolOf (RightP cs)
  refine gives_code (f := tf322) rfl ?_
  conv => whnf
  refine ⟨_, _, (refRight_ok lab cs sp (by omega) hf ob _ q hq).le le14, fun _ => rfl, ?_⟩
  conv => whnf
  refine sel_split (fun h => ?_) (fun h => ?_)
  · conv => whnf
    have h : q = false := by simpa using h
    refine ⟨rfl, bool_of hr ⟨fun _ => .inl fun hR => ?_, fun _ => rfl⟩, rfl⟩
    rw [hq.2 hR] at h; cases h
  · have h : q = true := by simpa using h
    have hR := hq.1 h
    conv => whnf
    refine ⟨_, _, (varsOf_ok ⟨lab, cs, sp⟩ hl ob _).le le14, fun _ => noRef2 _ _ _ _, ?_⟩
    have hvl := varsC_len cs []
    simp only [List.length_nil] at hvl
    unfold BadT at hr
    have e0 : (T1.mk lab cs sp).cs = cs := rfl
    rw [e0]
    generalize varsC [] cs = ns at hvl hr ⊢
    have hlen : (ns.map nrow).length = ns.length := by simp
    conv => whnf
    refine loop_v (V := fun i : Nat => [(6, .int .i64 i)]) (O := fun _ => ob) (m := fun i => ns.length - i) (P := fun i => i ≤ ns.length ∧ ∀ (k : Nat) v, k < i → ns[k]? = some v → v.1 = -1 ∧ v.2 < n) ?_ 0 ⟨Nat.zero_le _, fun k v h => by omega⟩ rfl
    rintro R i ⟨hi, hP⟩ hN hE hRt
    conv => whnf
    refine sel_split (fun h => ?_) (fun h => ?_)
    · conv => whnf
      have h := of_decide_eq_true h
      rw [hlen] at h
      obtain ⟨v, hv⟩ : ∃ s, ns[i]? = some s := ⟨_, List.getElem?_eq_getElem (show i < ns.length by omega)⟩
      have e : IntKind.i64.wrap ((i : Int) + 1) = ((i + 1 : Nat) : Int) := by rw [wrap64] <;> omega
      have hm := List.mem_of_getElem? hv
      refine ⟨_, ⟨by omega, idx_n hv⟩, ?_⟩
      conv => whnf
      refine sel_split (fun h2 => ?_) (fun h2 => ?_)
      · conv => whnf
        have h2 : v.1 ≠ -1 := by simpa using h2
        refine hRt _ ?_
        conv => whnf
        exact ⟨rfl, bool_of hr ⟨fun _ => .inr ⟨v, hm, .inl h2⟩, fun _ => rfl⟩, rfl⟩
      · conv => whnf
        have h2 : v.1 = -1 := by simpa using h2
        refine ⟨_, ⟨by omega, idx_n hv⟩, ?_⟩
        conv => whnf
        refine sel_split (fun h3 => ?_) (fun h3 => ?_)
        · conv => whnf
          have h3 : v.2 ≥ n := by simpa using h3
          refine hRt _ ?_
          conv => whnf
          exact ⟨rfl, bool_of hr ⟨fun _ => .inr ⟨v, hm, .inr h3⟩, fun _ => rfl⟩, rfl⟩
        · conv => whnf
          have h3 : v.2 < n := by simpa using h3
          refine hN (i + 1) _ ⟨by omega, fun k d hk hd => ?_⟩ (by omega) ?_
          · by_cases hki : k = i
            · subst hki; rw [hv] at hd; cases hd; exact ⟨h2, h3⟩
            · exact hP k d (by omega) hd
          · rw [← e]; rfl
    · conv => whnf
      have h := of_decide_eq_false h
      rw [hlen] at h
      refine hE _ _ ?_
      conv => whnf
      refine ⟨rfl, bool_of hr ⟨fun e => (nomatch e), fun h' => ?_⟩, rfl⟩
      exfalso
      rcases h' with h' | ⟨v, hm, h'⟩
      · exact h' hR
      · obtain ⟨k, hk, e⟩ := List.getElem_of_mem hm
        have := hP k v (by omega) (by rw [List.getElem?_eq_getElem hk, e])
        omega
def WithinP (cs : List C) (l : List NV) : Prop := ∀ v ∈ varsC [] cs, v ∈ l
theorem refWithin_ok (lab : Nat) (cs : List C) (sp : List (List LV)) (l2 : Nat) (l : List NV) (s2 : List (List LV)) (hl : cs.length ≤ 1048576) (hl2 : l.length ≤ 4611686018427387904) (ob : Obs) (pb : Nat) (r : Bool) (hr : r = true ↔ WithinP cs l) : Gives env4 323 [sl5 false lab cs sp, sl2 false l2 l s2] ob pb (.bool r, ob) := by
  refine gives_code (f := tf323) rfl ?_
  conv => whnf
  refine ⟨_, _, (varsOf_ok ⟨lab, cs, sp⟩ hl ob _).le le14, fun _ => noRef2 _ _ _ _, ?_⟩
  have hvl := varsC_len cs []
  simp only [List.length_nil] at hvl
  unfold WithinP at hr
  have e0 : (T1.mk lab cs sp).cs = cs := rfl
  rw [e0]
  generalize varsC [] cs = ns at hvl hr ⊢
  have hlen : (ns.map nrow).length = ns.length := by simp
  conv => whnf
  refine loop_v (V := fun i : Nat => [(6, .int .i64 i)]) (O := fun _ => ob) (m := fun i => ns.length - i) (P := fun i => i ≤ ns.length ∧ ∀ (k : Nat) v, k < i → ns[k]? = some v → v ∈ l) ?_ 0 ⟨Nat.zero_le _, fun k v h => by omega⟩ rfl
  rintro R i ⟨hi, hP⟩ hN hE hRt
  conv => whnf
  refine sel_split (fun h => ?_) (fun h => ?_)
  · conv => whnf
    have h := of_decide_eq_true h
    rw [hlen] at h
    obtain ⟨v, hv⟩ : ∃ s, ns[i]? = some s := ⟨_, List.getElem?_eq_getElem (show i < ns.length by omega)⟩
    have e : IntKind.i64.wrap ((i : Int) + 1) = ((i + 1 : Nat) : Int) := by rw [wrap64] <;> omega
    obtain ⟨b, hb⟩ := boolOf (v ∈ l)
    refine ⟨_, ⟨by omega, idx_n hv⟩, ?_⟩
    conv => whnf
    refine ⟨_, _, (refHasName_ok l2 l s2 v hl2 ob _ b hb).le le14, fun _ => rfl, ?_⟩
    conv => whnf
    refine sel_split (fun h2 => ?_) (fun h2 => ?_)
    · conv => whnf
      have h2 : b = false := by simpa using h2
      refine hRt _ ?_
      conv => whnf
      refine ⟨rfl, bool_of hr ⟨fun e => (nomatch e), fun h' => ?_⟩, rfl⟩
      rw [hb.2 (h' v (List.mem_of_getElem? hv))] at h2; cases h2
    · conv => whnf
      have h2 : b = true := by simpa using h2
      refine hN (i + 1) _ ⟨by omega, fun k d hk hd => ?_⟩ (by omega) ?_
      · by_cases hki : k = i
        · subst hki; rw [hv] at hd; cases hd; exact hb.1 h2
        · exact hP k d (by omega) hd
      · rw [← e]; rfl
  · conv => whnf
    have h := of_decide_eq_false h
    rw [hlen] at h
    refine hE _ _ ?_
    conv => whnf
    refine ⟨rfl, bool_of hr ⟨fun _ v hm => ?_, fun _ => rfl⟩, rfl⟩
    obtain ⟨k, hk, e⟩ := List.getElem_of_mem hm
    exact hP k v (by omega) (by rw [List.getElem?_eq_getElem hk, e])
theorem predC_hd {cs : List C} {q : PV} : predC cs = some q ↔ HdP cs ∧ IsP cs q.1 q.2 := by
  cases cs with
  | nil => simp [predC, HdP]
  | cons c t =>
    rw [hd_cons, isP_cons]
    obtain ⟨s, n⟩ := q
    simp only [predC]
    grind
theorem refClauses_ok (lab : Nat) (p : List Cl) (sp : List (List LV)) (q : PV) (hl : p.length ≤ 1048576) (hf : ∀ c ∈ p, c.fine) (ob : Obs) (pb : Nat) : Gives env4 325 [slC false lab p sp, .str q.1, .int .i64 q.2] ob pb (slN true 0 (clausesC p q) [], ob) := by
  have hlen : (p.map Cl.row).length = p.length := by simp
  refine gives_code (f := tf325) rfl ?_
  conv => whnf
  refine loop_v (V := fun i : Nat => [(7, slN true 0 (clausesN p q i) []), (8, .int .i64 i)]) (O := fun _ => ob) (m := fun i => p.length - i) (P := fun i => i ≤ p.length) ?_ 0 (Nat.zero_le _) rfl
  intro R i hi hN hE hR
  conv => whnf
  refine sel_split (fun h => ?_) (fun h => ?_)
  · conv => whnf
    have h := of_decide_eq_true h
    rw [hlen] at h
    obtain ⟨c, hc⟩ : ∃ c, p[i]? = some c := ⟨_, List.getElem?_eq_getElem (show i < p.length by omega)⟩
    have e : IntKind.i64.wrap ((i : Int) + 1) = ((i + 1 : Nat) : Int) := by rw [wrap64] <;> omega
    have hcl := clausesN_len p q i
    have hcf := hf c (List.mem_of_getElem? hc)
    obtain ⟨b, hb⟩ := boolOf (HdP c.head)
    obtain ⟨d, hd⟩ := boolOf (IsP c.head q.1 q.2)
    refine ⟨_, ⟨by omega, idx_c hc⟩, ?_⟩
    conv => whnf
    refine ⟨_, _, refIsHead_ok c.hlab c.head c.hsp hcf.hf ob _ b hb, fun _ => rfl, ?_⟩
    conv => whnf
    refine sel_split (fun h2 => ?_) (fun h2 => ?_)
    · conv => whnf
      refine ⟨_, ⟨by omega, idx_c hc⟩, ?_⟩
      conv => whnf
      refine ⟨_, _, refIs_ok c.hlab c.head c.hsp q.1 q.2 ob _ d hd, fun _ => rfl, ?_⟩
      conv => whnf
      refine sel_split (fun h3 => ?_) (fun h3 => ?_)
      · conv => whnf
        have hst := clausesN_yes hc (q := q) (predC_hd.2 ⟨hb.1 h2, hd.1 h3⟩)
        refine ⟨(clausesN p q (i + 1)).map irow, ⟨.inl rfl, ?_, ?_⟩, ?_⟩
        · show (((clausesN p q i).map irow).length + 1) * 8 ≤ _
          rw [List.length_map]; omega
        · rw [hst, List.map_append]; rfl
        conv => whnf
        refine hN (i + 1) _ (by omega) (by omega) ?_
        rw [← e]; rfl
      · conv => whnf
        have hst := clausesN_no hc (q := q) (fun h => by have := (predC_hd.1 h).2; rw [hd.2 this] at h3; cases h3)
        refine hN (i + 1) _ (by omega) (by omega) ?_
        rw [← e, hst]; rfl
    · conv => whnf
      have hst := clausesN_no hc (q := q) (fun h => by have := (predC_hd.1 h).1; rw [hb.2 this] at h2; cases h2)
      refine hN (i + 1) _ (by omega) (by omega) ?_
      rw [← e, hst]; rfl
  · conv => whnf
    have h := of_decide_eq_false h
    rw [hlen] at h
    have : i = p.length := by omega
    subst this
    refine hE _ _ ?_
    conv => whnf
    exact ⟨rfl, rfl, rfl⟩
end Tree

set_option autoImplicit false
set_option linter.unusedVariables false
set_option linter.unusedSimpArgs false
namespace Tree
open Go
set_option maxHeartbeats 4000000
set_option maxRecDepth 100000
def GB (c : Cl) (e : Int) (g : T1) : Prop := (e = 6 ∧ BadT g.cs c.locals) ∨ (e = 41 ∧ (¬ (RightP g.cs ∧ GuardP g.cs) ∨ ¬ WithinP g.cs (varsC [] c.head)))
def BB (c : Cl) (e : Int) (b : T1) : Prop := (e = 6 ∧ BadT b.cs c.locals) ∨ (e = 42 ∧ ¬ (RightP b.cs ∧ GoalP True b.cs))
def HdW (c : Cl) : Prop := ¬ HdP c.head ∨ IsP c.head trueS 0 ∨ cntV c.head ≠ (varsC [] c.head).length
def RestW (p : List Cl) (c : Cl) (e : Int) : Prop := (e = 6 ∧ (c.locals < 0 ∨ BadT c.head c.locals)) ∨ (∃ g ∈ c.guards, GB c e g) ∨ (∃ b ∈ c.body, BB c e b) ∨ (e = 43 ∧ ∃ q ∈ callsC [] c.body, clausesC p q = [])
def WrongR (p : List Cl) (c : Cl) (e : Int) : Prop := (e = 5 ∧ LongW c) ∨ (e = 40 ∧ HdW c) ∨ (e ≠ 5 ∧ e ≠ 40 ∧ RestW p c e)
theorem refWrong_ok (lab : Nat) (p : List Cl) (sp : List (List LV)) (hl : p.length ≤ 1048576) (hf : ∀ c ∈ p, c.fine) (c : Cl) (hc : c.fine) (e : Int) (ob : Obs) (pb : Nat) (r : Bool) (hr : r = true ↔ WrongR p c e) : Gives env4 297 [slC false lab p sp, .agg c.row, .int .i64 e] ob pb (.bool r, ob) := by
  have hg1 := hc.gl
  have hb1 := hc.bl
  have hh1 := hc.hl
  have hgl : (c.guards.map T1.row).length = c.guards.length := by simp
  have hbl : (c.body.map T1.row).length = c.body.length := by simp
  refine gives_code (f := tf297) rfl ?_
  conv => whnf
  refine sel_split (fun h5 => ?_) (fun h5 => ?_)
  · have h5 : e = 5 := by simpa using h5
    subst h5
    have hr : r = true ↔ LongW c := by rw [hr]; simp [WrongR]
    unfold LongW at hr
    conv => whnf
    repeat' first
      | (refine sel_split (fun _ => ?_) (fun _ => ?_) <;> conv => whnf)
    all_goals
      rw [hgl] at *
      try rw [hbl] at *
      refine ⟨rfl, bool_of hr ?_, rfl⟩
      try simp only [beq_iff_eq, beq_eq_false_iff_ne, ne_eq, bytes_eq, Bool.not_eq_true', Bool.not_eq_false', decide_eq_true_eq, decide_eq_false_iff_not] at *
      grind
  conv => whnf
  refine sel_split (fun h40 => ?_) (fun h40 => ?_)
  · have h40 : e = 40 := by simpa using h40
    subst h40
    have hr : r = true ↔ HdW c := by rw [hr]; simp [WrongR]
    unfold HdW at hr
    obtain ⟨b1, hb1⟩ := boolOf (HdP c.head)
    obtain ⟨b2, hb2⟩ := boolOf (IsP c.head trueS 0)
    obtain ⟨b3, hb3⟩ := boolOf (cntV c.head ≠ (varsC [] c.head).length)
    have g1 : ∀ ob pb, Gives env4 320 [sl5 false c.hlab c.head c.hsp] ob pb (.bool b1, ob) := fun ob pb => refIsHead_ok c.hlab c.head c.hsp hc.hf ob pb b1 hb1
    have g2 : ∀ ob pb, Gives env4 256 [sl5 false c.hlab c.head c.hsp, .str ⟨#[116, 114, 117, 101]⟩, .int .i64 0] ob pb (.bool b2, ob) := fun ob pb => refIs_ok c.hlab c.head c.hsp trueS 0 ob pb b2 hb2
    have g3 : ∀ ob pb, Gives env4 321 [sl5 false c.hlab c.head c.hsp] ob pb (.bool b3, ob) := fun ob pb => refTwice_ok c.hlab c.head c.hsp hh1 ob pb b3 hb3
    rw [← hb1, ← hb2, ← hb3] at hr
    clear hb1 hb2 hb3
    conv => whnf
    repeat' first
      | (refine sel_split (fun _ => ?_) (fun _ => ?_) <;> conv => whnf)
      | (refine ⟨_, _, g1 _ _, fun _ => rfl, ?_⟩; conv => whnf)
      | (refine ⟨_, _, g2 _ _, fun _ => rfl, ?_⟩; conv => whnf)
      | (refine ⟨_, _, g3 _ _, fun _ => rfl, ?_⟩; conv => whnf)
    all_goals
      refine ⟨rfl, bool_of hr ?_, rfl⟩
      try simp only [beq_iff_eq, beq_eq_false_iff_ne, ne_eq, bytes_eq, Bool.not_eq_true', Bool.not_eq_false', decide_eq_true_eq, decide_eq_false_iff_not] at *
      grind
  have h5 : e ≠ 5 := by simpa using h5
  have h40 : e ≠ 40 := by simpa using h40
  replace hr : r = true ↔ RestW p c e := hr.trans ⟨fun h => by rcases h with h | h | h; exact absurd h.1 h5; exact absurd h.1 h40; exact h.2.2, fun h => .inr (.inr ⟨h5, h40, h⟩)⟩
  obtain ⟨q0, hq0⟩ := boolOf (BadT c.head c.locals)
  have gh : ∀ ob pb, Gives env4 322 [sl5 false c.hlab c.head c.hsp, .int .i64 c.locals] ob pb (.bool q0, ob) := fun ob pb => refBad_ok c.hlab c.head c.hsp c.locals hh1 hc.hf ob pb q0 hq0
  have gv : ∀ ob pb, Gives env4 27 [sl5 false c.hlab c.head c.hsp] ob pb (sl2 true 0 (varsC [] c.head) [], ob) := fun ob pb => (varsOf_ok ⟨c.hlab, c.head, c.hsp⟩ hh1 ob pb).le le14
  have hvl := varsC_len c.head []
  simp only [List.length_nil] at hvl
  -- behind the looks that the kind of error chooses
  have yes : (e = 6 ∧ (c.locals < 0 ∨ BadT c.head c.locals)) → LV.bool true = LV.bool r := fun h => bool_of hr ⟨fun _ => .inl h, fun _ => rfl⟩
  obtain ⟨pre, hpre⟩ : ∃ pre : Prop, pre ↔ ¬ (e = 6 ∧ (c.locals < 0 ∨ BadT c.head c.locals)) := ⟨_, Iff.rfl⟩
  conv => whnf
  have main : ∀ (R : Ex → WSt → Prop) (w : WSt), True → True := fun _ _ _ => trivial
  refine sel_split (fun h6 => ?_) (fun h6 => ?_)
  · have h6 : e = 6 := by simpa using h6
    conv => whnf
    refine sel_split (fun h7 => ?_) (fun h7 => ?_)
    · conv => whnf
      have h7 := of_decide_eq_true h7
      exact ⟨rfl, yes ⟨h6, .inl h7⟩, rfl⟩
    · conv => whnf
      have h7 := of_decide_eq_false h7
      refine ⟨_, _, gh _ _, fun _ => rfl, ?_⟩
      conv => whnf
      refine sel_split (fun h8 => ?_) (fun h8 => ?_)
      · conv => whnf
        exact ⟨rfl, yes ⟨h6, .inr (hq0.1 h8)⟩, rfl⟩
      · have hp : pre := hpre.2 (fun h => by
          rcases h.2 with h | h
          · exact h7 h
          · rw [hq0.2 h] at h8; cases h8)
        clear yes h6
        revert hp
        intro hp
        have hp := hpre.1 hp
        conv => whnf
        refine loop_v (V := fun i : Nat => [(7, .int .i64 i)]) (O := fun _ => ob) (m := fun i => c.guards.length - i) (P := fun i => i ≤ c.guards.length ∧ ∀ (k : Nat) g, k < i → c.guards[k]? = some g → ¬ GB c e g) ?_ 0 ⟨Nat.zero_le _, fun k v h => by omega⟩ rfl
        rintro R i ⟨hi, hP⟩ hN hE hRt
        conv => whnf
        refine sel_split (fun h => ?_) (fun h => ?_)
        · have h := of_decide_eq_true h
          rw [hgl] at h
          obtain ⟨g, hg⟩ : ∃ s, c.guards[i]? = some s := ⟨_, List.getElem?_eq_getElem (show i < c.guards.length by omega)⟩
          have ei : IntKind.i64.wrap ((i : Int) + 1) = ((i + 1 : Nat) : Int) := by rw [wrap64] <;> omega
          have hgm := List.mem_of_getElem? hg
          have hgf := hc.gf g hgm
          have hgL := hc.gc g hgm
          obtain ⟨b1, hb1⟩ := boolOf (BadT g.cs c.locals)
          obtain ⟨b2, hb2⟩ := boolOf (RightP g.cs ∧ GuardP g.cs)
          obtain ⟨b3, hb3⟩ := boolOf (WithinP g.cs (varsC [] c.head))
          have g1 : ∀ ob pb, Gives env4 322 [sl5 false g.lab g.cs g.sp, .int .i64 c.locals] ob pb (.bool b1, ob) := fun ob pb => refBad_ok g.lab g.cs g.sp c.locals hgL hgf.2 ob pb b1 hb1
          have g2 : ∀ ob pb, Gives env4 283 [sl5 false g.lab g.cs g.sp] ob pb (.bool b2, ob) := fun ob pb => refGuard_ok g.lab g.cs g.sp hgf.1 hgf.2 ob pb b2 hb2
          have g3 : ∀ ob pb, Gives env4 323 [sl5 false g.lab g.cs g.sp, sl2 false 0 (varsC [] c.head) []] ob pb (.bool b3, ob) := fun ob pb => refWithin_ok g.lab g.cs g.sp 0 (varsC [] c.head) [] hgL (by omega) ob pb b3 hb3
          have hGB : GB c e g ↔ (e = 6 ∧ b1 = true) ∨ (e = 41 ∧ (b2 = false ∨ b3 = false)) := by
            unfold GB; rw [← hb1, ← hb2, ← hb3]; simp
          have stop : (e = 6 ∧ b1 = true) ∨ (e = 41 ∧ (b2 = false ∨ b3 = false)) → LV.bool true = LV.bool r := fun h => bool_of hr ⟨fun _ => .inr (.inl ⟨g, hgm, hGB.2 h⟩), fun _ => rfl⟩
          have next : ¬ ((e = 6 ∧ b1 = true) ∨ (e = 41 ∧ (b2 = false ∨ b3 = false))) → i + 1 ≤ c.guards.length ∧ ∀ (k : Nat) g, k < i + 1 → c.guards[k]? = some g → ¬ GB c e g := fun hn => ⟨by omega, fun k d hk hd => by
            by_cases hki : k = i
            · subst hki; rw [hg] at hd; cases hd; exact fun h => hn (hGB.1 h)
            · exact hP k d (by omega) hd⟩
          clear hb1 hb2 hb3 hGB hpre hp hq0 main hP
          conv => whnf
          repeat' first
            | (refine sel_split (fun _ => ?_) (fun _ => ?_) <;> conv => whnf)
            | (refine ⟨_, ⟨by omega, idx_t hg⟩, ?_⟩; conv => whnf)
            | (refine ⟨_, _, g1 _ _, fun _ => rfl, ?_⟩; conv => whnf)
            | (refine ⟨_, _, g2 _ _, fun _ => rfl, ?_⟩; conv => whnf)
            | (refine ⟨_, _, gv _ _, fun _ => noRef2 _ _ _ _, ?_⟩; conv => whnf)
            | (refine ⟨_, _, g3 _ _, fun _ => rfl, ?_⟩; conv => whnf)
          all_goals
            first
            | (refine hRt _ ?_
               conv => whnf
               refine ⟨rfl, stop ?_, rfl⟩
               try simp only [beq_iff_eq, beq_eq_false_iff_ne, ne_eq, bytes_eq, Bool.not_eq_true', Bool.not_eq_false', decide_eq_true_eq, decide_eq_false_iff_not] at *
               grind)
            | (refine hN (i + 1) _ (next ?_) (by omega) ?_
               · try simp only [beq_iff_eq, beq_eq_false_iff_ne, ne_eq, bytes_eq, Bool.not_eq_true', Bool.not_eq_false', decide_eq_true_eq, decide_eq_false_iff_not] at *
                 grind
               · rw [← ei]; rfl)
        · have h := of_decide_eq_false h
          rw [hgl] at h
          have hG : ¬ ∃ g ∈ c.guards, GB c e g := fun ⟨g, hm, hx⟩ => by
            obtain ⟨k, hk, ek⟩ := List.getElem_of_mem hm
            exact hP k g (by omega) (by rw [List.getElem?_eq_getElem hk, ek]) hx
          clear hP
          conv => whnf
          refine hE _ _ ?_
          clear hN hE hRt R
          conv => whnf
          refine loop_v (V := fun i : Nat => [(8, .int .i64 i)]) (O := fun _ => ob) (m := fun i => c.body.length - i) (P := fun i => i ≤ c.body.length ∧ ∀ (k : Nat) g, k < i → c.body[k]? = some g → ¬ BB c e g) ?_ 0 ⟨Nat.zero_le _, fun k v h => by omega⟩ rfl
          clear hi h
          rintro R i ⟨hi, hP⟩ hN hE hRt
          conv => whnf
          refine sel_split (fun h => ?_) (fun h => ?_)
          · have h := of_decide_eq_true h
            rw [hbl] at h
            obtain ⟨g, hg⟩ : ∃ s, c.body[i]? = some s := ⟨_, List.getElem?_eq_getElem (show i < c.body.length by omega)⟩
            have ei : IntKind.i64.wrap ((i : Int) + 1) = ((i + 1 : Nat) : Int) := by rw [wrap64] <;> omega
            have hgm := List.mem_of_getElem? hg
            have hgf := hc.bf g hgm
            have hgL := hc.bc g hgm
            obtain ⟨b1, hb1⟩ := boolOf (BadT g.cs c.locals)
            obtain ⟨b2, hb2⟩ := boolOf (RightP g.cs ∧ GoalP True g.cs)
            have g1 : ∀ ob pb, Gives env4 322 [sl5 false g.lab g.cs g.sp, .int .i64 c.locals] ob pb (.bool b1, ob) := fun ob pb => refBad_ok g.lab g.cs g.sp c.locals hgL hgf.2 ob pb b1 hb1
            have g2 : ∀ ob pb, Gives env4 285 [sl5 false g.lab g.cs g.sp] ob pb (.bool b2, ob) := fun ob pb => refIsGoal_ok g.lab g.cs g.sp hgf.1 hgf.2 ob pb b2 hb2
            have hGB : BB c e g ↔ (e = 6 ∧ b1 = true) ∨ (e = 42 ∧ b2 = false) := by
              unfold BB; rw [← hb1, ← hb2]; simp
            have stop : (e = 6 ∧ b1 = true) ∨ (e = 42 ∧ b2 = false) → LV.bool true = LV.bool r := fun h => bool_of hr ⟨fun _ => .inr (.inr (.inl ⟨g, hgm, hGB.2 h⟩)), fun _ => rfl⟩
            have next : ¬ ((e = 6 ∧ b1 = true) ∨ (e = 42 ∧ b2 = false)) → i + 1 ≤ c.body.length ∧ ∀ (k : Nat) g, k < i + 1 → c.body[k]? = some g → ¬ BB c e g := fun hn => ⟨by omega, fun k d hk hd => by
              by_cases hki : k = i
              · subst hki; rw [hg] at hd; cases hd; exact fun h => hn (hGB.1 h)
              · exact hP k d (by omega) hd⟩
            clear hb1 hb2 hGB hpre hp hq0 main hP hG
            conv => whnf
            repeat' first
              | (refine sel_split (fun _ => ?_) (fun _ => ?_) <;> conv => whnf)
              | (refine ⟨_, ⟨by omega, idx_t hg⟩, ?_⟩; conv => whnf)
              | (refine ⟨_, _, g1 _ _, fun _ => rfl, ?_⟩; conv => whnf)
              | (refine ⟨_, _, g2 _ _, fun _ => rfl, ?_⟩; conv => whnf)
            all_goals
              first
              | (refine hRt _ ?_
                 conv => whnf
                 refine ⟨rfl, stop ?_, rfl⟩
                 try simp only [beq_iff_eq, beq_eq_false_iff_ne, ne_eq, bytes_eq, Bool.not_eq_true', Bool.not_eq_false', decide_eq_true_eq, decide_eq_false_iff_not] at *
                 grind)
              | (refine hN (i + 1) _ (next ?_) (by omega) ?_
                 · try simp only [beq_iff_eq, beq_eq_false_iff_ne, ne_eq, bytes_eq, Bool.not_eq_true', Bool.not_eq_false', decide_eq_true_eq, decide_eq_false_iff_not] at *
                   grind
                 · rw [← ei]; rfl)
          · have h := of_decide_eq_false h
            rw [hbl] at h
            have hB : ¬ ∃ g ∈ c.body, BB c e g := fun ⟨g, hm, hx⟩ => by
              obtain ⟨k, hk, ek⟩ := List.getElem_of_mem hm
              exact hP k g (by omega) (by rw [List.getElem?_eq_getElem hk, ek]) hx
            clear hP
            conv => whnf
            refine hE _ _ ?_
            clear hN hE hRt R
            conv => whnf
            have hrest : RestW p c e ↔ (e = 43 ∧ ∃ q ∈ callsC [] c.body, clausesC p q = []) := by
              unfold RestW
              constructor
              · rintro (h | h | h | h)
                · exact absurd h hp
                · exact absurd h hG
                · exact absurd h hB
                · exact h
              · intro h; exact .inr (.inr (.inr h))
            rw [hrest] at hr
            refine sel_split (fun h9 => ?_) (fun h9 => ?_)
            · have h9 : e = 43 := by simpa using h9
              conv => whnf
              refine ⟨_, _, refCallsOf_ok c hc ob _, fun _ => noRefP _ _ _ _, ?_⟩
              have hcl := callsC_len c.body []
              simp only [List.length_nil] at hcl
              generalize callsC [] c.body = ns at hr hcl ⊢
              have hnl : (ns.map prow).length = ns.length := by simp
              conv => whnf
              refine loop_v (V := fun i : Nat => [(10, .int .i64 i)]) (O := fun _ => ob) (m := fun i => ns.length - i) (P := fun i => i ≤ ns.length ∧ ∀ (k : Nat) g, k < i → ns[k]? = some g → clausesC p g ≠ []) ?_ 0 ⟨Nat.zero_le _, fun k v h => by omega⟩ rfl
              clear hi h
              rintro R i ⟨hi, hP⟩ hN hE hRt
              conv => whnf
              refine sel_split (fun h => ?_) (fun h => ?_)
              · have h := of_decide_eq_true h
                rw [hnl] at h
                obtain ⟨q, hq⟩ : ∃ s, ns[i]? = some s := ⟨_, List.getElem?_eq_getElem (show i < ns.length by omega)⟩
                have ei : IntKind.i64.wrap ((i : Int) + 1) = ((i + 1 : Nat) : Int) := by rw [wrap64] <;> omega
                conv => whnf
                refine ⟨_, ⟨by omega, idx_p hq⟩, ?_⟩
                conv => whnf
                refine ⟨_, ⟨by omega, idx_p hq⟩, ?_⟩
                conv => whnf
                refine ⟨_, _, refClauses_ok lab p sp q hl hf ob _, fun _ => noRefN _ _ _ _, ?_⟩
                obtain ⟨ks, hks⟩ : ∃ ks, ks = clausesC p q := ⟨_, rfl⟩
                rw [← hks]
                have hkl : (ks.map irow).length = ks.length := by simp
                conv => whnf
                refine sel_split (fun h8 => ?_) (fun h8 => ?_)
                · conv => whnf
                  have h8 : ks = [] := by
                    rw [hkl] at h8; simpa using h8
                  refine hRt _ ?_
                  conv => whnf
                  exact ⟨rfl, bool_of hr ⟨fun _ => ⟨h9, q, List.mem_of_getElem? hq, by rw [← hks, h8]⟩, fun _ => rfl⟩, rfl⟩
                · conv => whnf
                  have h8 : ks ≠ [] := by
                    rw [hkl] at h8; simpa using h8
                  refine hN (i + 1) _ ⟨by omega, fun k d hk hd => ?_⟩ (by omega) ?_
                  · by_cases hki : k = i
                    · subst hki; rw [hq] at hd; cases hd; rw [← hks]; exact h8
                    · exact hP k d (by omega) hd
                  · rw [← ei]; rfl
              · have h := of_decide_eq_false h
                rw [hnl] at h
                conv => whnf
                refine hE _ _ ?_
                conv => whnf
                refine ⟨rfl, bool_of hr ⟨fun e => (nomatch e), fun ⟨_, q, hm, hx⟩ => ?_⟩, rfl⟩
                obtain ⟨k, hk, ek⟩ := List.getElem_of_mem hm
                exact absurd hx (hP k q (by omega) (by rw [List.getElem?_eq_getElem hk, ek]))
            · have h9 : e ≠ 43 := by simpa using h9
              conv => whnf
              exact ⟨rfl, bool_of hr ⟨fun e => (nomatch e), fun h => absurd h.1 h9⟩, rfl⟩
  · have h6 : e ≠ 6 := by simpa using h6
    have hp : pre := hpre.2 (fun h => h6 h.1)
    clear yes h6
    revert hp
    intro hp
    have hp := hpre.1 hp
    conv => whnf
    refine loop_v (V := fun i : Nat => [(7, .int .i64 i)]) (O := fun _ => ob) (m := fun i => c.guards.length - i) (P := fun i => i ≤ c.guards.length ∧ ∀ (k : Nat) g, k < i → c.guards[k]? = some g → ¬ GB c e g) ?_ 0 ⟨Nat.zero_le _, fun k v h => by omega⟩ rfl
    rintro R i ⟨hi, hP⟩ hN hE hRt
    conv => whnf
    refine sel_split (fun h => ?_) (fun h => ?_)
    · have h := of_decide_eq_true h
      rw [hgl] at h
      obtain ⟨g, hg⟩ : ∃ s, c.guards[i]? = some s := ⟨_, List.getElem?_eq_getElem (show i < c.guards.length by omega)⟩
      have ei : IntKind.i64.wrap ((i : Int) + 1) = ((i + 1 : Nat) : Int) := by rw [wrap64] <;> omega
      have hgm := List.mem_of_getElem? hg
      have hgf := hc.gf g hgm
      have hgL := hc.gc g hgm
      obtain ⟨b1, hb1⟩ := boolOf (BadT g.cs c.locals)
      obtain ⟨b2, hb2⟩ := boolOf (RightP g.cs ∧ GuardP g.cs)
      obtain ⟨b3, hb3⟩ := boolOf (WithinP g.cs (varsC [] c.head))
      have g1 : ∀ ob pb, Gives env4 322 [sl5 false g.lab g.cs g.sp, .int .i64 c.locals] ob pb (.bool b1, ob) := fun ob pb => refBad_ok g.lab g.cs g.sp c.locals hgL hgf.2 ob pb b1 hb1
      have g2 : ∀ ob pb, Gives env4 283 [sl5 false g.lab g.cs g.sp] ob pb (.bool b2, ob) := fun ob pb => refGuard_ok g.lab g.cs g.sp hgf.1 hgf.2 ob pb b2 hb2
      have g3 : ∀ ob pb, Gives env4 323 [sl5 false g.lab g.cs g.sp, sl2 false 0 (varsC [] c.head) []] ob pb (.bool b3, ob) := fun ob pb => refWithin_ok g.lab g.cs g.sp 0 (varsC [] c.head) [] hgL (by omega) ob pb b3 hb3
      have hGB : GB c e g ↔ (e = 6 ∧ b1 = true) ∨ (e = 41 ∧ (b2 = false ∨ b3 = false)) := by
        unfold GB; rw [← hb1, ← hb2, ← hb3]; simp
      have stop : (e = 6 ∧ b1 = true) ∨ (e = 41 ∧ (b2 = false ∨ b3 = false)) → LV.bool true = LV.bool r := fun h => bool_of hr ⟨fun _ => .inr (.inl ⟨g, hgm, hGB.2 h⟩), fun _ => rfl⟩
      have next : ¬ ((e = 6 ∧ b1 = true) ∨ (e = 41 ∧ (b2 = false ∨ b3 = false))) → i + 1 ≤ c.guards.length ∧ ∀ (k : Nat) g, k < i + 1 → c.guards[k]? = some g → ¬ GB c e g := fun hn => ⟨by omega, fun k d hk hd => by
        by_cases hki : k = i
        · subst hki; rw [hg] at hd; cases hd; exact fun h => hn (hGB.1 h)
        · exact hP k d (by omega) hd⟩
      clear hb1 hb2 hb3 hGB hpre hp hq0 main hP
      conv => whnf
      repeat' first
        | (refine sel_split (fun _ => ?_) (fun _ => ?_) <;> conv => whnf)
        | (refine ⟨_, ⟨by omega, idx_t hg⟩, ?_⟩; conv => whnf)
        | (refine ⟨_, _, g1 _ _, fun _ => rfl, ?_⟩; conv => whnf)
        | (refine ⟨_, _, g2 _ _, fun _ => rfl, ?_⟩; conv => whnf)
        | (refine ⟨_, _, gv _ _, fun _ => noRef2 _ _ _ _, ?_⟩; conv => whnf)
        | (refine ⟨_, _, g3 _ _, fun _ => rfl, ?_⟩; conv => whnf)
      all_goals
        first
        | (refine hRt _ ?_
           conv => whnf
           refine ⟨rfl, stop ?_, rfl⟩
           try simp only [beq_iff_eq, beq_eq_false_iff_ne, ne_eq, bytes_eq, Bool.not_eq_true', Bool.not_eq_false', decide_eq_true_eq, decide_eq_false_iff_not] at *
           grind)
        | (refine hN (i + 1) _ (next ?_) (by omega) ?_
           · try simp only [beq_iff_eq, beq_eq_false_iff_ne, ne_eq, bytes_eq, Bool.not_eq_true', Bool.not_eq_false', decide_eq_true_eq, decide_eq_false_iff_not] at *
             grind
           · rw [← ei]; rfl)
    · have h := of_decide_eq_false h
      rw [hgl] at h
      have hG : ¬ ∃ g ∈ c.guards, GB c e g := fun ⟨g, hm, hx⟩ => by
        obtain ⟨k, hk, ek⟩ := List.getElem_of_mem hm
        exact hP k g (by omega) (by rw [List.getElem?_eq_getElem hk, ek]) hx
      clear hP
      conv => whnf
      refine hE _ _ ?_
      clear hN hE hRt R
      conv => whnf
      refine loop_v (V := fun i : Nat => [(8, .int .i64 i)]) (O := fun _ => ob) (m := fun i => c.body.length - i) (P := fun i => i ≤ c.body.length ∧ ∀ (k : Nat) g, k < i → c.body[k]? = some g → ¬ BB c e g) ?_ 0 ⟨Nat.zero_le _, fun k v h => by omega⟩ rfl
      clear hi h
      rintro R i ⟨hi, hP⟩ hN hE hRt
      conv => whnf
      refine sel_split (fun h => ?_) (fun h => ?_)
      · have h := of_decide_eq_true h
        rw [hbl] at h
        obtain ⟨g, hg⟩ : ∃ s, c.body[i]? = some s := ⟨_, List.getElem?_eq_getElem (show i < c.body.length by omega)⟩
        have ei : IntKind.i64.wrap ((i : Int) + 1) = ((i + 1 : Nat) : Int) := by rw [wrap64] <;> omega
        have hgm := List.mem_of_getElem? hg
        have hgf := hc.bf g hgm
        have hgL := hc.bc g hgm
        obtain ⟨b1, hb1⟩ := boolOf (BadT g.cs c.locals)
        obtain ⟨b2, hb2⟩ := boolOf (RightP g.cs ∧ GoalP True g.cs)
        have g1 : ∀ ob pb, Gives env4 322 [sl5 false g.lab g.cs g.sp, .int .i64 c.locals] ob pb (.bool b1, ob) := fun ob pb => refBad_ok g.lab g.cs g.sp c.locals hgL hgf.2 ob pb b1 hb1
        have g2 : ∀ ob pb, Gives env4 285 [sl5 false g.lab g.cs g.sp] ob pb (.bool b2, ob) := fun ob pb => refIsGoal_ok g.lab g.cs g.sp hgf.1 hgf.2 ob pb b2 hb2
        have hGB : BB c e g ↔ (e = 6 ∧ b1 = true) ∨ (e = 42 ∧ b2 = false) := by
          unfold BB; rw [← hb1, ← hb2]; simp
        have stop : (e = 6 ∧ b1 = true) ∨ (e = 42 ∧ b2 = false) → LV.bool true = LV.bool r := fun h => bool_of hr ⟨fun _ => .inr (.inr (.inl ⟨g, hgm, hGB.2 h⟩)), fun _ => rfl⟩
        have next : ¬ ((e = 6 ∧ b1 = true) ∨ (e = 42 ∧ b2 = false)) → i + 1 ≤ c.body.length ∧ ∀ (k : Nat) g, k < i + 1 → c.body[k]? = some g → ¬ BB c e g := fun hn => ⟨by omega, fun k d hk hd => by
          by_cases hki : k = i
          · subst hki; rw [hg] at hd; cases hd; exact fun h => hn (hGB.1 h)
          · exact hP k d (by omega) hd⟩
        clear hb1 hb2 hGB hpre hp hq0 main hP hG
        conv => whnf
        repeat' first
          | (refine sel_split (fun _ => ?_) (fun _ => ?_) <;> conv => whnf)
          | (refine ⟨_, ⟨by omega, idx_t hg⟩, ?_⟩; conv => whnf)
          | (refine ⟨_, _, g1 _ _, fun _ => rfl, ?_⟩; conv => whnf)
          | (refine ⟨_, _, g2 _ _, fun _ => rfl, ?_⟩; conv => whnf)
        all_goals
          first
          | (refine hRt _ ?_
             conv => whnf
             refine ⟨rfl, stop ?_, rfl⟩
             try simp only [beq_iff_eq, beq_eq_false_iff_ne, ne_eq, bytes_eq, Bool.not_eq_true', Bool.not_eq_false', decide_eq_true_eq, decide_eq_false_iff_not] at *
             grind)
          | (refine hN (i + 1) _ (next ?_) (by omega) ?_
             · try simp only [beq_iff_eq, beq_eq_false_iff_ne, ne_eq, bytes_eq, Bool.not_eq_true', Bool.not_eq_false', decide_eq_true_eq, decide_eq_false_iff_not] at *
               grind
             · rw [← ei]; rfl)
      · have h := of_decide_eq_false h
        rw [hbl] at h
        have hB : ¬ ∃ g ∈ c.body, BB c e g := fun ⟨g, hm, hx⟩ => by
          obtain ⟨k, hk, ek⟩ := List.getElem_of_mem hm
          exact hP k g (by omega) (by rw [List.getElem?_eq_getElem hk, ek]) hx
        clear hP
        conv => whnf
        refine hE _ _ ?_
        clear hN hE hRt R
        conv => whnf
        have hrest : RestW p c e ↔ (e = 43 ∧ ∃ q ∈ callsC [] c.body, clausesC p q = []) := by
          unfold RestW
          constructor
          · rintro (h | h | h | h)
            · exact absurd h hp
            · exact absurd h hG
            · exact absurd h hB
            · exact h
          · intro h; exact .inr (.inr (.inr h))
        rw [hrest] at hr
        refine sel_split (fun h9 => ?_) (fun h9 => ?_)
        · have h9 : e = 43 := by simpa using h9
          conv => whnf
          refine ⟨_, _, refCallsOf_ok c hc ob _, fun _ => noRefP _ _ _ _, ?_⟩
          have hcl := callsC_len c.body []
          simp only [List.length_nil] at hcl
          generalize callsC [] c.body = ns at hr hcl ⊢
          have hnl : (ns.map prow).length = ns.length := by simp
          conv => whnf
          refine loop_v (V := fun i : Nat => [(10, .int .i64 i)]) (O := fun _ => ob) (m := fun i => ns.length - i) (P := fun i => i ≤ ns.length ∧ ∀ (k : Nat) g, k < i → ns[k]? = some g → clausesC p g ≠ []) ?_ 0 ⟨Nat.zero_le _, fun k v h => by omega⟩ rfl
          clear hi h
          rintro R i ⟨hi, hP⟩ hN hE hRt
          conv => whnf
          refine sel_split (fun h => ?_) (fun h => ?_)
          · have h := of_decide_eq_true h
            rw [hnl] at h
            obtain ⟨q, hq⟩ : ∃ s, ns[i]? = some s := ⟨_, List.getElem?_eq_getElem (show i < ns.length by omega)⟩
            have ei : IntKind.i64.wrap ((i : Int) + 1) = ((i + 1 : Nat) : Int) := by rw [wrap64] <;> omega
            conv => whnf
            refine ⟨_, ⟨by omega, idx_p hq⟩, ?_⟩
            conv => whnf
            refine ⟨_, ⟨by omega, idx_p hq⟩, ?_⟩
            conv => whnf
            refine ⟨_, _, refClauses_ok lab p sp q hl hf ob _, fun _ => noRefN _ _ _ _, ?_⟩
            obtain ⟨ks, hks⟩ : ∃ ks, ks = clausesC p q := ⟨_, rfl⟩
            rw [← hks]
            have hkl : (ks.map irow).length = ks.length := by simp
            conv => whnf
            refine sel_split (fun h8 => ?_) (fun h8 => ?_)
            · conv => whnf
              have h8 : ks = [] := by
                rw [hkl] at h8; simpa using h8
              refine hRt _ ?_
              conv => whnf
              exact ⟨rfl, bool_of hr ⟨fun _ => ⟨h9, q, List.mem_of_getElem? hq, by rw [← hks, h8]⟩, fun _ => rfl⟩, rfl⟩
            · conv => whnf
              have h8 : ks ≠ [] := by
                rw [hkl] at h8; simpa using h8
              refine hN (i + 1) _ ⟨by omega, fun k d hk hd => ?_⟩ (by omega) ?_
              · by_cases hki : k = i
                · subst hki; rw [hq] at hd; cases hd; rw [← hks]; exact h8
                · exact hP k d (by omega) hd
              · rw [← ei]; rfl
          · have h := of_decide_eq_false h
            rw [hnl] at h
            conv => whnf
            refine hE _ _ ?_
            conv => whnf
            refine ⟨rfl, bool_of hr ⟨fun e => (nomatch e), fun ⟨_, q, hm, hx⟩ => ?_⟩, rfl⟩
            obtain ⟨k, hk, ek⟩ := List.getElem_of_mem hm
            exact absurd hx (hP k q (by omega) (by rw [List.getElem?_eq_getElem hk, ek]))
        · have h9 : e ≠ 43 := by simpa using h9
          conv => whnf
          exact ⟨rfl, bool_of hr ⟨fun e => (nomatch e), fun h => absurd h.1 h9⟩, rfl⟩
end Tree

set_option autoImplicit false
set_option linter.unusedVariables false
set_option linter.unusedSimpArgs false
namespace Tree
open Go
set_option maxHeartbeats 4000000
set_option maxRecDepth 100000
theorem mem_varsT : ∀ {ts : List T1} {acc : List NV} {v : NV}, v ∈ varsT acc ts ↔ v ∈ acc ∨ ∃ t ∈ ts, v ∈ varsC [] t.cs
  | [], acc, v => by simp [varsT]
  | t :: ts, acc, v => by
    have e : varsT acc (t :: ts) = varsT (varsC acc t.cs) ts := rfl
    rw [e, mem_varsT, mem_varsC]
    simp only [List.mem_cons, exists_eq_or_imp, or_assoc]
    rw [mem_varsC t.cs [] v]
    simp
theorem varsC_cnt : ∀ (cs : List C) (acc : List NV), (varsC acc cs).length ≤ acc.length + cntV cs
  | [], acc => by simp [varsC]
  | c :: cs, acc => by
    have h := varsC_cnt cs (varC acc c)
    have e : varsC acc (c :: cs) = varsC (varC acc c) cs := rfl
    have e2 : cntV (c :: cs) = cntV cs + (if c.k = 4 then 1 else 0) := by
      unfold cntV
      by_cases hk : c.k = 4
      · simp [hk]
      · simp [hk]
    have e3 : (varC acc c).length ≤ acc.length + (if c.k = 4 then 1 else 0) := by
      unfold varC addN
      grind
    rw [e, e2]; omega
theorem clausesC_nil {p : List Cl} {q : PV} : clausesC p q = [] ↔ q ∉ predsC [] p := by
  rw [mem_predsC, List.eq_nil_iff_forall_not_mem]
  constructor
  · rintro h (h1 | ⟨c, h1, h2⟩)
    · cases h1
    · obtain ⟨i, hi, e⟩ := List.getElem_of_mem h1
      exact h i (clausesN_mem.2 ⟨hi, c, by rw [List.getElem?_eq_getElem hi, e], h2⟩)
  · intro h i hi
    obtain ⟨_, c, h1, h2⟩ := clausesN_mem.1 hi
    exact h (.inr ⟨c, List.mem_of_getElem? h1, h2⟩)
theorem wrong_look {p : List Cl} {c : Cl} (hc : c ∈ p) {k : Nat} (hk : k < 6) (hP : Passed (predsC [] p) p k) : WrongR p c (errAt k) ↔ LookW (predsC [] p) k c := by
  have : k = 0 ∨ k = 1 ∨ k = 2 ∨ k = 3 ∨ k = 4 ∨ k = 5 := by omega
  rcases this with rfl | rfl | rfl | rfl | rfl | rfl
  · simp [WrongR, errAt, LookW]
  · have : WrongR p c (errAt 1) ↔ (c.locals < 0 ∨ ∃ t ∈ termsOf c, BadT t.cs c.locals) := by
      have e : termsOf c = (⟨c.hlab, c.head, c.hsp⟩ : T1) :: (c.guards ++ c.body) := rfl
      rw [e]
      simp only [WrongR, errAt, RestW, GB, BB, List.mem_cons, List.mem_append]
      simp
      constructor
      · rintro ((h | h) | h | h)
        · exact .inl h
        · exact .inr (.inl h)
        · obtain ⟨g, h1, h2⟩ := h; exact .inr (.inr ⟨g, .inl h1, h2⟩)
        · obtain ⟨g, h1, h2⟩ := h; exact .inr (.inr ⟨g, .inr h1, h2⟩)
      · rintro (h | h | ⟨g, h1 | h1, h2⟩)
        · exact .inl (.inl h)
        · exact .inl (.inr h)
        · exact .inr (.inl ⟨g, h1, h2⟩)
        · exact .inr (.inr ⟨g, h1, h2⟩)
    rw [this]
    show _ ↔ FormW c
    unfold FormW BadT
    constructor
    · rintro (h | ⟨t, h1, h2 | ⟨v, h2, h3⟩⟩)
      · exact .inl h
      · exact .inr (.inl ⟨t, h1, h2⟩)
      · exact .inr (.inr ⟨v, mem_varsT.2 (.inr ⟨t, h1, h2⟩), h3⟩)
    · rintro (h | ⟨t, h1, h2⟩ | ⟨v, h1, h2⟩)
      · exact .inl h
      · exact .inr ⟨t, h1, .inl h2⟩
      · rcases mem_varsT.1 h1 with h | ⟨t, h3, h4⟩
        · cases h
        · exact .inr ⟨t, h3, .inr ⟨v, h4, h2⟩⟩
  · obtain ⟨hR, _, _⟩ := hP.right (by omega) hc
    obtain ⟨d, t, hd⟩ := right_cons hR
    have h1 := varsC_cnt c.head []
    simp only [List.length_nil, Nat.zero_add] at h1
    have : WrongR p c (errAt 2) ↔ HdW c := by simp [WrongR, errAt]
    rw [this]
    show _ ↔ HeadW c
    unfold HdW HeadW
    have h2 : HdP c.head ↔ CalP c.head := by
      rw [hd] at hR ⊢
      obtain ⟨k1, _, _⟩ := right_kinds hR
      rw [hd_cons, call_cons]
      grind
    rw [h2]
    have h3 : cntV c.head ≠ (varsC [] c.head).length ↔ cntV c.head > (varsC [] c.head).length := by omega
    rw [h3]
  · obtain ⟨hR, hG, hB⟩ := hP.right (by omega) hc
    have : WrongR p c (errAt 3) ↔ ∃ g ∈ c.guards, ¬ (RightP g.cs ∧ GuardP g.cs) ∨ ¬ WithinP g.cs (varsC [] c.head) := by
      simp only [WrongR, errAt, RestW, GB, BB]; simp
    rw [this]
    show _ ↔ GuardW c
    unfold GuardW WithinP
    constructor
    · rintro ⟨g, h1, h2 | h2⟩
      · exact ⟨g, h1, .inl fun h => h2 ⟨hG g h1, h⟩⟩
      · refine ⟨g, h1, .inr ?_⟩
        simpa using h2
    · rintro ⟨g, h1, h2 | ⟨v, h2, h3⟩⟩
      · exact ⟨g, h1, .inl fun h => h2 h.2⟩
      · exact ⟨g, h1, .inr fun h => h3 (h v h2)⟩
  · obtain ⟨hR, hG, hB⟩ := hP.right (by omega) hc
    have : WrongR p c (errAt 4) ↔ ∃ g ∈ c.body, ¬ (RightP g.cs ∧ GoalP True g.cs) := by
      simp only [WrongR, errAt, RestW, GB, BB]; simp
    rw [this]
    show _ ↔ BodyW c
    unfold BodyW
    constructor
    · rintro ⟨g, h1, h2⟩; exact ⟨g, h1, fun h => h2 ⟨hB g h1, h⟩⟩
    · rintro ⟨g, h1, h2⟩; exact ⟨g, h1, fun h => h2 h.2⟩
  · have : WrongR p c (errAt 5) ↔ ∃ q ∈ callsC [] c.body, clausesC p q = [] := by
      simp only [WrongR, errAt, RestW, GB, BB]; simp
    rw [this]
    show _ ↔ PredW _ c
    unfold PredW
    simp only [clausesC_nil]
theorem refWhere_ok (lab : Nat) (p : List Cl) (sp : List (List LV)) (hl : p.length ≤ 1048576) (hf : ∀ c ∈ p, c.fine) (j e : Int) (hw : WhereR p j e) (ob : Obs) (pb : Nat) : Gives env4 274 [slC false lab p sp] ob pb (.tup [.int .i64 j, .int .i64 e], ob) := by
  have hlen : (p.map Cl.row).length = p.length := by simp
  refine gives_code (f := tf274) rfl ?_
  conv => whnf
  refine sel_split (fun h => ?_) (fun h => ?_)
  · conv => whnf
    have h := of_decide_eq_true h
    rw [hlen] at h
    refine ⟨rfl, ?_, rfl⟩
    rcases hw with ⟨_, rfl, rfl⟩ | ⟨h1, _⟩
    · rfl
    · omega
  · have h := of_decide_eq_false h
    rw [hlen] at h
    have hw : Found p j e ∨ (j = 0 ∧ e = 0 ∧ Passed (predsC [] p) p 6) := by
      rcases hw with ⟨h1, _⟩ | ⟨_, h1⟩
      · omega
      · exact h1
    have hit : ∀ (k i : Nat) c, k < 6 → Passed (predsC [] p) p k → p[i]? = some c → LookW (predsC [] p) k c → (∀ (i' : Nat) c', i' < i → p[i']? = some c' → ¬ LookW (predsC [] p) k c') → j = i ∧ e = errAt k := fun k i c hk hP hc hx hn => by
      rcases hw with ⟨k', i', c', g1, g2, g3, g4, g5, g6, g7⟩ | ⟨_, _, g⟩
      · have hkk : k' = k := by
          rcases Nat.lt_trichotomy k' k with q | q | q
          · exact absurd g5 (hP k' q c' (List.mem_of_getElem? g4))
          · exact q
          · exact absurd hx (g7 k q c (List.mem_of_getElem? hc))
        subst hkk
        have hii : i' = i := by
          rcases Nat.lt_trichotomy i' i with q | q | q
          · exact absurd g5 (hn i' c' q g4)
          · exact q
          · exact absurd hx (g6 i c q hc)
        subst hii
        exact ⟨g3, g2⟩
      · exact absurd hx (g k hk c (List.mem_of_getElem? hc))
    conv => whnf
    refine loop_v (V := fun k : Nat => [(5, .int .i64 k)]) (O := fun _ => ob) (m := fun k => 6 - k) (P := fun k => k ≤ 6 ∧ Passed (predsC [] p) p k) ?_ 0 ⟨Nat.zero_le _, fun k' h => by omega⟩ rfl
    rintro R k ⟨hk, hP⟩ hN hE hR
    conv => whnf
    refine sel_split (fun h2 => ?_) (fun h2 => ?_)
    · have h2 := of_decide_eq_true h2
      have hk5 : k < 6 := by
        have h2 : (k : Int) < 6 := h2
        omega
      have ek : IntKind.i64.wrap ((k : Int) + 1) = ((k + 1 : Nat) : Int) := by rw [wrap64] <;> omega
      have hway : [[LV.int .i64 5], [.int .i64 6], [.int .i64 40], [.int .i64 41], [.int .i64 42], [.int .i64 43]][k]? = some [.int .i64 (errAt k)] := by
        have : k = 0 ∨ k = 1 ∨ k = 2 ∨ k = 3 ∨ k = 4 ∨ k = 5 := by omega
        rcases this with rfl | rfl | rfl | rfl | rfl | rfl <;> rfl
      conv => whnf
      refine loop_v (V := fun i : Nat => [(6, .int .i64 i)]) (O := fun _ => ob) (m := fun i => p.length - i) (P := fun i => i ≤ p.length ∧ ∀ (i' : Nat) c', i' < i → p[i']? = some c' → ¬ LookW (predsC [] p) k c') ?_ 0 ⟨Nat.zero_le _, fun k' c h => by omega⟩ rfl
      rintro R2 i ⟨hi, hP2⟩ hN2 hE2 hR2
      conv => whnf
      refine sel_split (fun h3 => ?_) (fun h3 => ?_)
      · have h3 := of_decide_eq_true h3
        rw [hlen] at h3
        obtain ⟨c, hc⟩ : ∃ c, p[i]? = some c := ⟨_, List.getElem?_eq_getElem (show i < p.length by omega)⟩
        have ei : IntKind.i64.wrap ((i : Int) + 1) = ((i + 1 : Nat) : Int) := by rw [wrap64] <;> omega
        have hcm := List.mem_of_getElem? hc
        obtain ⟨b, hb⟩ := boolOf (WrongR p c (errAt k))
        have hbl := hb.trans (wrong_look hcm hk5 hP)
        conv => whnf
        refine ⟨_, ⟨by omega, idx_c hc⟩, ?_⟩
        conv => whnf
        refine ⟨_, ⟨by omega, hway⟩, ?_⟩
        conv => whnf
        refine ⟨_, _, refWrong_ok lab p sp hl hf c (hf c hcm) (errAt k) ob _ b hb, fun _ => rfl, ?_⟩
        conv => whnf
        refine sel_split (fun h4 => ?_) (fun h4 => ?_)
        · conv => whnf
          obtain ⟨rfl, rfl⟩ := hit k i c hk5 hP hc (hbl.1 h4) hP2
          refine ⟨_, ⟨by omega, hway⟩, ?_⟩
          conv => whnf
          refine hR2 _ ?_
          refine hR _ ?_
          conv => whnf
          exact ⟨rfl, rfl, rfl⟩
        · conv => whnf
          refine hN2 (i + 1) _ ⟨by omega, fun k' d hk' hd => ?_⟩ (by omega) ?_
          · by_cases hki : k' = i
            · subst hki; rw [hc] at hd; cases hd
              intro hx; rw [hbl.2 hx] at h4; cases h4
            · exact hP2 k' d (by omega) hd
          · rw [← ei]; rfl
      · have h3 := of_decide_eq_false h3
        rw [hlen] at h3
        conv => whnf
        refine hE2 _ _ ?_
        conv => whnf
        refine hN (k + 1) _ ⟨by omega, fun k' hk' c hcm => ?_⟩ (by omega) ?_
        · by_cases hki : k' = k
          · subst hki
            obtain ⟨i', hi', e'⟩ := List.getElem_of_mem hcm
            exact hP2 i' c (by omega) (by rw [List.getElem?_eq_getElem hi', e'])
          · exact hP k' (by omega) c hcm
        · rw [← ek]; rfl
    · have h2 := of_decide_eq_false h2
      have hk6 : k = 6 := by
        have h2 : ¬ (k : Int) < 6 := h2
        omega
      subst hk6
      conv => whnf
      refine hE _ _ ?_
      conv => whnf
      refine ⟨rfl, ?_, rfl⟩
      rcases hw with ⟨k', i', c', g1, g2, g3, g4, g5, g6, g7⟩ | ⟨rfl, rfl, _⟩
      · exact absurd g5 (hP k' g1 c' (List.mem_of_getElem? g4))
      · rfl
theorem refProgram_ok (lab : Nat) (p : List Cl) (sp : List (List LV)) (hl : p.length ≤ 1048576) (hf : ∀ c ∈ p, c.fine) (j e : Int) (hw : WhereR p j e) (ob : Obs) (pb : Nat) : Gives env4 277 [slC false lab p sp] ob pb (.int .i64 e, ob) := by
  refine gives_code (f := tf277) rfl ?_
  conv => whnf
  refine ⟨_, _, refWhere_ok lab p sp hl hf j e hw ob _, fun _ => rfl, ?_⟩
  conv => whnf
  exact ⟨rfl, rfl, rfl⟩
end Tree
