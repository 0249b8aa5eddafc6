/- Layer 1: the arguments of a term; the law TermBack, what E answers. -/
import Derived.Test.YtpjoppajohmmnaaDoorL1Walk
import Derived.Test.YtpjoppajohmmnaaDoorL1Makes
set_option autoImplicit false
set_option linter.unusedVariables false
set_option linter.unusedSimpArgs false
namespace Tree
open Go
set_option maxHeartbeats 4000000
set_option maxRecDepth 100000
def T1.mk0 (e : List C) : T1 := ⟨0, e, []⟩
theorem mk0_cs (l : List (List C)) : (l.map T1.mk0).map T1.cs = l := by rw [List.map_map]; simp [Function.comp_def, T1.mk0]
theorem drop_split {l : List C} {a : Nat} {r : List C} (h : walk (l.drop a) 1 = some r) (ha : a ≤ l.length) : r = l.drop (a + ((l.drop a).length - r.length)) ∧ a < a + ((l.drop a).length - r.length) ∧ a + ((l.drop a).length - r.length) ≤ l.length := by
  obtain ⟨pre, h1, h2⟩ := walk_pre _ _ _ h
  have hp : pre ≠ [] := fun e => by rw [e] at h2; have := walk_nil h2; omega
  have hl : 0 < pre.length := List.length_pos_iff.2 hp
  have e : (l.drop a).length - r.length = pre.length := by rw [h1]; simp
  rw [e]
  refine ⟨?_, by omega, ?_⟩
  · rw [← List.drop_drop, h1]; simp
  · have := congrArg List.length h1
    simp at this; omega
def S17 (v o : LV) (i : Int) (ob : Obs) : WSt := ⟨.val v :: .val .undef :: .val .undef :: .val o :: .val (.int .i64 i) :: List.replicate 28 (.val .undef), ob, []⟩
theorem args_ok (lab : Nat) (cs : List C) (sp : List (List LV)) (hl : cs.length ≤ 4611686018427387904) (hf : ∀ c ∈ cs, c.fine) (ob : Obs) (pb : Nat) : Gives env1 17 [sl5 false lab cs sp] ob pb (sl1 true 0 ((argsR cs).map T1.mk0) [], ob) := by
  have hlen : (cs.map C.row).length = cs.length := by simp
  obtain ⟨q, hq⟩ := boolOf (RightP cs)
  have no : ¬ StructP cs → argsR cs = [] := fun h => by unfold argsR; rw [if_neg h]
  refine gives_code (f := tf17) rfl ?_
  conv => whnf
  refine ⟨_, _, right_ok lab cs sp hl hf ob _ q hq, fun _ => rfl, ?_⟩
  conv => whnf
  refine sel_split (fun h1 => ?_) (fun h1 => ?_)
  · conv => whnf
    have h1 : q = false := by simpa using h1
    refine ⟨rfl, ?_, rfl⟩
    rw [no (fun h => by have := hq.2 h.1; rw [h1] at this; cases this)]; rfl
  · conv => whnf
    have h1 : q = true := by simpa using h1
    have hR := hq.1 h1
    obtain ⟨c, r, rfl⟩ : ∃ c r, cs = c :: r := by
      cases cs with
      | nil => exact absurd rfl hR.1
      | cons c r => exact ⟨c, r, rfl⟩
    refine ⟨_, ⟨by omega, idx_row (cs := c :: r) (i := 0) rfl⟩, ?_⟩
    conv => whnf
    refine sel_split (fun h2 => ?_) (fun h2 => ?_)
    · conv => whnf
      have h2 : c.k ≠ 3 := by simpa using h2
      refine ⟨rfl, ?_, rfl⟩
      rw [no (fun h => by
        obtain ⟨_, c', r', e, hk⟩ := h
        injection e with e1 e2
        subst e1; exact h2 hk)]; rfl
    · conv => whnf
      have hk : c.k = 3 := by simpa using h2
      obtain ⟨f1, f2, f3, f4⟩ := args_facts hR hk
      obtain ⟨g1, g2, g3, g4⟩ := struct_facts hR hk
      obtain ⟨_, q2, _, q4⟩ := (right_walk _).1 hR
      refine loop_abs (ι := Nat × Nat × List (List C)) (S := fun p => S17 (sl5 false lab (c :: r) sp) (sl1 true 0 (p.2.2.map T1.mk0) []) p.1 ob) (m := fun p => (c :: r).length - p.1)
        (P := fun p => 1 ≤ p.1 ∧ p.1 ≤ (c :: r).length ∧ walk ((c :: r).drop p.1) p.2.1 = some [] ∧ p.2.2 ++ splitW p.2.1 ((c :: r).drop p.1) = argsR (c :: r)) ?_ (1, ar c, []) ⟨Nat.le_refl _, by simp, by simpa using g1, by simpa using f1.symm⟩ rfl
      rintro R ⟨a, m, done⟩ ⟨h3, h4, h5, h6⟩ hN hE hRt
      simp only at h3 h4 h5 h6
      conv => whnf
      refine sel_split (fun h => ?_) (fun h => ?_)
      · conv => whnf
        have h := of_decide_eq_true h
        rw [hlen] at h
        have halt : a < (c :: r).length := by omega
        obtain ⟨m', rfl⟩ : ∃ m', m = m' + 1 := by
          cases m with
          | zero =>
            rw [walk_zero] at h5
            have := congrArg (Option.map List.length) h5
            simp only [Option.map_some, Option.some.injEq, List.length_drop, List.length_nil] at this
            omega
          | succ m => exact ⟨m, rfl⟩
        rw [Nat.add_comm, walk_add] at h5
        obtain ⟨rest, w1, w2⟩ := Option.bind_eq_some_iff.1 h5
        obtain ⟨d1, d2, d3⟩ := drop_split w1 h4
        have hend : endE (c :: r) (a : Int) = ((a + (((c :: r).drop a).length - rest.length) : Nat) : Int) := by
          unfold endE
          rw [if_neg (by omega)]
          have : ((a : Int)).toNat = a := by omega
          rw [this]
          have := scan_walk (c :: r).length ((c :: r).drop a) 1 a (fun d hd => q4 d (List.mem_of_mem_drop hd)) (by simp only [List.length_drop]; omega) (by simp only [List.length_drop]; omega)
          rw [w1] at this
          exact this
        obtain ⟨b, hb⟩ : ∃ b, b = a + (((c :: r).drop a).length - rest.length) := ⟨_, rfl⟩
        rw [← hb] at hend d1 d2 d3
        have hsp : splitW (m' + 1) ((c :: r).drop a) = ((c :: r).drop a).take (b - a) :: splitW m' ((c :: r).drop b) := by
          simp only [splitW, w1]
          rw [← d1]
          congr 2; omega
        refine ⟨_, _, end_ok lab (c :: r) sp a (by omega) ob _, fun _ => rfl, ?_⟩
        conv => whnf
        refine ⟨(((c :: r).drop a).take (b - a)).map C.row, ((c :: r).drop b).map C.row ++ sp, ⟨⟨by omega, ?_, ?_⟩, ?_, ?_⟩, ?_⟩
        · show (a : Int) ≤ endE (c :: r) a
          rw [hend]; omega
        · show endE (c :: r) a ≤ _
          rw [hend]; simp only [List.length_append, hlen]; omega
        · show _ = (((c :: r).map C.row ++ sp).take (endE (c :: r) a).toNat).drop (a : Int).toNat
          rw [hend]
          have e1 : ((b : Nat) : Int).toNat = b := by omega
          have e2 : ((a : Nat) : Int).toNat = a := by omega
          rw [e1, e2, List.take_append_of_le_length (by rw [hlen]; omega), ← List.map_take, ← List.map_drop, List.drop_take]
        · show _ = ((c :: r).map C.row ++ sp).drop (endE (c :: r) a).toNat
          rw [hend]
          have e1 : ((b : Nat) : Int).toNat = b := by omega
          rw [e1, List.drop_append_of_le_length (by rw [hlen]; omega), List.map_drop]
        conv => whnf
        refine ⟨_, _, gives_ext (F := cloneF 5 48) (r := sl5 true 0 (((c :: r).drop a).take (b - a)) []) rfl ?_, fun _ => noRef5 _ _ _ _, ?_⟩
        · simp only [cloneF]
          have : (((c :: r).drop a).take (b - a)).length ≤ 256 := by simp only [List.length_take, List.length_drop]; omega
          rw [if_pos ⟨trivial, by rw [List.length_map]; unfold maxLen; omega, by rw [List.length_map]; omega⟩]
        conv => whnf
        have hdone : done.length ≤ 256 := by
          have := congrArg List.length h6
          rw [f2, List.length_append] at this
          have := (ok_parts (q4 c (List.mem_cons_self ..))).2
          omega
        refine ⟨((done ++ [((c :: r).drop a).take (b - a)]).map T1.mk0).map T1.row, ⟨.inl rfl, ?_, ?_⟩, ?_⟩
        · show (((done.map T1.mk0).map T1.row).length + 1) * 24 ≤ _
          simp only [List.length_map]; omega
        · simp only [List.map_append]; rfl
        conv => whnf
        refine hN (b, m', done ++ [((c :: r).drop a).take (b - a)]) _ ⟨by omega, d3, ?_, ?_⟩ (by show (c :: r).length - b < (c :: r).length - a; omega) ?_
        · rw [← d1]; exact w2
        · rw [List.append_assoc, ← h6, hsp]; rfl
        · show _ = S17 _ _ ((b : Nat) : Int) ob
          rw [← hend]; rfl
      · conv => whnf
        have h := of_decide_eq_false h
        rw [hlen] at h
        have : a = (c :: r).length := by omega
        subst this
        refine hE _ _ ?_
        conv => whnf
        refine ⟨rfl, ?_, rfl⟩
        rw [List.drop_length] at h5 h6
        have := walk_nil h5
        subst this
        simp only [splitW, List.append_nil] at h6
        rw [h6]; rfl
theorem args_flat (l : List (List C)) : (l.map T1.mk0).flatMap T1.cs = l.flatten := by
  induction l with
  | nil => rfl
  | cons x l ih => rw [List.map_cons, List.flatMap_cons, ih]; rfl
theorem back_ok (cs : List C) (sp : List (List LV)) (hl : cs.length ≤ 4611686018427387904) (hf : ∀ c ∈ cs, c.fine) : Gives env1 567 [sl5 false 0 cs sp] [] 0 (.bool true, []) := by
  obtain ⟨q, hq⟩ := boolOf (RightP cs)
  have hlen1 : ∀ ts : List T1, (ts.map T1.row).length = ts.length := fun ts => by simp
  have noRefM : ∀ (n : Nat) (l : List (List C)), (sl1 true 0 (l.map T1.mk0) []).noRef n = true := by
    intro n l
    have := noRef1 n true 0 (l.map T1.mk0)
    have e : (l.map T1.mk0).map T1.own = l.map T1.mk0 := by rw [List.map_map]; rfl
    rw [e] at this; exact this
  refine gives_code (f := tf567) rfl ?_
  conv => whnf
  refine ⟨_, _, args_ok 0 cs sp hl hf [] _, fun _ => noRefM _ _, ?_⟩
  conv => whnf
  refine sel_split (fun h1 => ?_) (fun h1 => ?_)
  · conv => whnf
    rw [hlen1, List.length_map] at h1
    have h1 : argsR cs = [] := List.length_eq_zero_iff.1 (by simp at h1; simp [h1])
    refine ⟨_, _, live_ok, fun _ => rfl, ?_⟩
    conv => whnf
    refine ⟨_, _, refRight_ok 0 cs sp hl hf [] _ q hq, fun _ => rfl, ?_⟩
    conv => whnf
    refine sel_split (fun h2 => ?_) (fun h2 => ?_)
    · conv => whnf
      exact ⟨rfl, rfl, rfl⟩
    · conv => whnf
      have hR := hq.1 (by simpa using h2)
      obtain ⟨c, r, rfl⟩ : ∃ c r, cs = c :: r := by
        cases cs with
        | nil => exact absurd rfl hR.1
        | cons c r => exact ⟨c, r, rfl⟩
      refine ⟨_, ⟨by omega, idx_row (cs := c :: r) (i := 0) rfl⟩, ?_⟩
      conv => whnf
      refine ⟨rfl, ?_, rfl⟩
      have hk : c.k ≠ 3 := by
        intro hk
        have f2 := (args_facts hR hk).2.1
        have g2 := (struct_facts hR hk).2.1
        rw [h1] at f2; simp at f2; omega
      show LV.bool (c.k != 3) = LV.bool true
      simp [hk]
  · conv => whnf
    rw [hlen1, List.length_map] at h1
    have h1 : argsR cs ≠ [] := by intro e; rw [e] at h1; simp at h1
    have hS : StructP cs := Classical.byContradiction fun h => h1 (by unfold argsR; rw [if_neg h])
    obtain ⟨hR, c, r, rfl, hk⟩ := hS
    obtain ⟨f1, f2, f3, f4⟩ := args_facts hR hk
    obtain ⟨g1, g2, g3, g4⟩ := struct_facts hR hk
    obtain ⟨_, q2, _, q4⟩ := (right_walk _).1 hR
    have hargs : (argsR (c :: r)).length ≤ 8 := by rw [f2]; exact (ok_parts (q4 c (List.mem_cons_self ..))).2
    have hc : cStr c.text ((argsR (c :: r)).map T1.mk0).length = c := by
      rw [List.length_map, f2, g3]
      exact C.ext_iff'.2 ⟨hk.symm, rfl, rfl, g4.1.symm, g4.2.symm⟩
    have hflat : ((argsR (c :: r)).map T1.mk0).flatMap T1.cs = r := by rw [args_flat, f3]
    have hmake : makeR c.text ((argsR (c :: r)).map T1.mk0) = (c :: r, 0) := by
      unfold makeR
      rw [if_pos ⟨by rw [hc]; exact q4 c (List.mem_cons_self ..), fun t ht => by
        obtain ⟨e, he, rfl⟩ := List.mem_map.1 ht
        exact f4 e he⟩, hc, hflat, if_neg (by omega)]
    have hfine : ∀ t ∈ (argsR (c :: r)).map T1.mk0, t.fine := fun t ht => by
      obtain ⟨e, he, rfl⟩ := List.mem_map.1 ht
      refine ⟨by have := (f4 e he).2.1; show e.length ≤ _; omega, fun d hd => hf d (List.mem_cons_of_mem _ ?_)⟩
      rw [← f3]; exact List.mem_flatten.2 ⟨e, he, hd⟩
    refine ⟨_, ⟨by omega, idx_row (cs := c :: r) (i := 0) rfl⟩, ?_⟩
    conv => whnf
    refine ⟨_, _, make_ok c.text (hf c (List.mem_cons_self ..)).1 0 ((argsR (c :: r)).map T1.mk0) [] (by rw [List.length_map]; omega) hfine [] _, fun _ => noRefV _ _, ?_⟩
    rw [hmake]
    conv => whnf
    refine ⟨_, _, live_ok, fun _ => rfl, ?_⟩
    conv => whnf
    refine ⟨_, _, equal_ok 0 0 (c :: r) (c :: r) [] sp hl [] _ true (by simp), fun _ => rfl, ?_⟩
    conv => whnf
    refine ⟨_, _, args_ok 0 (c :: r) [] hl hf [] _, fun _ => noRefM _ _, ?_⟩
    conv => whnf
    refine ⟨_, _, sameTerms_ok 0 0 ((argsR (c :: r)).map T1.mk0) ((argsR (c :: r)).map T1.mk0) [] [] (by rw [List.length_map]; omega) (fun t ht => (hfine t ht).1) [] _ true (by simp), fun _ => rfl, ?_⟩
    conv => whnf
    exact ⟨rfl, rfl, rfl⟩
end Tree
