/- Layer 1: copies and comparisons of terms and of rows of terms, what E answers. -/
import Derived.Test.YtmhblapchnldhaaDoorTLa
import Derived.Test.YtmhblapchnldhaaDoorL1Live
set_option autoImplicit false
set_option linter.unusedVariables false
set_option linter.unusedSimpArgs false
namespace Tree
open Go
set_option maxHeartbeats 4000000
set_option maxRecDepth 100000
abbrev sl5 (o : Bool) (l : Nat) (cs : List C) (sp : List (List LV)) : LV := .sl o l 5 (cs.map C.row) sp
/-- A term in a row of terms. -/
structure T1 where
  lab : Nat
  cs : List C
  sp : List (List LV)
def T1.row (t : T1) : List LV := [.sl false t.lab 5 (t.cs.map C.row) t.sp]
def T1.own (t : T1) : T1 := ⟨0, t.cs, []⟩
abbrev sl1 (o : Bool) (l : Nat) (ts : List T1) (sp : List (List LV)) : LV := .sl o l 1 (ts.map T1.row) sp
theorem idx_t {ts : List T1} {i : Nat} {t : T1} (h : ts[i]? = some t) : (ts.map T1.row)[i]? = some [.sl false t.lab 5 (t.cs.map C.row) t.sp] := by
  rw [List.getElem?_map, h]; rfl
theorem noRef_rows (n : Nat) : ∀ cs : List C, LV.noRefss n (cs.map C.row) = true
  | [] => by simp [LV.noRefss]
  | c :: cs => by simp [LV.noRefss, noRef_rows n cs, C.row, LV.noRefs, LV.noRef]
theorem noRef5 (n : Nat) (o : Bool) (l : Nat) (cs : List C) : (sl5 o l cs []).noRef n = true := by simp [LV.noRef, LV.noRefss, noRef_rows]
theorem copied_ok (lab : Nat) (cs : List C) (sp : List (List LV)) (hb : cs.length * 48 ≤ 140737488355328) (ob : Obs) (pb : Nat) : Gives env1 45 [sl5 false lab cs sp] ob pb (sl5 true 0 cs [], ob) := by
  refine gives_code (f := tf45) rfl ?_
  conv => whnf
  refine ⟨cs.map C.row, ⟨.inl rfl, by simpa using hb, by simp⟩, ?_⟩
  conv => whnf
  exact ⟨rfl, rfl, rfl⟩
end Tree

set_option autoImplicit false
set_option linter.unusedVariables false
set_option linter.unusedSimpArgs false
namespace Tree
open Go
set_option maxHeartbeats 4000000
set_option maxRecDepth 100000
theorem single_right (c : C) (hk : c.k ≠ 3) : RightP [c] ↔ okC c := by
  have hp : partsC c = 0 := by unfold partsC; rw [if_neg hk]
  have he : endE [c] 0 = 1 := by
    simp [endE, scanE, hp]
    decide
  constructor
  · intro h; exact h.2.2.2 c (List.mem_singleton.2 rfl)
  · intro h; exact ⟨by simp, by simp, by simpa using he, by simpa using h⟩
theorem single_ok (c : C) (hf : c.fine) (hk : c.k ≠ 3) (ob : Obs) (pb : Nat) (r : Bool) (hr : r = true ↔ okC c) : Gives env1 37 [c.lv] ob pb (sl5 true 0 (if r then [c] else []) [], ob) := by
  rw [← single_right c hk] at hr
  refine gives_code (f := tf37) rfl ?_
  conv => whnf
  refine ⟨_, _, right_ok 0 [c] [] (by simp) (fun d hd => by rw [List.mem_singleton.1 hd]; exact hf) ob _ r hr, fun _ => rfl, ?_⟩
  conv => whnf
  refine sel_split (fun h => ?_) (fun h => ?_)
  · conv => whnf
    refine ⟨rfl, ?_, rfl⟩
    rw [h]; rfl
  · conv => whnf
    refine ⟨rfl, ?_, rfl⟩
    rw [h]; rfl
theorem one_ok (c : C) (hf : c.fine) (ob : Obs) (pb : Nat) (r : Bool) (hr : r = true ↔ okC c) : Gives env1 38 [c.lv] ob pb (sl5 true 0 (if r then [c] else []) [], ob) := by
  refine gives_code (f := tf38) rfl ?_
  conv => whnf
  refine ⟨_, _, refCell_ok c hf.1 ob _ r hr, fun _ => rfl, ?_⟩
  conv => whnf
  refine sel_split (fun h => ?_) (fun h => ?_)
  · conv => whnf
    refine ⟨rfl, ?_, rfl⟩
    have h : r = false := by simpa using h
    rw [h]; rfl
  · conv => whnf
    refine ⟨rfl, ?_, rfl⟩
    have h : r = true := by simpa using h
    rw [h]; rfl
def cVar (a b : Int) : C := ⟨4, emptyS, 0, a, b⟩
theorem fineVar (a b : Int) : (cVar a b).fine := ⟨Nat.zero_le _, (by decide : (0 : Int) ≤ 4), (by decide : (4 : Int) ≤ 255)⟩
theorem ofVar_ok (a b : Int) (ob : Obs) (pb : Nat) (r : Bool) (hr : r = true ↔ okC (cVar a b)) : Gives env1 14 [nm a b] ob pb (sl5 true 0 (if r then [cVar a b] else []) [], ob) := by
  refine gives_code (f := tf14) rfl ?_
  conv => whnf
  refine ⟨_, _, single_ok (cVar a b) (fineVar a b) (by show (4 : Int) ≠ 3; decide) ob _ r hr, fun _ => noRef5 _ _ _ _, ?_⟩
  conv => whnf
  exact ⟨rfl, rfl, rfl⟩
theorem refOfVar_ok (a b : Int) (ob : Obs) (pb : Nat) (r : Bool) (hr : r = true ↔ okC (cVar a b)) : Gives env1 15 [nm a b] ob pb (sl5 true 0 (if r then [cVar a b] else []) [], ob) := by
  refine gives_code (f := tf15) rfl ?_
  conv => whnf
  refine ⟨_, _, one_ok (cVar a b) (fineVar a b) ob _ r hr, fun _ => noRef5 _ _ _ _, ?_⟩
  conv => whnf
  exact ⟨rfl, rfl, rfl⟩
def T1.fine (t : T1) : Prop := t.cs.length ≤ 4611686018427387904 ∧ ∀ c ∈ t.cs, c.fine
end Tree

set_option autoImplicit false
set_option linter.unusedVariables false
set_option linter.unusedSimpArgs false
namespace Tree
open Go
set_option maxHeartbeats 4000000
set_option maxRecDepth 100000
end Tree

set_option autoImplicit false
set_option linter.unusedVariables false
set_option linter.unusedSimpArgs false
namespace Tree
open Go
def ar (c : C) : Nat := (partsC c).toNat
/-- What is left behind o whole terms. -/
def walk : List C → Nat → Option (List C)
  | l, 0 => some l
  | [], _ + 1 => none
  | c :: r, o + 1 => walk r (o + ar c)
theorem walk_zero (l : List C) : walk l 0 = some l := by cases l <;> rfl
theorem walk_le : ∀ (l : List C) (o : Nat) (r : List C), walk l o = some r → o ≤ l.length ∧ r.length ≤ l.length
  | l, 0, r, h => by rw [walk_zero] at h; cases h; exact ⟨Nat.zero_le _, Nat.le_refl _⟩
  | [], o + 1, r, h => by simp [walk] at h
  | c :: l, o + 1, r, h => by
    rw [walk] at h
    have := walk_le l _ r h
    simp only [List.length_cons]; omega
theorem ok_parts {c : C} (h : okC c) : partsC c = (ar c : Int) ∧ ar c ≤ 8 := by
  unfold ar partsC
  rcases h with h | h | h | h
  · rw [if_neg (by rw [h.1]; decide)]; exact ⟨rfl, by decide⟩
  · rw [if_neg (by rw [h.1]; decide)]; exact ⟨rfl, by decide⟩
  · rw [if_pos h.1]
    rcases h.2.2 with g | g
    · rw [if_neg (by omega)]; omega
    · rw [if_neg (by omega)]; omega
  · rw [if_neg (by rw [h.1]; decide)]; exact ⟨rfl, by decide⟩
theorem w64_id {x : Int} (h1 : -9223372036854775808 ≤ x) (h2 : x ≤ 9223372036854775807) : w64 x = x := wrap64 h1 h2
theorem scan_walk (L : Nat) : ∀ (l : List C) (o p : Nat), (∀ c ∈ l, okC c) → l.length ≤ L → o + 8 * l.length ≤ 4611686018427387904 →
    scanE L l (o : Int) p = match walk l o with | some r => ((p + (l.length - r.length) : Nat) : Int) | none => 0
  | l, 0, p, _, _, _ => by
    rw [walk_zero]
    cases l <;> simp [scanE]
  | [], o + 1, p, _, _, _ => by
    have : ¬ ((o + 1 : Nat) : Int) ≤ 0 := by omega
    simp only [scanE, walk, if_neg this]
  | c :: l, o + 1, p, h, hL, hb => by
    have h0 : ¬ ((o + 1 : Nat) : Int) ≤ 0 := by omega
    obtain ⟨hp, h8⟩ := ok_parts (h c (List.mem_cons_self ..))
    simp only [List.length_cons] at hL hb
    simp only [scanE, walk, if_neg h0, hp]
    by_cases hgt : ((ar c : Nat) : Int) > (L : Int)
    · rw [if_pos hgt]
      have : walk l (o + ar c) = none := by
        cases hw : walk l (o + ar c) with
        | none => rfl
        | some r => have := (walk_le l _ r hw).1; omega
      rw [this]
    · rw [if_neg hgt]
      have e : w64 (((o + 1 : Nat) : Int) + w64 ((ar c : Int) - 1)) = ((o + ar c : Nat) : Int) := by
        rw [w64_id (x := (ar c : Int) - 1) (by omega) (by omega), w64_id (by omega) (by omega)]; omega
      rw [e, scan_walk L l (o + ar c) (p + 1) (fun d hd => h d (List.mem_cons_of_mem _ hd)) (by omega) (by omega)]
      cases hw : walk l (o + ar c) with
      | none => rfl
      | some r =>
        have := (walk_le l _ r hw).2
        simp only [List.length_cons]
        congr 1; omega
theorem walk_add : ∀ (l : List C) (a b : Nat), walk l (a + b) = (walk l a).bind fun r => walk r b
  | l, 0, b => by rw [walk_zero, Nat.zero_add]; rfl
  | [], a + 1, b => by rw [show a + 1 + b = (a + b) + 1 by omega]; simp [walk]
  | c :: l, a + 1, b => by
    rw [show a + 1 + b = (a + b) + 1 by omega, walk, walk, show a + b + ar c = (a + ar c) + b by omega]
    exact walk_add l _ b
theorem walk_pre : ∀ (l : List C) (o : Nat) (r : List C), walk l o = some r → ∃ pre, l = pre ++ r ∧ walk pre o = some []
  | l, 0, r, h => by rw [walk_zero] at h; cases h; exact ⟨[], rfl, rfl⟩
  | [], o + 1, r, h => by simp [walk] at h
  | c :: l, o + 1, r, h => by
    rw [walk] at h
    obtain ⟨pre, rfl, h2⟩ := walk_pre l _ r h
    exact ⟨c :: pre, rfl, by rw [walk]; exact h2⟩
theorem walk_nil {o : Nat} {r : List C} (h : walk [] o = some r) : o = 0 := by
  cases o with
  | zero => rfl
  | succ o => simp [walk] at h
theorem right_walk (cs : List C) : RightP cs ↔ cs ≠ [] ∧ cs.length ≤ 256 ∧ walk cs 1 = some [] ∧ ∀ c ∈ cs, okC c := by
  unfold RightP
  constructor
  · rintro ⟨h1, h2, h3, h4⟩
    refine ⟨h1, h2, ?_, h4⟩
    have hlen : 0 < cs.length := List.length_pos_iff.2 h1
    have he : endE cs 0 = scanE cs.length cs ((1 : Nat) : Int) 0 := by
      unfold endE; rw [if_neg (by omega)]; rfl
    rw [he, scan_walk cs.length cs 1 0 h4 (Nat.le_refl _) (by omega)] at h3
    cases hw : walk cs 1 with
    | none => rw [hw] at h3; simp only at h3; omega
    | some r =>
      rw [hw] at h3; simp only at h3
      have := (walk_le cs 1 r hw).2
      have : r.length = 0 := by omega
      rw [List.length_eq_zero_iff.1 this]
  · rintro ⟨h1, h2, h3, h4⟩
    refine ⟨h1, h2, ?_, h4⟩
    have hlen : 0 < cs.length := List.length_pos_iff.2 h1
    have he : endE cs 0 = scanE cs.length cs ((1 : Nat) : Int) 0 := by
      unfold endE; rw [if_neg (by omega)]; rfl
    rw [he, scan_walk cs.length cs 1 0 h4 (Nat.le_refl _) (by omega), h3]
    simp
/-- The arguments, one behind the other. -/
def splitW : Nat → List C → List (List C)
  | 0, _ => []
  | n + 1, l => match walk l 1 with
    | some r => l.take (l.length - r.length) :: splitW n r
    | none => []
theorem splitW_ok : ∀ (n : Nat) (l : List C), walk l n = some [] → (splitW n l).length = n ∧ (splitW n l).flatten = l ∧ ∀ e ∈ splitW n l, e ≠ [] ∧ walk e 1 = some [] ∧ (∀ c ∈ e, c ∈ l) ∧ e.length ≤ l.length
  | 0, l, h => by rw [walk_zero] at h; cases h; simp [splitW]
  | n + 1, l, h => by
    rw [Nat.add_comm, walk_add] at h
    obtain ⟨r, h1, h2⟩ := Option.bind_eq_some_iff.1 h
    obtain ⟨pre, rfl, h3⟩ := walk_pre l 1 r h1
    obtain ⟨a1, a2, a3⟩ := splitW_ok n r h2
    have e : (pre ++ r).take ((pre ++ r).length - r.length) = pre := by simp
    simp only [splitW, h1, e]
    refine ⟨by simp [a1], by simp [a2], fun x hx => ?_⟩
    rcases List.mem_cons.1 hx with rfl | hx
    · refine ⟨fun e => ?_, h3, fun c hc => List.mem_append_left _ hc, by simp⟩
      rw [e] at h3; have := walk_nil h3; omega
    · obtain ⟨b1, b2, b3, b4⟩ := a3 x hx
      exact ⟨b1, b2, fun c hc => List.mem_append_right _ (b3 c hc), by simp; omega⟩
def StructP (cs : List C) : Prop := RightP cs ∧ ∃ c r, cs = c :: r ∧ c.k = 3
open Classical in
noncomputable def argsR (cs : List C) : List (List C) := if StructP cs then (match cs with | [] => [] | c :: r => splitW (ar c) r) else []
theorem struct_facts {c : C} {r : List C} (h : RightP (c :: r)) (hk : c.k = 3) : walk r (ar c) = some [] ∧ 1 ≤ ar c ∧ (ar c : Int) = c.n ∧ zeroVar c := by
  obtain ⟨_, _, h3, h4⟩ := (right_walk _).1 h
  rw [walk, Nat.zero_add] at h3
  have hc := h4 c (List.mem_cons_self ..)
  have hp := ok_parts hc
  rcases hc with g | g | g | g
  · omega
  · omega
  · unfold partsC at hp
    rw [if_pos hk] at hp
    rcases g.2.2 with q | q
    · rw [if_neg (by omega)] at hp
      exact ⟨h3, by omega, hp.1.symm, g.2.1⟩
    · rw [if_neg (by omega)] at hp
      exact ⟨h3, by omega, hp.1.symm, g.2.1⟩
  · omega
theorem args_facts {c : C} {r : List C} (h : RightP (c :: r)) (hk : c.k = 3) : argsR (c :: r) = splitW (ar c) r ∧ (argsR (c :: r)).length = ar c ∧ (argsR (c :: r)).flatten = r ∧ ∀ e ∈ argsR (c :: r), RightP e := by
  obtain ⟨h1, h2, h3, h4⟩ := struct_facts h hk
  have e : argsR (c :: r) = splitW (ar c) r := by unfold argsR; rw [if_pos ⟨h, c, r, rfl, hk⟩]
  obtain ⟨a1, a2, a3⟩ := splitW_ok _ _ h1
  refine ⟨e, by rw [e]; exact a1, by rw [e]; exact a2, fun x hx => ?_⟩
  rw [e] at hx
  obtain ⟨b1, b2, b3, b4⟩ := a3 x hx
  obtain ⟨_, q2, _, q4⟩ := (right_walk _).1 h
  simp only [List.length_cons] at q2
  exact (right_walk _).2 ⟨b1, by omega, b2, fun d hd => q4 d (List.mem_cons_of_mem _ (b3 d hd))⟩
end Tree

set_option autoImplicit false
set_option linter.unusedVariables false
set_option linter.unusedSimpArgs false
namespace Tree
open Go
set_option maxHeartbeats 4000000
set_option maxRecDepth 100000
theorem noRef1 (n : Nat) (o : Bool) (l : Nat) (ts : List T1) : (sl1 o l (ts.map T1.own) []).noRef n = true := by
  have : ∀ ts : List T1, LV.noRefss n ((ts.map T1.own).map T1.row) = true := by
    intro ts
    induction ts with
    | nil => simp [LV.noRefss]
    | cons t ts ih => simp only [List.map_cons, LV.noRefss, ih, Bool.and_true]; simp [T1.row, T1.own, LV.noRefs, LV.noRef, LV.noRefss, noRef_rows]
  have e : (sl1 o l (ts.map T1.own) []).noRef n = (LV.noRefss n ((ts.map T1.own).map T1.row) && LV.noRefss n []) := by rw [LV.noRef]
  rw [e, this]; simp [LV.noRefss]
end Tree

set_option autoImplicit false
set_option linter.unusedVariables false
set_option linter.unusedSimpArgs false
namespace Tree
open Go
set_option maxHeartbeats 4000000
set_option maxRecDepth 100000
def T1.mk0 (e : List C) : T1 := ⟨0, e, []⟩
theorem drop_split {l : List C} {a : Nat} {r : List C} (h : walk (l.drop a) 1 = some r) (ha : a ≤ l.length) : r = l.drop (a + ((l.drop a).length - r.length)) ∧ a < a + ((l.drop a).length - r.length) ∧ a + ((l.drop a).length - r.length) ≤ l.length := by
  obtain ⟨pre, h1, h2⟩ := walk_pre _ _ _ h
  have hp : pre ≠ [] := fun e => by rw [e] at h2; have := walk_nil h2; omega
  have hl : 0 < pre.length := List.length_pos_iff.2 hp
  have e : (l.drop a).length - r.length = pre.length := by rw [h1]; simp
  rw [e]
  refine ⟨?_, by omega, ?_⟩
  · rw [← List.drop_drop, h1]; simp
  · have := congrArg List.length h1
    simp at this; omega
def S17 (v o : LV) (i : Int) (ob : Obs) : WSt := ⟨.val v :: .val .undef :: .val .undef :: .val o :: .val (.int .i64 i) :: List.replicate 28 (.val .undef), ob, []⟩
theorem args_ok (lab : Nat) (cs : List C) (sp : List (List LV)) (hl : cs.length ≤ 4611686018427387904) (hf : ∀ c ∈ cs, c.fine) (ob : Obs) (pb : Nat) : Gives env1 17 [sl5 false lab cs sp] ob pb (sl1 true 0 ((argsR cs).map T1.mk0) [], ob) := by
  have hlen : (cs.map C.row).length = cs.length := by simp
  obtain ⟨q, hq⟩ := boolOf (RightP cs)
  have no : ¬ StructP cs → argsR cs = [] := fun h => by unfold argsR; rw [if_neg h]
  refine gives_code (f := tf17) rfl ?_
  conv => whnf
  refine ⟨_, _, right_ok lab cs sp hl hf ob _ q hq, fun _ => rfl, ?_⟩
  conv => whnf
  refine sel_split (fun h1 => ?_) (fun h1 => ?_)
  · conv => whnf
    have h1 : q = false := by simpa using h1
    refine ⟨rfl, ?_, rfl⟩
    rw [no (fun h => by have := hq.2 h.1; rw [h1] at this; cases this)]; rfl
  · conv => whnf
    have h1 : q = true := by simpa using h1
    have hR := hq.1 h1
    obtain ⟨c, r, rfl⟩ : ∃ c r, cs = c :: r := by
      cases cs with
      | nil => exact absurd rfl hR.1
      | cons c r => exact ⟨c, r, rfl⟩
    refine ⟨_, ⟨by omega, idx_row (cs := c :: r) (i := 0) rfl⟩, ?_⟩
    conv => whnf
    refine sel_split (fun h2 => ?_) (fun h2 => ?_)
    · conv => whnf
      have h2 : c.k ≠ 3 := by simpa using h2
      refine ⟨rfl, ?_, rfl⟩
      rw [no (fun h => by
        obtain ⟨_, c', r', e, hk⟩ := h
        injection e with e1 e2
        subst e1; exact h2 hk)]; rfl
    · conv => whnf
      have hk : c.k = 3 := by simpa using h2
      obtain ⟨f1, f2, f3, f4⟩ := args_facts hR hk
      obtain ⟨g1, g2, g3, g4⟩ := struct_facts hR hk
      obtain ⟨_, q2, _, q4⟩ := (right_walk _).1 hR
      refine loop_abs (ι := Nat × Nat × List (List C)) (S := fun p => S17 (sl5 false lab (c :: r) sp) (sl1 true 0 (p.2.2.map T1.mk0) []) p.1 ob) (m := fun p => (c :: r).length - p.1)
        (P := fun p => 1 ≤ p.1 ∧ p.1 ≤ (c :: r).length ∧ walk ((c :: r).drop p.1) p.2.1 = some [] ∧ p.2.2 ++ splitW p.2.1 ((c :: r).drop p.1) = argsR (c :: r)) ?_ (1, ar c, []) ⟨Nat.le_refl _, by simp, by simpa using g1, by simpa using f1.symm⟩ rfl
      rintro R ⟨a, m, done⟩ ⟨h3, h4, h5, h6⟩ hN hE hRt
      simp only at h3 h4 h5 h6
      conv => whnf
      refine sel_split (fun h => ?_) (fun h => ?_)
      · conv => whnf
        have h := of_decide_eq_true h
        rw [hlen] at h
        have halt : a < (c :: r).length := by omega
        obtain ⟨m', rfl⟩ : ∃ m', m = m' + 1 := by
          cases m with
          | zero =>
            rw [walk_zero] at h5
            have := congrArg (Option.map List.length) h5
            simp only [Option.map_some, Option.some.injEq, List.length_drop, List.length_nil] at this
            omega
          | succ m => exact ⟨m, rfl⟩
        rw [Nat.add_comm, walk_add] at h5
        obtain ⟨rest, w1, w2⟩ := Option.bind_eq_some_iff.1 h5
        obtain ⟨d1, d2, d3⟩ := drop_split w1 h4
        have hend : endE (c :: r) (a : Int) = ((a + (((c :: r).drop a).length - rest.length) : Nat) : Int) := by
          unfold endE
          rw [if_neg (by omega)]
          have : ((a : Int)).toNat = a := by omega
          rw [this]
          have := scan_walk (c :: r).length ((c :: r).drop a) 1 a (fun d hd => q4 d (List.mem_of_mem_drop hd)) (by simp only [List.length_drop]; omega) (by simp only [List.length_drop]; omega)
          rw [w1] at this
          exact this
        obtain ⟨b, hb⟩ : ∃ b, b = a + (((c :: r).drop a).length - rest.length) := ⟨_, rfl⟩
        rw [← hb] at hend d1 d2 d3
        have hsp : splitW (m' + 1) ((c :: r).drop a) = ((c :: r).drop a).take (b - a) :: splitW m' ((c :: r).drop b) := by
          simp only [splitW, w1]
          rw [← d1]
          congr 2; omega
        refine ⟨_, _, end_ok lab (c :: r) sp a (by omega) ob _, fun _ => rfl, ?_⟩
        conv => whnf
        refine ⟨(((c :: r).drop a).take (b - a)).map C.row, ((c :: r).drop b).map C.row ++ sp, ⟨⟨by omega, ?_, ?_⟩, ?_, ?_⟩, ?_⟩
        · show (a : Int) ≤ endE (c :: r) a
          rw [hend]; omega
        · show endE (c :: r) a ≤ _
          rw [hend]; simp only [List.length_append, hlen]; omega
        · show _ = (((c :: r).map C.row ++ sp).take (endE (c :: r) a).toNat).drop (a : Int).toNat
          rw [hend]
          have e1 : ((b : Nat) : Int).toNat = b := by omega
          have e2 : ((a : Nat) : Int).toNat = a := by omega
          rw [e1, e2, List.take_append_of_le_length (by rw [hlen]; omega), ← List.map_take, ← List.map_drop, List.drop_take]
        · show _ = ((c :: r).map C.row ++ sp).drop (endE (c :: r) a).toNat
          rw [hend]
          have e1 : ((b : Nat) : Int).toNat = b := by omega
          rw [e1, List.drop_append_of_le_length (by rw [hlen]; omega), List.map_drop]
        conv => whnf
        refine ⟨_, _, gives_ext (F := cloneF 5 48) (r := sl5 true 0 (((c :: r).drop a).take (b - a)) []) rfl ?_, fun _ => noRef5 _ _ _ _, ?_⟩
        · simp only [cloneF, cloneF0]
          have : (((c :: r).drop a).take (b - a)).length ≤ 256 := by simp only [List.length_take, List.length_drop]; omega
          rw [if_pos ⟨trivial, by rw [List.length_map]; unfold maxLen; omega, by rw [List.length_map]; omega⟩]
        conv => whnf
        have hdone : done.length ≤ 256 := by
          have := congrArg List.length h6
          rw [f2, List.length_append] at this
          have := (ok_parts (q4 c (List.mem_cons_self ..))).2
          omega
        refine ⟨((done ++ [((c :: r).drop a).take (b - a)]).map T1.mk0).map T1.row, ⟨.inl rfl, ?_, ?_⟩, ?_⟩
        · show (((done.map T1.mk0).map T1.row).length + 1) * 24 ≤ _
          simp only [List.length_map]; omega
        · simp only [List.map_append]; rfl
        conv => whnf
        refine hN (b, m', done ++ [((c :: r).drop a).take (b - a)]) _ ⟨by omega, d3, ?_, ?_⟩ (by show (c :: r).length - b < (c :: r).length - a; omega) ?_
        · rw [← d1]; exact w2
        · rw [List.append_assoc, ← h6, hsp]; rfl
        · show _ = S17 _ _ ((b : Nat) : Int) ob
          rw [← hend]; rfl
      · conv => whnf
        have h := of_decide_eq_false h
        rw [hlen] at h
        have : a = (c :: r).length := by omega
        subst this
        refine hE _ _ ?_
        conv => whnf
        refine ⟨rfl, ?_, rfl⟩
        rw [List.drop_length] at h5 h6
        have := walk_nil h5
        subst this
        simp only [splitW, List.append_nil] at h6
        rw [h6]; rfl
end Tree

set_option autoImplicit false
set_option linter.unusedVariables false
set_option linter.unusedSimpArgs false
namespace Tree
open Go
set_option maxHeartbeats 4000000
set_option maxRecDepth 100000
abbrev NV := Int × Int
def nrow (v : NV) : List LV := [.int .i64 v.1, .int .i64 v.2]
abbrev sl2 (o : Bool) (l : Nat) (ns : List NV) (sp : List (List LV)) : LV := .sl o l 2 (ns.map nrow) sp
theorem idx_n {ns : List NV} {i : Nat} {v : NV} (h : ns[i]? = some v) : (ns.map nrow)[i]? = some [.int .i64 v.1, .int .i64 v.2] := by
  rw [List.getElem?_map, h]; rfl
def addN (acc : List NV) (v : NV) : List NV := if v ∈ acc then acc else acc ++ [v]
def varC (acc : List NV) (c : C) : List NV := if c.k = 4 then addN acc (c.node, c.num) else acc
def varsC (acc : List NV) (cs : List C) : List NV := cs.foldl varC acc
def varsT (acc : List NV) (ts : List T1) : List NV := ts.foldl (fun acc t => varsC acc t.cs) acc
def S55 (v x : LV) (bx : List LV) (n : Nat) (i : Int) (ob : Obs) : WSt := ⟨.val v :: .val .undef :: .val .undef :: .box bx :: .val .undef :: .val .undef :: .val .undef :: .val (.int .i64 n) :: .val (.int .i64 i) :: List.replicate 10 (.val .undef), ob, []⟩
theorem hasName_ok (lab : Nat) (ns : List NV) (sp : List (List LV)) (x : NV) (hl : ns.length ≤ 4611686018427387904) (ob : Obs) (pb : Nat) (r : Bool) (hr : r = true ↔ x ∈ ns) : Gives env1 42 [sl2 false lab ns sp, nm x.1 x.2] ob pb (.bool r, ob) := by
  have hlen : (ns.map nrow).length = ns.length := by simp
  obtain ⟨j, hj0, hg⟩ : ∃ j : Int, decide (j ≥ 0) = r ∧ Gives env1 55 [sl2 false lab ns sp, nm x.1 x.2] ob (max pb ob.length) (.int .i64 j, ob) := by
    obtain ⟨j, hj0, hj1, hj2⟩ : ∃ j : Int, (decide (j ≥ 0) = r) ∧ (∀ i : Nat, ns[i]? = some x → (∀ k v, k < i → ns[k]? = some v → v ≠ x) → j = i) ∧ ((∀ (k : Nat) v, ns[k]? = some v → v ≠ x) → j = -1) := by
      by_cases hx : x ∈ ns
      · have : ∃ i : Nat, ns[i]? = some x ∧ ∀ k v, k < i → ns[k]? = some v → v ≠ x := by
          apply Classical.byContradiction
          intro hn
          have all : ∀ n : Nat, ∀ k v, k < n → ns[k]? = some v → v ≠ x := by
            intro n
            induction n with
            | zero => intro k d hk; omega
            | succ n ih =>
              intro k v hk hv e
              by_cases hkn : k < n
              · exact ih k v hkn hv e
              · have : k = n := by omega
                subst this; subst e
                exact hn ⟨k, hv, ih⟩
          obtain ⟨i, hi, e⟩ := List.getElem_of_mem hx
          exact all (i + 1) i x (by omega) (by rw [List.getElem?_eq_getElem hi, e]) rfl
        obtain ⟨i, h1, h2⟩ := this
        refine ⟨i, by rw [hr.2 hx]; simp, fun i' h4 h6 => ?_, fun h4 => absurd rfl (h4 i x h1)⟩
        rcases Nat.lt_trichotomy i i' with h7 | h7 | h7
        · exact absurd rfl (h6 i x h7 h1)
        · rw [h7]
        · exact absurd rfl (h2 i' x h7 h4)
      · have hf : r = false := by
          cases r with
          | false => rfl
          | true => exact absurd (hr.1 rfl) hx
        exact ⟨-1, by rw [hf]; decide, fun i h1 _ => absurd (List.mem_of_getElem? h1) hx, fun _ => rfl⟩
    refine ⟨j, hj0, ?_⟩
    refine gives_code (f := tf55) rfl ?_
    conv => whnf
    refine loop_abs (S := fun i : Nat => S55 (sl2 false lab ns sp) .undef [.int .i64 x.1, .int .i64 x.2] (ns.map nrow).length i ob) (m := fun i => ns.length - i) (P := fun i => i ≤ ns.length ∧ ∀ k v, k < i → ns[k]? = some v → v ≠ x) ?_ 0 ⟨Nat.zero_le _, fun k s h => by omega⟩ rfl
    rintro R i ⟨hi, hP⟩ hN hE hR
    conv => whnf
    refine sel_split (fun h => ?_) (fun h => ?_)
    · conv => whnf
      have h := of_decide_eq_true h
      rw [hlen] at h
      obtain ⟨v, hv⟩ : ∃ s, ns[i]? = some s := ⟨_, List.getElem?_eq_getElem (show i < ns.length by omega)⟩
      refine ⟨_, ⟨by omega, idx_n hv⟩, ?_⟩
      conv => whnf
      refine sel_split (fun h2 => ?_) (fun h2 => ?_)
      · conv => whnf
        have h2 : v = x := by simp at h2; exact Prod.ext h2.1.symm h2.2.symm
        refine hR _ ?_
        conv => whnf
        refine ⟨rfl, ?_, rfl⟩
        rw [hj1 i (by rw [hv, h2]) hP]; rfl
      · conv => whnf
        have h2 : v ≠ x := fun e => by rw [e] at h2; simp at h2
        have e : IntKind.i64.wrap ((i : Int) + 1) = ((i + 1 : Nat) : Int) := by rw [wrap64] <;> omega
        refine hN (i + 1) _ ⟨by omega, fun k s' hk hs' => ?_⟩ (by omega) ?_
        · by_cases hki : k = i
          · subst hki; rw [hv] at hs'; cases hs'; exact h2
          · exact hP k s' (by omega) hs'
        · rw [← e]; rfl
    · conv => whnf
      have h := of_decide_eq_false h
      rw [hlen] at h
      refine hE _ _ ?_
      conv => whnf
      refine ⟨rfl, ?_, rfl⟩
      rw [hj2 (fun k s hk => hP k s (by have := (List.getElem?_eq_some_iff.1 hk).1; omega) hk)]; rfl
  refine gives_code (f := tf42) rfl ?_
  conv => whnf
  refine ⟨_, _, hg, fun _ => rfl, ?_⟩
  conv => whnf
  refine ⟨rfl, ?_, rfl⟩
  show LV.bool _ = LV.bool r
  rw [hj0]
def S28 (v : LV) (bx : List LV) (i : Int) (ob : Obs) : WSt := ⟨.val v :: .val .undef :: .val .undef :: .box bx :: .val .undef :: .val (.int .i64 i) :: List.replicate 12 (.val .undef), ob, []⟩
theorem refHasName_ok (lab : Nat) (ns : List NV) (sp : List (List LV)) (x : NV) (hl : ns.length ≤ 4611686018427387904) (ob : Obs) (pb : Nat) (r : Bool) (hr : r = true ↔ x ∈ ns) : Gives env1 28 [sl2 false lab ns sp, nm x.1 x.2] ob pb (.bool r, ob) := by
  have hlen : (ns.map nrow).length = ns.length := by simp
  refine gives_code (f := tf28) rfl ?_
  conv => whnf
  refine loop_abs (S := fun i : Nat => S28 (sl2 false lab ns sp) [.int .i64 x.1, .int .i64 x.2] i ob) (m := fun i => ns.length - i) (P := fun i => i ≤ ns.length ∧ ∀ k v, k < i → ns[k]? = some v → v ≠ x) ?_ 0 ⟨Nat.zero_le _, fun k s h => by omega⟩ rfl
  rintro R i ⟨hi, hP⟩ hN hE hR
  conv => whnf
  refine sel_split (fun h => ?_) (fun h => ?_)
  · conv => whnf
    have h := of_decide_eq_true h
    rw [hlen] at h
    obtain ⟨v, hv⟩ : ∃ s, ns[i]? = some s := ⟨_, List.getElem?_eq_getElem (show i < ns.length by omega)⟩
    refine ⟨_, ⟨by omega, idx_n hv⟩, ?_⟩
    conv => whnf
    refine sel_split (fun h2 => ?_) (fun h2 => ?_)
    · conv => whnf
      have h2 : v = x := by simp at h2; exact Prod.ext h2.1 h2.2
      refine hR _ ?_
      conv => whnf
      refine ⟨rfl, bool_of hr ⟨fun _ => h2 ▸ List.mem_of_getElem? hv, fun _ => rfl⟩, rfl⟩
    · conv => whnf
      have h2 : v ≠ x := fun e => by rw [e] at h2; simp at h2
      have e : IntKind.i64.wrap ((i : Int) + 1) = ((i + 1 : Nat) : Int) := by rw [wrap64] <;> omega
      refine hN (i + 1) _ ⟨by omega, fun k s' hk hs' => ?_⟩ (by omega) ?_
      · by_cases hki : k = i
        · subst hki; rw [hv] at hs'; cases hs'; exact h2
        · exact hP k s' (by omega) hs'
      · rw [← e]; rfl
  · conv => whnf
    have h := of_decide_eq_false h
    rw [hlen] at h
    refine hE _ _ ?_
    conv => whnf
    refine ⟨rfl, bool_of hr ⟨fun e => (nomatch e), fun hm => ?_⟩, rfl⟩
    obtain ⟨k, hk, e⟩ := List.getElem_of_mem hm
    exact absurd rfl (hP k x (by omega) (by rw [List.getElem?_eq_getElem hk, e]))
end Tree

set_option autoImplicit false
set_option linter.unusedVariables false
set_option linter.unusedSimpArgs false
namespace Tree
open Go
set_option maxHeartbeats 4000000
set_option maxRecDepth 100000
def locC (c : C) : Prop := c.k = 4 ∧ c.node = -1
theorem loc_ok (c : C) (ob : Obs) (pb : Nat) (r : Bool) (hr : r = true ↔ locC c) : Gives env1 44 [c.lv] ob pb (.bool r, ob) := by
  refine gives_code (f := tf44) rfl ?_
  conv => whnf
  refine sel_split (fun h => ?_) (fun h => ?_)
  · conv => whnf
    refine ⟨rfl, bool_of hr ?_, rfl⟩
    unfold locC; simp at h; simp [h]
  · conv => whnf
    refine ⟨rfl, bool_of hr ?_, rfl⟩
    unfold locC; simp at h; simp [h]
def GlobalP (cs : List C) : Prop := RightP cs ∧ ∀ c ∈ cs, ¬ locC c
theorem global_ok (lab : Nat) (cs : List C) (sp : List (List LV)) (hl : cs.length ≤ 4611686018427387904) (hf : ∀ c ∈ cs, c.fine) (ob : Obs) (pb : Nat) (r : Bool) (hr : r = true ↔ GlobalP cs) : Gives env1 25 [sl5 false lab cs sp] ob pb (.bool r, ob) := by
  obtain ⟨q, hq⟩ := boolOf (RightP cs)
  obtain ⟨g, hg⟩ := boolOf (∃ c ∈ cs, locC c)
  refine gives_code (f := tf25) rfl ?_
  conv => whnf
  refine ⟨_, _, right_ok lab cs sp hl hf ob _ q hq, fun _ => rfl, ?_⟩
  conv => whnf
  refine sel_split (fun h => ?_) (fun h => ?_)
  · conv => whnf
    refine ⟨_, _, anyFn_ok 44 lab cs sp locC hl (fun c hc ob pb r hr => loc_ok c ob pb r hr) ob _ g hg, fun _ => rfl, ?_⟩
    conv => whnf
    refine ⟨rfl, bool_of hr ?_, rfl⟩
    have : (!g) = true ↔ ∀ c ∈ cs, ¬ locC c := by
      rw [Bool.not_eq_true', ← Bool.not_eq_true, hg]
      constructor
      · intro h c hc hn; exact h ⟨c, hc, hn⟩
      · rintro h ⟨c, hc, hn⟩; exact h c hc hn
    rw [this]
    exact ⟨fun h2 => ⟨hq.1 h, h2⟩, fun h2 => h2.2⟩
  · conv => whnf
    refine ⟨rfl, bool_of hr ⟨fun e => (nomatch e), fun hw => by rw [hq.2 hw.1] at h; cases h⟩, rfl⟩
def S26 (v : LV) (i : Int) (ob : Obs) : WSt := ⟨.val v :: .val .undef :: .val .undef :: .val (.int .i64 i) :: List.replicate 24 (.val .undef), ob, []⟩
theorem refGlobal_ok (lab : Nat) (cs : List C) (sp : List (List LV)) (hl : cs.length ≤ 4611686018427387904) (hf : ∀ c ∈ cs, c.fine) (ob : Obs) (pb : Nat) (r : Bool) (hr : r = true ↔ GlobalP cs) : Gives env1 26 [sl5 false lab cs sp] ob pb (.bool r, ob) := by
  have hlen : (cs.map C.row).length = cs.length := by simp
  obtain ⟨q, hq⟩ := boolOf (RightP cs)
  have no : ¬ GlobalP cs → LV.bool false = LV.bool r := fun h => bool_of hr ⟨fun e => (nomatch e), fun e => absurd e h⟩
  refine gives_code (f := tf26) rfl ?_
  conv => whnf
  refine ⟨_, _, refRight_ok lab cs sp hl hf ob _ q hq, fun _ => rfl, ?_⟩
  conv => whnf
  refine sel_split (fun h => ?_) (fun h => ?_)
  · conv => whnf
    exact ⟨rfl, no (fun hw => by rw [hq.2 hw.1] at h; cases h), rfl⟩
  · conv => whnf
    have hR := hq.1 (by simpa using h)
    refine loop_abs (S := fun i : Nat => S26 (sl5 false lab cs sp) i ob) (m := fun i => cs.length - i) (P := fun i => i ≤ cs.length ∧ ∀ k d, k < i → cs[k]? = some d → ¬ locC d) ?_ 0 ⟨Nat.zero_le _, fun k s h => by omega⟩ rfl
    rintro R i ⟨hi, hP⟩ hN hE hRt
    conv => whnf
    refine sel_split (fun h => ?_) (fun h => ?_)
    · conv => whnf
      have h := of_decide_eq_true h
      rw [hlen] at h
      obtain ⟨c, hc⟩ : ∃ c, cs[i]? = some c := ⟨_, List.getElem?_eq_getElem (show i < cs.length by omega)⟩
      have hcm := List.mem_of_getElem? hc
      have hok := hR.2.2.2 c hcm
      have e : IntKind.i64.wrap ((i : Int) + 1) = ((i + 1 : Nat) : Int) := by rw [wrap64] <;> omega
      have next : ¬ locC c → ∀ k d, k < i + 1 → cs[k]? = some d → ¬ locC d := by
        intro hn k d hk hd
        by_cases hki : k = i
        · subst hki; rw [hc] at hd; cases hd; exact hn
        · exact hP k d (by omega) hd
      refine ⟨_, ⟨by omega, idx_row hc⟩, ?_⟩
      conv => whnf
      refine sel_split (fun h2 => ?_) (fun h2 => ?_)
      · conv => whnf
        have h2 : c.k = 4 := by simpa using h2
        refine ⟨_, ⟨by omega, idx_row hc⟩, ?_⟩
        conv => whnf
        refine sel_split (fun h3 => ?_) (fun h3 => ?_)
        · conv => whnf
          have h3 := of_decide_eq_true h3
          refine hRt _ ?_
          conv => whnf
          refine ⟨rfl, no (fun hw => hw.2 c hcm ⟨h2, ?_⟩), rfl⟩
          rcases hok with g | g | g | g <;> omega
        · conv => whnf
          have h3 := of_decide_eq_false h3
          refine hN (i + 1) _ ⟨by omega, next (fun hn => by have := hn.2; omega)⟩ (by omega) ?_
          rw [← e]; rfl
      · conv => whnf
        have h2 : c.k ≠ 4 := by simpa using h2
        refine hN (i + 1) _ ⟨by omega, next (fun hn => h2 hn.1)⟩ (by omega) ?_
        rw [← e]; rfl
    · conv => whnf
      have h := of_decide_eq_false h
      rw [hlen] at h
      refine hE _ _ ?_
      conv => whnf
      refine ⟨rfl, bool_of hr ⟨fun _ => ⟨hR, fun c hc => ?_⟩, fun _ => rfl⟩, rfl⟩
      obtain ⟨k, hk, e⟩ := List.getElem_of_mem hc
      exact hP k c (by omega) (by rw [List.getElem?_eq_getElem hk, e])
end Tree
