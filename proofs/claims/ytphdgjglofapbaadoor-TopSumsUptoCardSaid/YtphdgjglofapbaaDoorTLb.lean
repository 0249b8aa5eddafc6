/- Layer 1: copies and comparisons of terms and of rows of terms, what E answers. -/
import Derived.Test.YtphdgjglofapbaaDoorTLa
import Derived.Test.YtphdgjglofapbaaDoorL1Live
set_option autoImplicit false
set_option linter.unusedVariables false
set_option linter.unusedSimpArgs false
namespace Tree
open Go
set_option maxHeartbeats 4000000
set_option maxRecDepth 100000
abbrev sl5 (o : Bool) (l : Nat) (cs : List C) (sp : List (List LV)) : LV := .sl o l 5 (cs.map C.row) sp
/-- A term in a row of terms. -/
structure T1 where
  lab : Nat
  cs : List C
  sp : List (List LV)
def T1.row (t : T1) : List LV := [.sl false t.lab 5 (t.cs.map C.row) t.sp]
def T1.own (t : T1) : T1 := ⟨0, t.cs, []⟩
abbrev sl1 (o : Bool) (l : Nat) (ts : List T1) (sp : List (List LV)) : LV := .sl o l 1 (ts.map T1.row) sp
theorem idx_t {ts : List T1} {i : Nat} {t : T1} (h : ts[i]? = some t) : (ts.map T1.row)[i]? = some [.sl false t.lab 5 (t.cs.map C.row) t.sp] := by
  rw [List.getElem?_map, h]; rfl
theorem noRef_rows (n : Nat) : ∀ cs : List C, LV.noRefss n (cs.map C.row) = true
  | [] => by simp [LV.noRefss]
  | c :: cs => by simp [LV.noRefss, noRef_rows n cs, C.row, LV.noRefs, LV.noRef]
theorem noRef5 (n : Nat) (o : Bool) (l : Nat) (cs : List C) : (sl5 o l cs []).noRef n = true := by simp [LV.noRef, LV.noRefss, noRef_rows]
end Tree

set_option autoImplicit false
set_option linter.unusedVariables false
set_option linter.unusedSimpArgs false
namespace Tree
open Go
set_option maxHeartbeats 4000000
set_option maxRecDepth 100000
theorem single_right (c : C) (hk : c.k ≠ 3) : RightP [c] ↔ okC c := by
  have hp : partsC c = 0 := by unfold partsC; rw [if_neg hk]
  have he : endE [c] 0 = 1 := by
    simp [endE, scanE, hp]
    decide
  constructor
  · intro h; exact h.2.2.2 c (List.mem_singleton.2 rfl)
  · intro h; exact ⟨by simp, by simp, by simpa using he, by simpa using h⟩
theorem single_ok (c : C) (hf : c.fine) (hk : c.k ≠ 3) (ob : Obs) (pb : Nat) (r : Bool) (hr : r = true ↔ okC c) : Gives env1 37 [c.lv] ob pb (sl5 true 0 (if r then [c] else []) [], ob) := by
  rw [← single_right c hk] at hr
  refine gives_code (f := tf37) rfl ?_
  conv => whnf
  refine ⟨_, _, right_ok 0 [c] [] (by simp) (fun d hd => by rw [List.mem_singleton.1 hd]; exact hf) ob _ r hr, fun _ => rfl, ?_⟩
  conv => whnf
  refine sel_split (fun h => ?_) (fun h => ?_)
  · conv => whnf
    refine ⟨rfl, ?_, rfl⟩
    rw [h]; rfl
  · conv => whnf
    refine ⟨rfl, ?_, rfl⟩
    rw [h]; rfl
def cInt (n : Int) : C := ⟨1, emptyS, n, 0, 0⟩
def cVar (a b : Int) : C := ⟨4, emptyS, 0, a, b⟩
theorem fineInt (n : Int) : (cInt n).fine := ⟨Nat.zero_le _, (by decide : (0 : Int) ≤ 1), (by decide : (1 : Int) ≤ 255)⟩
theorem fineVar (a b : Int) : (cVar a b).fine := ⟨Nat.zero_le _, (by decide : (0 : Int) ≤ 4), (by decide : (4 : Int) ≤ 255)⟩
theorem ofInt_ok (n : Int) (ob : Obs) (pb : Nat) (r : Bool) (hr : r = true ↔ okC (cInt n)) : Gives env1 9 [.int .i64 n] ob pb (sl5 true 0 (if r then [cInt n] else []) [], ob) := by
  refine gives_code (f := tf9) rfl ?_
  conv => whnf
  refine ⟨_, _, single_ok (cInt n) (fineInt n) (by show (1 : Int) ≠ 3; decide) ob _ r hr, fun _ => noRef5 _ _ _ _, ?_⟩
  conv => whnf
  exact ⟨rfl, rfl, rfl⟩
theorem ofVar_ok (a b : Int) (ob : Obs) (pb : Nat) (r : Bool) (hr : r = true ↔ okC (cVar a b)) : Gives env1 14 [nm a b] ob pb (sl5 true 0 (if r then [cVar a b] else []) [], ob) := by
  refine gives_code (f := tf14) rfl ?_
  conv => whnf
  refine ⟨_, _, single_ok (cVar a b) (fineVar a b) (by show (4 : Int) ≠ 3; decide) ob _ r hr, fun _ => noRef5 _ _ _ _, ?_⟩
  conv => whnf
  exact ⟨rfl, rfl, rfl⟩
def T1.fine (t : T1) : Prop := t.cs.length ≤ 4611686018427387904 ∧ ∀ c ∈ t.cs, c.fine
def S53 (v x : LV) (n : Nat) (i : Int) (ob : Obs) : WSt := ⟨.val v :: .val x :: List.replicate 5 (.val .undef) ++ .val (.int .i64 n) :: .val (.int .i64 i) :: List.replicate 10 (.val .undef), ob, []⟩
theorem anyT_ok (g lab : Nat) (ts : List T1) (sp : List (List LV)) (p : T1 → Prop) (hl : ts.length ≤ 4611686018427387904) (hg : ∀ t ∈ ts, ∀ ob pb (r : Bool), (r = true ↔ p t) → Gives env1 g t.row ob pb (.bool r, ob)) (ob : Obs) (pb : Nat) (r : Bool) (hr : r = true ↔ ∃ t ∈ ts, p t) :
    ∃ j : Int, (decide (j ≥ 0) = r) ∧ Gives env1 53 [sl1 false lab ts sp, .fn g []] ob pb (.int .i64 j, ob) := by
  have hlen : (ts.map T1.row).length = ts.length := by simp
  suffices h : ∃ j : Int, ((0 ≤ j ↔ ∃ t ∈ ts, p t)) ∧ Gives env1 53 [sl1 false lab ts sp, .fn g []] ob pb (.int .i64 j, ob) by
    obtain ⟨j, h1, h2⟩ := h
    exact ⟨j, by rw [Bool.eq_iff_iff, decide_eq_true_eq, hr, ← h1], h2⟩
  obtain ⟨j, hj0, hj1, hj2⟩ : ∃ j : Int, (0 ≤ j ↔ ∃ c ∈ ts, p c) ∧ (∀ (i : Nat) c, ts[i]? = some c → p c → (∀ k d, k < i → ts[k]? = some d → ¬ p d) → j = i) ∧ ((∀ (k : Nat) d, ts[k]? = some d → ¬ p d) → j = -1) := by
    by_cases h : ∃ c ∈ ts, p c
    · have : ∃ (i : Nat) (c : T1), ts[i]? = some c ∧ p c ∧ ∀ k d, k < i → ts[k]? = some d → ¬ p d := by
        apply Classical.byContradiction
        intro hn
        have all : ∀ n : Nat, ∀ k d, k < n → ts[k]? = some d → ¬ p d := by
          intro n
          induction n with
          | zero => intro k d hk; omega
          | succ n ih =>
            intro k d hk hd hp
            by_cases hkn : k < n
            · exact ih k d hkn hd hp
            · have : k = n := by omega
              subst this
              exact hn ⟨k, d, hd, hp, ih⟩
        obtain ⟨c, hc, hp⟩ := h
        obtain ⟨i, hi, e⟩ := List.getElem_of_mem hc
        exact all (i + 1) i c (by omega) (by rw [List.getElem?_eq_getElem hi, e]) hp
      obtain ⟨i, c, h1, h2, h3⟩ := this
      refine ⟨i, ⟨fun _ => h, fun _ => by omega⟩, fun i' c' h4 h5 h6 => ?_, fun h4 => absurd h2 (h4 i c h1)⟩
      rcases Nat.lt_trichotomy i i' with h7 | h7 | h7
      · exact absurd h2 (h6 i c h7 h1)
      · rw [h7]
      · exact absurd h5 (h3 i' c' h7 h4)
    · exact ⟨-1, ⟨fun h' => by omega, fun h' => absurd h' h⟩, fun i c h1 h2 _ => absurd ⟨c, List.mem_of_getElem? h1, h2⟩ h, fun _ => rfl⟩
  refine ⟨j, hj0, ?_⟩
  refine gives_code (f := tf53) rfl ?_
  conv => whnf
  refine loop_abs (S := fun i : Nat => S53 (sl1 false lab ts sp) (.fn g []) (ts.map T1.row).length i ob) (m := fun i => ts.length - i) (P := fun i => i ≤ ts.length ∧ ∀ k d, k < i → ts[k]? = some d → ¬ p d) ?_ 0 ⟨Nat.zero_le _, fun k s h => by omega⟩ rfl
  rintro R i ⟨hi, hP⟩ hN hE hR
  conv => whnf
  refine sel_split (fun h => ?_) (fun h => ?_)
  · conv => whnf
    have h := of_decide_eq_true h
    rw [hlen] at h
    obtain ⟨c, hc⟩ : ∃ c, ts[i]? = some c := ⟨_, List.getElem?_eq_getElem (show i < ts.length by omega)⟩
    refine ⟨_, ⟨by omega, idx_t hc⟩, ?_⟩
    conv => whnf
    obtain ⟨q, hq⟩ := boolOf (p c)
    refine ⟨_, _, hg c (List.mem_of_getElem? hc) ob _ q hq, fun _ => rfl, ?_⟩
    conv => whnf
    refine sel_split (fun h2 => ?_) (fun h2 => ?_)
    · conv => whnf
      refine hR _ ?_
      conv => whnf
      refine ⟨rfl, ?_, rfl⟩
      rw [hj1 i c hc (hq.1 h2) hP]; rfl
    · conv => whnf
      have e : IntKind.i64.wrap ((i : Int) + 1) = ((i + 1 : Nat) : Int) := by rw [wrap64] <;> omega
      refine hN (i + 1) _ ⟨by omega, fun k d hk hd => ?_⟩ (by omega) ?_
      · by_cases hki : k = i
        · subst hki; rw [hc] at hd; cases hd
          intro hp; rw [hq.2 hp] at h2; cases h2
        · exact hP k d (by omega) hd
      · rw [← e]; rfl
  · conv => whnf
    have h := of_decide_eq_false h
    rw [hlen] at h
    refine hE _ _ ?_
    conv => whnf
    refine ⟨rfl, ?_, rfl⟩
    rw [hj2 (fun k d hk => hP k d (by have := (List.getElem?_eq_some_iff.1 hk).1; omega) hk)]; rfl
theorem hasT_ok (g lab : Nat) (ts : List T1) (sp : List (List LV)) (p : T1 → Prop) (hl : ts.length ≤ 4611686018427387904) (hg : ∀ t ∈ ts, ∀ ob pb (r : Bool), (r = true ↔ p t) → Gives env1 g t.row ob pb (.bool r, ob)) (ob : Obs) (pb : Nat) (r : Bool) (hr : r = true ↔ ∃ t ∈ ts, p t) :
    Gives env1 33 [sl1 false lab ts sp, .fn g []] ob pb (.bool r, ob) := by
  obtain ⟨j, hj, hgv⟩ := anyT_ok g lab ts sp p hl hg ob (max pb ob.length) r hr
  refine gives_code (f := tf33) rfl ?_
  conv => whnf
  refine ⟨_, _, hgv, fun _ => rfl, ?_⟩
  conv => whnf
  refine ⟨rfl, ?_, rfl⟩
  show LV.bool _ = LV.bool r
  rw [hj]
def catN (ts : List T1) (i : Nat) : List C := (ts.take i).flatMap T1.cs
theorem catN_succ {ts : List T1} {i : Nat} {t : T1} (h : ts[i]? = some t) : catN ts (i + 1) = catN ts i ++ t.cs := by
  unfold catN; rw [List.take_add_one, h]; simp
theorem catN_le {ts : List T1} (i : Nat) : (catN ts i).length ≤ (ts.flatMap T1.cs).length := by
  have : ts.flatMap T1.cs = catN ts i ++ (ts.drop i).flatMap T1.cs := by
    unfold catN; rw [← List.flatMap_append, List.take_append_drop]
  rw [this]; simp
end Tree

set_option autoImplicit false
set_option linter.unusedVariables false
set_option linter.unusedSimpArgs false
namespace Tree
open Go
set_option maxHeartbeats 4000000
set_option maxRecDepth 100000
def makeV (p : List C × Int) : LV := .tup [sl5 false 0 p.1 [], .int .i64 p.2]
end Tree

set_option autoImplicit false
set_option linter.unusedVariables false
set_option linter.unusedSimpArgs false
namespace Tree
open Go
def ar (c : C) : Nat := (partsC c).toNat
/-- What is left behind o whole terms. -/
def walk : List C → Nat → Option (List C)
  | l, 0 => some l
  | [], _ + 1 => none
  | c :: r, o + 1 => walk r (o + ar c)
theorem walk_zero (l : List C) : walk l 0 = some l := by cases l <;> rfl
theorem walk_le : ∀ (l : List C) (o : Nat) (r : List C), walk l o = some r → o ≤ l.length ∧ r.length ≤ l.length
  | l, 0, r, h => by rw [walk_zero] at h; cases h; exact ⟨Nat.zero_le _, Nat.le_refl _⟩
  | [], o + 1, r, h => by simp [walk] at h
  | c :: l, o + 1, r, h => by
    rw [walk] at h
    have := walk_le l _ r h
    simp only [List.length_cons]; omega
theorem ok_parts {c : C} (h : okC c) : partsC c = (ar c : Int) ∧ ar c ≤ 8 := by
  unfold ar partsC
  rcases h with h | h | h | h
  · rw [if_neg (by rw [h.1]; decide)]; exact ⟨rfl, by decide⟩
  · rw [if_neg (by rw [h.1]; decide)]; exact ⟨rfl, by decide⟩
  · rw [if_pos h.1]
    rcases h.2.2 with g | g
    · rw [if_neg (by omega)]; omega
    · rw [if_neg (by omega)]; omega
  · rw [if_neg (by rw [h.1]; decide)]; exact ⟨rfl, by decide⟩
theorem w64_id {x : Int} (h1 : -9223372036854775808 ≤ x) (h2 : x ≤ 9223372036854775807) : w64 x = x := wrap64 h1 h2
theorem scan_walk (L : Nat) : ∀ (l : List C) (o p : Nat), (∀ c ∈ l, okC c) → l.length ≤ L → o + 8 * l.length ≤ 4611686018427387904 →
    scanE L l (o : Int) p = match walk l o with | some r => ((p + (l.length - r.length) : Nat) : Int) | none => 0
  | l, 0, p, _, _, _ => by
    rw [walk_zero]
    cases l <;> simp [scanE]
  | [], o + 1, p, _, _, _ => by
    have : ¬ ((o + 1 : Nat) : Int) ≤ 0 := by omega
    simp only [scanE, walk, if_neg this]
  | c :: l, o + 1, p, h, hL, hb => by
    have h0 : ¬ ((o + 1 : Nat) : Int) ≤ 0 := by omega
    obtain ⟨hp, h8⟩ := ok_parts (h c (List.mem_cons_self ..))
    simp only [List.length_cons] at hL hb
    simp only [scanE, walk, if_neg h0, hp]
    by_cases hgt : ((ar c : Nat) : Int) > (L : Int)
    · rw [if_pos hgt]
      have : walk l (o + ar c) = none := by
        cases hw : walk l (o + ar c) with
        | none => rfl
        | some r => have := (walk_le l _ r hw).1; omega
      rw [this]
    · rw [if_neg hgt]
      have e : w64 (((o + 1 : Nat) : Int) + w64 ((ar c : Int) - 1)) = ((o + ar c : Nat) : Int) := by
        rw [w64_id (x := (ar c : Int) - 1) (by omega) (by omega), w64_id (by omega) (by omega)]; omega
      rw [e, scan_walk L l (o + ar c) (p + 1) (fun d hd => h d (List.mem_cons_of_mem _ hd)) (by omega) (by omega)]
      cases hw : walk l (o + ar c) with
      | none => rfl
      | some r =>
        have := (walk_le l _ r hw).2
        simp only [List.length_cons]
        congr 1; omega
theorem walk_add : ∀ (l : List C) (a b : Nat), walk l (a + b) = (walk l a).bind fun r => walk r b
  | l, 0, b => by rw [walk_zero, Nat.zero_add]; rfl
  | [], a + 1, b => by rw [show a + 1 + b = (a + b) + 1 by omega]; simp [walk]
  | c :: l, a + 1, b => by
    rw [show a + 1 + b = (a + b) + 1 by omega, walk, walk, show a + b + ar c = (a + ar c) + b by omega]
    exact walk_add l _ b
theorem walk_pre : ∀ (l : List C) (o : Nat) (r : List C), walk l o = some r → ∃ pre, l = pre ++ r ∧ walk pre o = some []
  | l, 0, r, h => by rw [walk_zero] at h; cases h; exact ⟨[], rfl, rfl⟩
  | [], o + 1, r, h => by simp [walk] at h
  | c :: l, o + 1, r, h => by
    rw [walk] at h
    obtain ⟨pre, rfl, h2⟩ := walk_pre l _ r h
    exact ⟨c :: pre, rfl, by rw [walk]; exact h2⟩
theorem walk_nil {o : Nat} {r : List C} (h : walk [] o = some r) : o = 0 := by
  cases o with
  | zero => rfl
  | succ o => simp [walk] at h
theorem right_walk (cs : List C) : RightP cs ↔ cs ≠ [] ∧ cs.length ≤ 256 ∧ walk cs 1 = some [] ∧ ∀ c ∈ cs, okC c := by
  unfold RightP
  constructor
  · rintro ⟨h1, h2, h3, h4⟩
    refine ⟨h1, h2, ?_, h4⟩
    have hlen : 0 < cs.length := List.length_pos_iff.2 h1
    have he : endE cs 0 = scanE cs.length cs ((1 : Nat) : Int) 0 := by
      unfold endE; rw [if_neg (by omega)]; rfl
    rw [he, scan_walk cs.length cs 1 0 h4 (Nat.le_refl _) (by omega)] at h3
    cases hw : walk cs 1 with
    | none => rw [hw] at h3; simp only at h3; omega
    | some r =>
      rw [hw] at h3; simp only at h3
      have := (walk_le cs 1 r hw).2
      have : r.length = 0 := by omega
      rw [List.length_eq_zero_iff.1 this]
  · rintro ⟨h1, h2, h3, h4⟩
    refine ⟨h1, h2, ?_, h4⟩
    have hlen : 0 < cs.length := List.length_pos_iff.2 h1
    have he : endE cs 0 = scanE cs.length cs ((1 : Nat) : Int) 0 := by
      unfold endE; rw [if_neg (by omega)]; rfl
    rw [he, scan_walk cs.length cs 1 0 h4 (Nat.le_refl _) (by omega), h3]
    simp
/-- The arguments, one behind the other. -/
def splitW : Nat → List C → List (List C)
  | 0, _ => []
  | n + 1, l => match walk l 1 with
    | some r => l.take (l.length - r.length) :: splitW n r
    | none => []
theorem splitW_ok : ∀ (n : Nat) (l : List C), walk l n = some [] → (splitW n l).length = n ∧ (splitW n l).flatten = l ∧ ∀ e ∈ splitW n l, e ≠ [] ∧ walk e 1 = some [] ∧ (∀ c ∈ e, c ∈ l) ∧ e.length ≤ l.length
  | 0, l, h => by rw [walk_zero] at h; cases h; simp [splitW]
  | n + 1, l, h => by
    rw [Nat.add_comm, walk_add] at h
    obtain ⟨r, h1, h2⟩ := Option.bind_eq_some_iff.1 h
    obtain ⟨pre, rfl, h3⟩ := walk_pre l 1 r h1
    obtain ⟨a1, a2, a3⟩ := splitW_ok n r h2
    have e : (pre ++ r).take ((pre ++ r).length - r.length) = pre := by simp
    simp only [splitW, h1, e]
    refine ⟨by simp [a1], by simp [a2], fun x hx => ?_⟩
    rcases List.mem_cons.1 hx with rfl | hx
    · refine ⟨fun e => ?_, h3, fun c hc => List.mem_append_left _ hc, by simp⟩
      rw [e] at h3; have := walk_nil h3; omega
    · obtain ⟨b1, b2, b3, b4⟩ := a3 x hx
      exact ⟨b1, b2, fun c hc => List.mem_append_right _ (b3 c hc), by simp; omega⟩
def StructP (cs : List C) : Prop := RightP cs ∧ ∃ c r, cs = c :: r ∧ c.k = 3
open Classical in
noncomputable def argsR (cs : List C) : List (List C) := if StructP cs then (match cs with | [] => [] | c :: r => splitW (ar c) r) else []
theorem struct_facts {c : C} {r : List C} (h : RightP (c :: r)) (hk : c.k = 3) : walk r (ar c) = some [] ∧ 1 ≤ ar c ∧ (ar c : Int) = c.n ∧ zeroVar c := by
  obtain ⟨_, _, h3, h4⟩ := (right_walk _).1 h
  rw [walk, Nat.zero_add] at h3
  have hc := h4 c (List.mem_cons_self ..)
  have hp := ok_parts hc
  rcases hc with g | g | g | g
  · omega
  · omega
  · unfold partsC at hp
    rw [if_pos hk] at hp
    rcases g.2.2 with q | q
    · rw [if_neg (by omega)] at hp
      exact ⟨h3, by omega, hp.1.symm, g.2.1⟩
    · rw [if_neg (by omega)] at hp
      exact ⟨h3, by omega, hp.1.symm, g.2.1⟩
  · omega
theorem args_facts {c : C} {r : List C} (h : RightP (c :: r)) (hk : c.k = 3) : argsR (c :: r) = splitW (ar c) r ∧ (argsR (c :: r)).length = ar c ∧ (argsR (c :: r)).flatten = r ∧ ∀ e ∈ argsR (c :: r), RightP e := by
  obtain ⟨h1, h2, h3, h4⟩ := struct_facts h hk
  have e : argsR (c :: r) = splitW (ar c) r := by unfold argsR; rw [if_pos ⟨h, c, r, rfl, hk⟩]
  obtain ⟨a1, a2, a3⟩ := splitW_ok _ _ h1
  refine ⟨e, by rw [e]; exact a1, by rw [e]; exact a2, fun x hx => ?_⟩
  rw [e] at hx
  obtain ⟨b1, b2, b3, b4⟩ := a3 x hx
  obtain ⟨_, q2, _, q4⟩ := (right_walk _).1 h
  simp only [List.length_cons] at q2
  exact (right_walk _).2 ⟨b1, by omega, b2, fun d hd => q4 d (List.mem_cons_of_mem _ (b3 d hd))⟩
end Tree

set_option autoImplicit false
set_option linter.unusedVariables false
set_option linter.unusedSimpArgs false
namespace Tree
open Go
set_option maxHeartbeats 4000000
set_option maxRecDepth 100000
theorem noRef1 (n : Nat) (o : Bool) (l : Nat) (ts : List T1) : (sl1 o l (ts.map T1.own) []).noRef n = true := by
  have : ∀ ts : List T1, LV.noRefss n ((ts.map T1.own).map T1.row) = true := by
    intro ts
    induction ts with
    | nil => simp [LV.noRefss]
    | cons t ts ih => simp only [List.map_cons, LV.noRefss, ih, Bool.and_true]; simp [T1.row, T1.own, LV.noRefs, LV.noRef, LV.noRefss, noRef_rows]
  have e : (sl1 o l (ts.map T1.own) []).noRef n = (LV.noRefss n ((ts.map T1.own).map T1.row) && LV.noRefss n []) := by rw [LV.noRef]
  rw [e, this]; simp [LV.noRefss]
end Tree

set_option autoImplicit false
set_option linter.unusedVariables false
set_option linter.unusedSimpArgs false
namespace Tree
open Go
set_option maxHeartbeats 4000000
set_option maxRecDepth 100000
def T1.mk0 (e : List C) : T1 := ⟨0, e, []⟩
theorem drop_split {l : List C} {a : Nat} {r : List C} (h : walk (l.drop a) 1 = some r) (ha : a ≤ l.length) : r = l.drop (a + ((l.drop a).length - r.length)) ∧ a < a + ((l.drop a).length - r.length) ∧ a + ((l.drop a).length - r.length) ≤ l.length := by
  obtain ⟨pre, h1, h2⟩ := walk_pre _ _ _ h
  have hp : pre ≠ [] := fun e => by rw [e] at h2; have := walk_nil h2; omega
  have hl : 0 < pre.length := List.length_pos_iff.2 hp
  have e : (l.drop a).length - r.length = pre.length := by rw [h1]; simp
  rw [e]
  refine ⟨?_, by omega, ?_⟩
  · rw [← List.drop_drop, h1]; simp
  · have := congrArg List.length h1
    simp at this; omega
def S17 (v o : LV) (i : Int) (ob : Obs) : WSt := ⟨.val v :: .val .undef :: .val .undef :: .val o :: .val (.int .i64 i) :: List.replicate 28 (.val .undef), ob, []⟩
theorem args_ok (lab : Nat) (cs : List C) (sp : List (List LV)) (hl : cs.length ≤ 4611686018427387904) (hf : ∀ c ∈ cs, c.fine) (ob : Obs) (pb : Nat) : Gives env1 17 [sl5 false lab cs sp] ob pb (sl1 true 0 ((argsR cs).map T1.mk0) [], ob) := by
  have hlen : (cs.map C.row).length = cs.length := by simp
  obtain ⟨q, hq⟩ := boolOf (RightP cs)
  have no : ¬ StructP cs → argsR cs = [] := fun h => by unfold argsR; rw [if_neg h]
  refine gives_code (f := tf17) rfl ?_
  conv => whnf
  refine ⟨_, _, right_ok lab cs sp hl hf ob _ q hq, fun _ => rfl, ?_⟩
  conv => whnf
  refine sel_split (fun h1 => ?_) (fun h1 => ?_)
  · conv => whnf
    have h1 : q = false := by simpa using h1
    refine ⟨rfl, ?_, rfl⟩
    rw [no (fun h => by have := hq.2 h.1; rw [h1] at this; cases this)]; rfl
  · conv => whnf
    have h1 : q = true := by simpa using h1
    have hR := hq.1 h1
    obtain ⟨c, r, rfl⟩ : ∃ c r, cs = c :: r := by
      cases cs with
      | nil => exact absurd rfl hR.1
      | cons c r => exact ⟨c, r, rfl⟩
    refine ⟨_, ⟨by omega, idx_row (cs := c :: r) (i := 0) rfl⟩, ?_⟩
    conv => whnf
    refine sel_split (fun h2 => ?_) (fun h2 => ?_)
    · conv => whnf
      have h2 : c.k ≠ 3 := by simpa using h2
      refine ⟨rfl, ?_, rfl⟩
      rw [no (fun h => by
        obtain ⟨_, c', r', e, hk⟩ := h
        injection e with e1 e2
        subst e1; exact h2 hk)]; rfl
    · conv => whnf
      have hk : c.k = 3 := by simpa using h2
      obtain ⟨f1, f2, f3, f4⟩ := args_facts hR hk
      obtain ⟨g1, g2, g3, g4⟩ := struct_facts hR hk
      obtain ⟨_, q2, _, q4⟩ := (right_walk _).1 hR
      refine loop_abs (ι := Nat × Nat × List (List C)) (S := fun p => S17 (sl5 false lab (c :: r) sp) (sl1 true 0 (p.2.2.map T1.mk0) []) p.1 ob) (m := fun p => (c :: r).length - p.1)
        (P := fun p => 1 ≤ p.1 ∧ p.1 ≤ (c :: r).length ∧ walk ((c :: r).drop p.1) p.2.1 = some [] ∧ p.2.2 ++ splitW p.2.1 ((c :: r).drop p.1) = argsR (c :: r)) ?_ (1, ar c, []) ⟨Nat.le_refl _, by simp, by simpa using g1, by simpa using f1.symm⟩ rfl
      rintro R ⟨a, m, done⟩ ⟨h3, h4, h5, h6⟩ hN hE hRt
      simp only at h3 h4 h5 h6
      conv => whnf
      refine sel_split (fun h => ?_) (fun h => ?_)
      · conv => whnf
        have h := of_decide_eq_true h
        rw [hlen] at h
        have halt : a < (c :: r).length := by omega
        obtain ⟨m', rfl⟩ : ∃ m', m = m' + 1 := by
          cases m with
          | zero =>
            rw [walk_zero] at h5
            have := congrArg (Option.map List.length) h5
            simp only [Option.map_some, Option.some.injEq, List.length_drop, List.length_nil] at this
            omega
          | succ m => exact ⟨m, rfl⟩
        rw [Nat.add_comm, walk_add] at h5
        obtain ⟨rest, w1, w2⟩ := Option.bind_eq_some_iff.1 h5
        obtain ⟨d1, d2, d3⟩ := drop_split w1 h4
        have hend : endE (c :: r) (a : Int) = ((a + (((c :: r).drop a).length - rest.length) : Nat) : Int) := by
          unfold endE
          rw [if_neg (by omega)]
          have : ((a : Int)).toNat = a := by omega
          rw [this]
          have := scan_walk (c :: r).length ((c :: r).drop a) 1 a (fun d hd => q4 d (List.mem_of_mem_drop hd)) (by simp only [List.length_drop]; omega) (by simp only [List.length_drop]; omega)
          rw [w1] at this
          exact this
        obtain ⟨b, hb⟩ : ∃ b, b = a + (((c :: r).drop a).length - rest.length) := ⟨_, rfl⟩
        rw [← hb] at hend d1 d2 d3
        have hsp : splitW (m' + 1) ((c :: r).drop a) = ((c :: r).drop a).take (b - a) :: splitW m' ((c :: r).drop b) := by
          simp only [splitW, w1]
          rw [← d1]
          congr 2; omega
        refine ⟨_, _, end_ok lab (c :: r) sp a (by omega) ob _, fun _ => rfl, ?_⟩
        conv => whnf
        refine ⟨(((c :: r).drop a).take (b - a)).map C.row, ((c :: r).drop b).map C.row ++ sp, ⟨⟨by omega, ?_, ?_⟩, ?_, ?_⟩, ?_⟩
        · show (a : Int) ≤ endE (c :: r) a
          rw [hend]; omega
        · show endE (c :: r) a ≤ _
          rw [hend]; simp only [List.length_append, hlen]; omega
        · show _ = (((c :: r).map C.row ++ sp).take (endE (c :: r) a).toNat).drop (a : Int).toNat
          rw [hend]
          have e1 : ((b : Nat) : Int).toNat = b := by omega
          have e2 : ((a : Nat) : Int).toNat = a := by omega
          rw [e1, e2, List.take_append_of_le_length (by rw [hlen]; omega), ← List.map_take, ← List.map_drop, List.drop_take]
        · show _ = ((c :: r).map C.row ++ sp).drop (endE (c :: r) a).toNat
          rw [hend]
          have e1 : ((b : Nat) : Int).toNat = b := by omega
          rw [e1, List.drop_append_of_le_length (by rw [hlen]; omega), List.map_drop]
        conv => whnf
        refine ⟨_, _, gives_ext (F := cloneF 5 48) (r := sl5 true 0 (((c :: r).drop a).take (b - a)) []) rfl ?_, fun _ => noRef5 _ _ _ _, ?_⟩
        · simp only [cloneF, cloneF0]
          have : (((c :: r).drop a).take (b - a)).length ≤ 256 := by simp only [List.length_take, List.length_drop]; omega
          rw [if_pos ⟨trivial, by rw [List.length_map]; unfold maxLen; omega, by rw [List.length_map]; omega⟩]
        conv => whnf
        have hdone : done.length ≤ 256 := by
          have := congrArg List.length h6
          rw [f2, List.length_append] at this
          have := (ok_parts (q4 c (List.mem_cons_self ..))).2
          omega
        refine ⟨((done ++ [((c :: r).drop a).take (b - a)]).map T1.mk0).map T1.row, ⟨.inl rfl, ?_, ?_⟩, ?_⟩
        · show (((done.map T1.mk0).map T1.row).length + 1) * 24 ≤ _
          simp only [List.length_map]; omega
        · simp only [List.map_append]; rfl
        conv => whnf
        refine hN (b, m', done ++ [((c :: r).drop a).take (b - a)]) _ ⟨by omega, d3, ?_, ?_⟩ (by show (c :: r).length - b < (c :: r).length - a; omega) ?_
        · rw [← d1]; exact w2
        · rw [List.append_assoc, ← h6, hsp]; rfl
        · show _ = S17 _ _ ((b : Nat) : Int) ob
          rw [← hend]; rfl
      · conv => whnf
        have h := of_decide_eq_false h
        rw [hlen] at h
        have : a = (c :: r).length := by omega
        subst this
        refine hE _ _ ?_
        conv => whnf
        refine ⟨rfl, ?_, rfl⟩
        rw [List.drop_length] at h5 h6
        have := walk_nil h5
        subst this
        simp only [splitW, List.append_nil] at h6
        rw [h6]; rfl
end Tree

set_option autoImplicit false
set_option linter.unusedVariables false
set_option linter.unusedSimpArgs false
namespace Tree
open Go
set_option maxHeartbeats 4000000
set_option maxRecDepth 100000
abbrev NV := Int × Int
def nrow (v : NV) : List LV := [.int .i64 v.1, .int .i64 v.2]
abbrev sl2 (o : Bool) (l : Nat) (ns : List NV) (sp : List (List LV)) : LV := .sl o l 2 (ns.map nrow) sp
theorem idx_n {ns : List NV} {i : Nat} {v : NV} (h : ns[i]? = some v) : (ns.map nrow)[i]? = some [.int .i64 v.1, .int .i64 v.2] := by
  rw [List.getElem?_map, h]; rfl
theorem noRef2 (n : Nat) (o : Bool) (l : Nat) (ns : List NV) : (sl2 o l ns []).noRef n = true := by
  have : LV.noRefss n (ns.map nrow) = true := by
    induction ns with
    | nil => simp [LV.noRefss]
    | cons v ns ih => simp [LV.noRefss, ih, nrow, LV.noRefs, LV.noRef]
  simp [LV.noRef, LV.noRefss, this]
def addN (acc : List NV) (v : NV) : List NV := if v ∈ acc then acc else acc ++ [v]
def varC (acc : List NV) (c : C) : List NV := if c.k = 4 then addN acc (c.node, c.num) else acc
def varsC (acc : List NV) (cs : List C) : List NV := cs.foldl varC acc
def varsT (acc : List NV) (ts : List T1) : List NV := ts.foldl (fun acc t => varsC acc t.cs) acc
theorem varC_len (acc : List NV) (c : C) : (varC acc c).length ≤ acc.length + 1 := by
  unfold varC addN; split
  · split <;> simp
  · omega
theorem varsC_len : ∀ (cs : List C) (acc : List NV), (varsC acc cs).length ≤ acc.length + cs.length
  | [], acc => by simp [varsC]
  | c :: cs, acc => by
    have h1 := varC_len acc c
    have h2 := varsC_len cs (varC acc c)
    simp only [varsC, List.foldl_cons, List.length_cons] at h2 ⊢; omega
theorem varsT_len : ∀ (ts : List T1) (acc : List NV), (varsT acc ts).length ≤ acc.length + (ts.flatMap T1.cs).length
  | [], acc => by simp [varsT]
  | t :: ts, acc => by
    have h1 := varsC_len t.cs acc
    have h2 := varsT_len ts (varsC acc t.cs)
    simp only [varsT, List.foldl_cons, List.flatMap_cons, List.length_append] at h2 ⊢; omega
theorem varsC_take {cs : List C} {i : Nat} {c : C} (h : cs[i]? = some c) (acc : List NV) : varsC acc (cs.take (i + 1)) = varC (varsC acc (cs.take i)) c := by
  rw [List.take_add_one, h]; simp [varsC]
theorem varsT_take {ts : List T1} {i : Nat} {t : T1} (h : ts[i]? = some t) (acc : List NV) : varsT acc (ts.take (i + 1)) = varsC (varsT acc (ts.take i)) t.cs := by
  rw [List.take_add_one, h]; simp [varsT]
def S55 (v x : LV) (bx : List LV) (n : Nat) (i : Int) (ob : Obs) : WSt := ⟨.val v :: .val .undef :: .val .undef :: .box bx :: .val .undef :: .val .undef :: .val .undef :: .val (.int .i64 n) :: .val (.int .i64 i) :: List.replicate 10 (.val .undef), ob, []⟩
theorem hasName_ok (lab : Nat) (ns : List NV) (sp : List (List LV)) (x : NV) (hl : ns.length ≤ 4611686018427387904) (ob : Obs) (pb : Nat) (r : Bool) (hr : r = true ↔ x ∈ ns) : Gives env1 42 [sl2 false lab ns sp, nm x.1 x.2] ob pb (.bool r, ob) := by
  have hlen : (ns.map nrow).length = ns.length := by simp
  obtain ⟨j, hj0, hg⟩ : ∃ j : Int, decide (j ≥ 0) = r ∧ Gives env1 55 [sl2 false lab ns sp, nm x.1 x.2] ob (max pb ob.length) (.int .i64 j, ob) := by
    obtain ⟨j, hj0, hj1, hj2⟩ : ∃ j : Int, (decide (j ≥ 0) = r) ∧ (∀ i : Nat, ns[i]? = some x → (∀ k v, k < i → ns[k]? = some v → v ≠ x) → j = i) ∧ ((∀ (k : Nat) v, ns[k]? = some v → v ≠ x) → j = -1) := by
      by_cases hx : x ∈ ns
      · have : ∃ i : Nat, ns[i]? = some x ∧ ∀ k v, k < i → ns[k]? = some v → v ≠ x := by
          apply Classical.byContradiction
          intro hn
          have all : ∀ n : Nat, ∀ k v, k < n → ns[k]? = some v → v ≠ x := by
            intro n
            induction n with
            | zero => intro k d hk; omega
            | succ n ih =>
              intro k v hk hv e
              by_cases hkn : k < n
              · exact ih k v hkn hv e
              · have : k = n := by omega
                subst this; subst e
                exact hn ⟨k, hv, ih⟩
          obtain ⟨i, hi, e⟩ := List.getElem_of_mem hx
          exact all (i + 1) i x (by omega) (by rw [List.getElem?_eq_getElem hi, e]) rfl
        obtain ⟨i, h1, h2⟩ := this
        refine ⟨i, by rw [hr.2 hx]; simp, fun i' h4 h6 => ?_, fun h4 => absurd rfl (h4 i x h1)⟩
        rcases Nat.lt_trichotomy i i' with h7 | h7 | h7
        · exact absurd rfl (h6 i x h7 h1)
        · rw [h7]
        · exact absurd rfl (h2 i' x h7 h4)
      · have hf : r = false := by
          cases r with
          | false => rfl
          | true => exact absurd (hr.1 rfl) hx
        exact ⟨-1, by rw [hf]; decide, fun i h1 _ => absurd (List.mem_of_getElem? h1) hx, fun _ => rfl⟩
    refine ⟨j, hj0, ?_⟩
    refine gives_code (f := tf55) rfl ?_
    conv => whnf
    refine loop_abs (S := fun i : Nat => S55 (sl2 false lab ns sp) .undef [.int .i64 x.1, .int .i64 x.2] (ns.map nrow).length i ob) (m := fun i => ns.length - i) (P := fun i => i ≤ ns.length ∧ ∀ k v, k < i → ns[k]? = some v → v ≠ x) ?_ 0 ⟨Nat.zero_le _, fun k s h => by omega⟩ rfl
    rintro R i ⟨hi, hP⟩ hN hE hR
    conv => whnf
    refine sel_split (fun h => ?_) (fun h => ?_)
    · conv => whnf
      have h := of_decide_eq_true h
      rw [hlen] at h
      obtain ⟨v, hv⟩ : ∃ s, ns[i]? = some s := ⟨_, List.getElem?_eq_getElem (show i < ns.length by omega)⟩
      refine ⟨_, ⟨by omega, idx_n hv⟩, ?_⟩
      conv => whnf
      refine sel_split (fun h2 => ?_) (fun h2 => ?_)
      · conv => whnf
        have h2 : v = x := by simp at h2; exact Prod.ext h2.1.symm h2.2.symm
        refine hR _ ?_
        conv => whnf
        refine ⟨rfl, ?_, rfl⟩
        rw [hj1 i (by rw [hv, h2]) hP]; rfl
      · conv => whnf
        have h2 : v ≠ x := fun e => by rw [e] at h2; simp at h2
        have e : IntKind.i64.wrap ((i : Int) + 1) = ((i + 1 : Nat) : Int) := by rw [wrap64] <;> omega
        refine hN (i + 1) _ ⟨by omega, fun k s' hk hs' => ?_⟩ (by omega) ?_
        · by_cases hki : k = i
          · subst hki; rw [hv] at hs'; cases hs'; exact h2
          · exact hP k s' (by omega) hs'
        · rw [← e]; rfl
    · conv => whnf
      have h := of_decide_eq_false h
      rw [hlen] at h
      refine hE _ _ ?_
      conv => whnf
      refine ⟨rfl, ?_, rfl⟩
      rw [hj2 (fun k s hk => hP k s (by have := (List.getElem?_eq_some_iff.1 hk).1; omega) hk)]; rfl
  refine gives_code (f := tf42) rfl ?_
  conv => whnf
  refine ⟨_, _, hg, fun _ => rfl, ?_⟩
  conv => whnf
  refine ⟨rfl, ?_, rfl⟩
  show LV.bool _ = LV.bool r
  rw [hj0]
def S22 (o v : LV) (n : Nat) (i : Int) (ob : Obs) : WSt := ⟨.val .undef :: .val .undef :: .val .undef :: .val o :: List.replicate 4 (.val .undef) ++ .val v :: .val (.int .i64 n) :: .val (.int .i64 i) :: List.replicate 27 (.val .undef), ob, []⟩
def S22b (o v : LV) (n : Nat) (i : Int) (w : LV) (m : Nat) (j : Int) (ob : Obs) : WSt := ⟨.val .undef :: .val .undef :: .val .undef :: .val o :: List.replicate 4 (.val .undef) ++ .val v :: .val (.int .i64 n) :: .val (.int .i64 i) :: .val .undef :: .val .undef :: .val .undef :: .val w :: .val (.int .i64 m) :: .val (.int .i64 j) :: List.replicate 21 (.val .undef), ob, []⟩
theorem vars_ok (lab : Nat) (ts : List T1) (sp : List (List LV)) (hl : ts.length ≤ 1048576) (hb : (ts.flatMap T1.cs).length ≤ 1048576) (ob : Obs) (pb : Nat) : Gives env1 22 [sl1 false lab ts sp] ob pb (sl2 true 0 (varsT [] ts) [], ob) := by
  have hlen : (ts.map T1.row).length = ts.length := by simp
  refine gives_code (f := tf22) rfl ?_
  conv => whnf
  refine loop_abs (S := fun i : Nat => S22 (sl2 true 0 (varsT [] (ts.take i)) []) (sl1 false lab ts sp) (ts.map T1.row).length i ob) (m := fun i => ts.length - i) (P := fun i => i ≤ ts.length) ?_ 0 (Nat.zero_le _) rfl
  intro R i hi hN hE hR
  conv => whnf
  refine sel_split (fun h => ?_) (fun h => ?_)
  · conv => whnf
    have h := of_decide_eq_true h
    rw [hlen] at h
    obtain ⟨t, ht⟩ : ∃ s, ts[i]? = some s := ⟨_, List.getElem?_eq_getElem (show i < ts.length by omega)⟩
    have hclen : (t.cs.map C.row).length = t.cs.length := by simp
    have hcat := catN_le (ts := ts) (i + 1)
    rw [catN_succ ht, List.length_append] at hcat
    have hacc : (varsT [] (ts.take i)).length ≤ (catN ts i).length := by
      have := varsT_len (ts.take i) []
      simpa [catN] using this
    refine ⟨_, ⟨by omega, idx_t ht⟩, ?_⟩
    conv => whnf
    refine loop_abs (S := fun j : Nat => S22b (sl2 true 0 (varsC (varsT [] (ts.take i)) (t.cs.take j)) []) (sl1 false lab ts sp) (ts.map T1.row).length i (.sl false t.lab 5 (t.cs.map C.row) t.sp) (t.cs.map C.row).length j ob) (m := fun j => t.cs.length - j) (P := fun j => j ≤ t.cs.length) ?_ 0 (Nat.zero_le _) rfl
    intro R' j hj hN' hE' hR'
    conv => whnf
    refine sel_split (fun h2 => ?_) (fun h2 => ?_)
    · conv => whnf
      have h2 := of_decide_eq_true h2
      rw [hclen] at h2
      obtain ⟨c, hc⟩ : ∃ s, t.cs[j]? = some s := ⟨_, List.getElem?_eq_getElem (show j < t.cs.length by omega)⟩
      have hvl := varsC_len (t.cs.take j) (varsT [] (ts.take i))
      have htl : (t.cs.take j).length ≤ j := by rw [List.length_take]; exact Nat.min_le_left _ _
      have e : IntKind.i64.wrap ((j : Int) + 1) = ((j + 1 : Nat) : Int) := by rw [wrap64] <;> omega
      refine ⟨_, ⟨by omega, idx_row hc⟩, ?_⟩
      conv => whnf
      refine sel_split (fun h3 => ?_) (fun h3 => ?_)
      · conv => whnf
        have h3 : c.k = 4 := by simpa using h3
        obtain ⟨q, hq⟩ := boolOf ((c.node, c.num) ∈ varsC (varsT [] (ts.take i)) (t.cs.take j))
        refine ⟨_, _, hasName_ok 0 (varsC (varsT [] (ts.take i)) (t.cs.take j)) [] (c.node, c.num) (by omega) ob _ q hq, fun _ => rfl, ?_⟩
        conv => whnf
        refine sel_split (fun h4 => ?_) (fun h4 => ?_)
        · conv => whnf
          have h4 : q = false := by simpa using h4
          have hv : varsC (varsT [] (ts.take i)) (t.cs.take (j + 1)) = varsC (varsT [] (ts.take i)) (t.cs.take j) ++ [(c.node, c.num)] := by
            rw [varsC_take hc]; unfold varC addN
            rw [if_pos h3, if_neg (fun hm => by rw [hq.2 hm] at h4; cases h4)]
          refine ⟨(varsC (varsT [] (ts.take i)) (t.cs.take (j + 1))).map nrow, ⟨.inl rfl, ?_, ?_⟩, ?_⟩
          · show (((varsC (varsT [] (ts.take i)) (t.cs.take j)).map nrow).length + 1) * 16 ≤ _
            rw [List.length_map]; omega
          · rw [hv, List.map_append]; rfl
          conv => whnf
          refine hN' (j + 1) _ (by omega) (by omega) ?_
          rw [← e]; rfl
        · conv => whnf
          have h4 : q = true := by simpa using h4
          have hv : varsC (varsT [] (ts.take i)) (t.cs.take (j + 1)) = varsC (varsT [] (ts.take i)) (t.cs.take j) := by
            rw [varsC_take hc]; unfold varC addN
            rw [if_pos h3, if_pos (hq.1 h4)]
          refine hN' (j + 1) _ (by omega) (by omega) ?_
          rw [← e, hv]; rfl
      · conv => whnf
        have h3 : c.k ≠ 4 := by simpa using h3
        have hv : varsC (varsT [] (ts.take i)) (t.cs.take (j + 1)) = varsC (varsT [] (ts.take i)) (t.cs.take j) := by
          rw [varsC_take hc]; unfold varC
          rw [if_neg h3]
        refine hN' (j + 1) _ (by omega) (by omega) ?_
        rw [← e, hv]; rfl
    · conv => whnf
      have h2 := of_decide_eq_false h2
      rw [hclen] at h2
      have : j = t.cs.length := by omega
      subst this
      refine hE' _ _ ?_
      conv => whnf
      have e : IntKind.i64.wrap ((i : Int) + 1) = ((i + 1 : Nat) : Int) := by rw [wrap64] <;> omega
      refine hN (i + 1) _ (by omega) (by omega) ?_
      rw [← e, varsT_take ht, List.take_length]; rfl
  · conv => whnf
    have h := of_decide_eq_false h
    rw [hlen] at h
    have : i = ts.length := by omega
    subst this
    refine hE _ _ ?_
    conv => whnf
    refine ⟨rfl, ?_, rfl⟩
    rw [List.take_length]; rfl
end Tree

set_option autoImplicit false
set_option linter.unusedVariables false
set_option linter.unusedSimpArgs false
namespace Tree
open Go
set_option maxHeartbeats 4000000
set_option maxRecDepth 100000
def locC (c : C) : Prop := c.k = 4 ∧ c.node = -1
def wrongT (t : T1) : Prop := t.cs ≠ [] ∧ ¬ RightP t.cs
theorem wrong_ok (t : T1) (hf : t.fine) (ob : Obs) (pb : Nat) (r : Bool) (hr : r = true ↔ wrongT t) : Gives env1 41 t.row ob pb (.bool r, ob) := by
  have hlen : (t.cs.map C.row).length = t.cs.length := by simp
  obtain ⟨q, hq⟩ := boolOf (RightP t.cs)
  refine gives_code (f := tf41) rfl ?_
  conv => whnf
  refine sel_split (fun h => ?_) (fun h => ?_)
  · conv => whnf
    have h := of_decide_eq_true h
    rw [hlen] at h
    refine ⟨_, _, right_ok t.lab t.cs t.sp hf.1 hf.2 ob _ q hq, fun _ => rfl, ?_⟩
    conv => whnf
    refine ⟨rfl, bool_of hr ?_, rfl⟩
    unfold wrongT
    rw [← hq]
    have hne : t.cs ≠ [] := fun e => by rw [e] at h; simp at h
    simp [hne]
  · conv => whnf
    have h := of_decide_eq_false h
    rw [hlen] at h
    refine ⟨rfl, bool_of hr ⟨fun e => (nomatch e), fun hw => absurd (List.length_eq_zero_iff.1 (by omega)) hw.1⟩, rfl⟩
theorem loc_ok (c : C) (ob : Obs) (pb : Nat) (r : Bool) (hr : r = true ↔ locC c) : Gives env1 44 [c.lv] ob pb (.bool r, ob) := by
  refine gives_code (f := tf44) rfl ?_
  conv => whnf
  refine sel_split (fun h => ?_) (fun h => ?_)
  · conv => whnf
    refine ⟨rfl, bool_of hr ?_, rfl⟩
    unfold locC; simp at h; simp [h]
  · conv => whnf
    refine ⟨rfl, bool_of hr ?_, rfl⟩
    unfold locC; simp at h; simp [h]
def GlobalP (cs : List C) : Prop := RightP cs ∧ ∀ c ∈ cs, ¬ locC c
theorem global_ok (lab : Nat) (cs : List C) (sp : List (List LV)) (hl : cs.length ≤ 4611686018427387904) (hf : ∀ c ∈ cs, c.fine) (ob : Obs) (pb : Nat) (r : Bool) (hr : r = true ↔ GlobalP cs) : Gives env1 25 [sl5 false lab cs sp] ob pb (.bool r, ob) := by
  obtain ⟨q, hq⟩ := boolOf (RightP cs)
  obtain ⟨g, hg⟩ := boolOf (∃ c ∈ cs, locC c)
  refine gives_code (f := tf25) rfl ?_
  conv => whnf
  refine ⟨_, _, right_ok lab cs sp hl hf ob _ q hq, fun _ => rfl, ?_⟩
  conv => whnf
  refine sel_split (fun h => ?_) (fun h => ?_)
  · conv => whnf
    refine ⟨_, _, anyFn_ok 44 lab cs sp locC hl (fun c hc ob pb r hr => loc_ok c ob pb r hr) ob _ g hg, fun _ => rfl, ?_⟩
    conv => whnf
    refine ⟨rfl, bool_of hr ?_, rfl⟩
    have : (!g) = true ↔ ∀ c ∈ cs, ¬ locC c := by
      rw [Bool.not_eq_true', ← Bool.not_eq_true, hg]
      constructor
      · intro h c hc hn; exact h ⟨c, hc, hn⟩
      · rintro h ⟨c, hc, hn⟩; exact h c hc hn
    rw [this]
    exact ⟨fun h2 => ⟨hq.1 h, h2⟩, fun h2 => h2.2⟩
  · conv => whnf
    refine ⟨rfl, bool_of hr ⟨fun e => (nomatch e), fun hw => by rw [hq.2 hw.1] at h; cases h⟩, rfl⟩
def missN (ts : List T1) (n : Int) : Prop := n ≥ ts.length ∨ ∃ t, ts[n.toNat]? = some t ∧ t.cs = []
def missC (ts : List T1) (c : C) : Prop := locC c ∧ missN ts c.num
open Classical in
noncomputable def subC (ts : List T1) (c : C) : List C := if locC c then (match ts[c.num.toNat]? with | some t => t.cs | none => []) else [c]
open Classical in
noncomputable def putR (cs : List C) (ts : List T1) : List C × Int :=
  if ¬ RightP cs ∨ ∃ t ∈ ts, wrongT t then ([], 6)
  else if ∃ c ∈ cs, missC ts c then ([], 4)
  else if (cs.flatMap (subC ts)).length > 256 then ([], 5) else (cs.flatMap (subC ts), 0)
theorem subC_len (ts : List T1) (hw : ∀ t ∈ ts, ¬ wrongT t) (c : C) : (subC ts c).length ≤ 256 := by
  unfold subC
  split
  · split
    · rename_i t ht
      by_cases h0 : t.cs = []
      · simp [h0]
      · exact (Classical.byContradiction fun hn => hw t (List.mem_of_getElem? ht) ⟨h0, hn⟩ : RightP t.cs).2.1
    · simp
  · simp
noncomputable def subN (ts : List T1) (cs : List C) (i : Nat) : List C := (cs.take i).flatMap (subC ts)
theorem subN_succ {ts : List T1} {cs : List C} {i : Nat} {c : C} (h : cs[i]? = some c) : subN ts cs (i + 1) = subN ts cs i ++ subC ts c := by
  unfold subN; rw [List.take_add_one, h]; simp
theorem subN_len (ts : List T1) (hw : ∀ t ∈ ts, ¬ wrongT t) : ∀ (l : List C), (l.flatMap (subC ts)).length ≤ 256 * l.length
  | [] => by simp
  | c :: l => by
    have h1 := subC_len ts hw c
    have h2 := subN_len ts hw l
    rw [List.flatMap_cons, List.length_append, List.length_cons]; omega
theorem mem_varsC : ∀ (cs : List C) (acc : List NV) (v : NV), v ∈ varsC acc cs ↔ v ∈ acc ∨ ∃ c ∈ cs, c.k = 4 ∧ (c.node, c.num) = v
  | [], acc, v => by simp [varsC]
  | c :: cs, acc, v => by
    have ih := mem_varsC cs (varC acc c) v
    have e : varsC acc (c :: cs) = varsC (varC acc c) cs := rfl
    rw [e, ih]
    have h1 : v ∈ varC acc c ↔ v ∈ acc ∨ (c.k = 4 ∧ (c.node, c.num) = v) := by
      unfold varC addN
      by_cases hk : c.k = 4
      · rw [if_pos hk]
        split
        · rename_i hm
          constructor
          · exact .inl
          · rintro (h | ⟨_, rfl⟩)
            · exact h
            · exact hm
        · rw [List.mem_append, List.mem_singleton]
          constructor
          · rintro (h | rfl)
            · exact .inl h
            · exact .inr ⟨hk, rfl⟩
          · rintro (h | ⟨_, rfl⟩)
            · exact .inl h
            · exact .inr rfl
      · rw [if_neg hk]
        constructor
        · exact .inl
        · rintro (h | ⟨h, _⟩)
          · exact h
          · exact absurd h hk
    rw [h1]
    constructor
    · rintro ((h | h) | ⟨d, hd, h⟩)
      · exact .inl h
      · exact .inr ⟨c, List.mem_cons_self .., h⟩
      · exact .inr ⟨d, List.mem_cons_of_mem _ hd, h⟩
    · rintro (h | ⟨d, hd, h⟩)
      · exact .inl (.inl h)
      · rcases List.mem_cons.1 hd with rfl | hd
        · exact .inl (.inr h)
        · exact .inr ⟨d, hd, h⟩
def S20 (v l ns : LV) (n : Nat) (i : Int) (ob : Obs) : WSt := ⟨.val v :: .val l :: List.replicate 20 (.val .undef) ++ .val ns :: .val (.int .i64 n) :: .val (.int .i64 i) :: List.replicate 55 (.val .undef), ob, []⟩
def S20b (l o v : LV) (n : Nat) (i : Int) (ob : Obs) : WSt := ⟨.val .undef :: .val l :: List.replicate 7 (.val .undef) ++ .val o :: List.replicate 38 (.val .undef) ++ .val v :: .val (.int .i64 n) :: .val (.int .i64 i) :: List.replicate 29 (.val .undef), ob, []⟩
theorem put_ok (l1 l2 : Nat) (cs : List C) (s1 : List (List LV)) (ts : List T1) (s2 : List (List LV)) (hl : cs.length ≤ 4611686018427387904) (hf : ∀ c ∈ cs, c.fine) (htl : ts.length ≤ 4611686018427387904) (htf : ∀ t ∈ ts, t.fine) (ob : Obs) (pb : Nat) :
    Gives env1 20 [sl5 false l1 cs s1, sl1 false l2 ts s2] ob pb (makeV (putR cs ts), ob) := by
  have hlen : (cs.map C.row).length = cs.length := by simp
  have htlen : (ts.map T1.row).length = ts.length := by simp
  obtain ⟨q, hq⟩ := boolOf (RightP cs)
  obtain ⟨g, hg⟩ := boolOf (∃ t ∈ ts, wrongT t)
  refine gives_code (f := tf20) rfl ?_
  conv => whnf
  refine ⟨_, _, right_ok l1 cs s1 hl hf ob _ q hq, fun _ => rfl, ?_⟩
  conv => whnf
  refine sel_split (fun h1 => ?_) (fun h1 => ?_)
  · conv => whnf
    refine ⟨rfl, ?_, rfl⟩
    have : putR cs ts = ([], 6) := by unfold putR; rw [if_pos (.inl (fun hR => by rw [hq.2 hR] at h1; cases h1))]
    rw [this]; rfl
  · conv => whnf
    have hR := hq.1 (by simpa using h1)
    refine ⟨_, _, hasT_ok 41 l2 ts s2 wrongT htl (fun t ht ob pb r hr => wrong_ok t (htf t ht) ob pb r hr) ob _ g hg, fun _ => rfl, ?_⟩
    conv => whnf
    refine sel_split (fun h2 => ?_) (fun h2 => ?_)
    · conv => whnf
      refine ⟨rfl, ?_, rfl⟩
      have : putR cs ts = ([], 6) := by unfold putR; rw [if_pos (.inr (hg.1 h2))]
      rw [this]; rfl
    · conv => whnf
      have hw : ∀ t ∈ ts, ¬ wrongT t := fun t ht hn => by rw [hg.2 ⟨t, ht, hn⟩] at h2; cases h2
      have hno : ¬ (¬ RightP cs ∨ ∃ t ∈ ts, wrongT t) := by
        rintro (h | ⟨t, ht, h⟩)
        · exact h hR
        · exact hw t ht h
      have hfl : ([⟨l1, cs, s1⟩] : List T1).flatMap T1.cs = cs := by simp
      have hv0 : varsT [] [⟨l1, cs, s1⟩] = varsC [] cs := rfl
      have hvl : (varsC [] cs).length ≤ 256 := by have := varsC_len cs []; have := hR.2.1; simp at *; omega
      refine ⟨_, _, vars_ok 0 [⟨l1, cs, s1⟩] [] (by simp) (by rw [hfl]; have := hR.2.1; omega) ob _, fun _ => noRef2 _ _ _ _, ?_⟩
      rw [hv0]
      have hnlen : ((varsC [] cs).map nrow).length = (varsC [] cs).length := by simp
      conv => whnf
      refine loop_abs (S := fun i : Nat => S20 (sl5 false l1 cs s1) (sl1 false l2 ts s2) (sl2 true 0 (varsC [] cs) []) ((varsC [] cs).map nrow).length i ob) (m := fun i => (varsC [] cs).length - i) (P := fun i => i ≤ (varsC [] cs).length ∧ ∀ k v, k < i → (varsC [] cs)[k]? = some v → ¬ (v.1 = -1 ∧ missN ts v.2)) ?_ 0 ⟨Nat.zero_le _, fun k s h => by omega⟩ rfl
      rintro R i ⟨hi, hP⟩ hN hE hRt
      conv => whnf
      refine sel_split (fun h => ?_) (fun h => ?_)
      · conv => whnf
        have h := of_decide_eq_true h
        rw [hnlen] at h
        obtain ⟨v, hv⟩ : ∃ c, (varsC [] cs)[i]? = some c := ⟨_, List.getElem?_eq_getElem (show i < (varsC [] cs).length by omega)⟩
        have e : IntKind.i64.wrap ((i : Int) + 1) = ((i + 1 : Nat) : Int) := by rw [wrap64] <;> omega
        obtain ⟨c, hcm, hck, hcv⟩ : ∃ c ∈ cs, c.k = 4 ∧ (c.node, c.num) = v := by
          have := (mem_varsC cs [] v).1 (List.mem_of_getElem? hv)
          simpa using this
        have hnum : 0 ≤ v.2 := by
          rw [← hcv]
          rcases hR.2.2.2 c hcm with g | g | g | g
          · omega
          · omega
          · omega
          · exact g.2.2.2.2.2
        have next : ¬ (v.1 = -1 ∧ missN ts v.2) → ∀ k u, k < i + 1 → (varsC [] cs)[k]? = some u → ¬ (u.1 = -1 ∧ missN ts u.2) := by
          intro hn k d hk hd
          by_cases hki : k = i
          · subst hki; rw [hv] at hd; cases hd; exact hn
          · exact hP k d (by omega) hd
        have bad : v.1 = -1 → missN ts v.2 → putR cs ts = ([], 4) := by
          intro e1 e2
          unfold putR
          rw [if_neg hno, if_pos ⟨c, hcm, ⟨hck, by rw [← e1, ← hcv]⟩, by rw [← hcv] at e2; exact e2⟩]
        refine ⟨_, ⟨by omega, idx_n hv⟩, ?_⟩
        conv => whnf
        refine sel_split (fun h3 => ?_) (fun h3 => ?_)
        · conv => whnf
          have h3 : v.1 = -1 := by simpa using h3
          refine sel_split (fun h4 => ?_) (fun h4 => ?_)
          · conv => whnf
            have h4 := of_decide_eq_true h4
            rw [htlen] at h4
            refine hRt _ ?_
            conv => whnf
            refine ⟨rfl, ?_, rfl⟩
            rw [bad h3 (.inl h4)]; rfl
          · conv => whnf
            have h4 := of_decide_eq_false h4
            rw [htlen] at h4
            obtain ⟨t, ht⟩ : ∃ t, ts[v.2.toNat]? = some t := ⟨_, List.getElem?_eq_getElem (show v.2.toNat < ts.length by omega)⟩
            have hclen : (t.cs.map C.row).length = t.cs.length := by simp
            refine ⟨_, ⟨hnum, idx_t ht⟩, ?_⟩
            conv => whnf
            refine sel_split (fun h5 => ?_) (fun h5 => ?_)
            · conv => whnf
              rw [hclen] at h5
              refine hRt _ ?_
              conv => whnf
              refine ⟨rfl, ?_, rfl⟩
              rw [bad h3 (.inr ⟨t, ht, List.length_eq_zero_iff.1 (by simp at h5; simp [h5])⟩)]; rfl
            · conv => whnf
              rw [hclen] at h5
              refine hN (i + 1) _ ⟨by omega, next (fun hn => ?_)⟩ (by omega) ?_
              · rcases hn.2 with g | ⟨u, hu, hu2⟩
                · omega
                · rw [ht] at hu; cases hu; rw [hu2] at h5; simp at h5
              · rw [← e]; rfl
        · conv => whnf
          have h3 : v.1 ≠ -1 := by simpa using h3
          refine hN (i + 1) _ ⟨by omega, next (fun hn => h3 hn.1)⟩ (by omega) ?_
          rw [← e]; rfl
      · conv => whnf
        have h := of_decide_eq_false h
        rw [hnlen] at h
        have hnm : ¬ ∃ c ∈ cs, missC ts c := by
          rintro ⟨c, hc, ⟨hk, hn⟩, hm⟩
          have : (c.node, c.num) ∈ varsC [] cs := (mem_varsC cs [] _).2 (.inr ⟨c, hc, hk, rfl⟩)
          obtain ⟨k, hk', e⟩ := List.getElem_of_mem this
          exact hP k (c.node, c.num) (by omega) (by rw [List.getElem?_eq_getElem hk', e]) ⟨hn, hm⟩
        refine hE _ _ ?_
        conv => whnf
        refine loop_abs (S := fun i : Nat => S20b (sl1 false l2 ts s2) (sl5 true 0 (subN ts cs i) []) (sl5 false l1 cs s1) (cs.map C.row).length i ob) (m := fun i => cs.length - i) (P := fun i => i ≤ cs.length) ?_ 0 (Nat.zero_le _) rfl
        intro R' i hi hN' hE' hR'
        conv => whnf
        refine sel_split (fun h => ?_) (fun h => ?_)
        · conv => whnf
          have h := of_decide_eq_true h
          rw [hlen] at h
          obtain ⟨c, hc⟩ : ∃ c, cs[i]? = some c := ⟨_, List.getElem?_eq_getElem (show i < cs.length by omega)⟩
          have hcm := List.mem_of_getElem? hc
          have e : IntKind.i64.wrap ((i : Int) + 1) = ((i + 1 : Nat) : Int) := by rw [wrap64] <;> omega
          have hsl : (subN ts cs (i + 1)).length ≤ 256 * 256 := by
            have := subN_len ts hw (cs.take (i + 1))
            have h2 : (cs.take (i + 1)).length ≤ cs.length := by rw [List.length_take]; exact Nat.min_le_right _ _
            have := hR.2.1
            unfold subN; omega
          have hss := subN_succ (ts := ts) hc
          refine ⟨_, ⟨by omega, idx_row hc⟩, ?_⟩
          conv => whnf
          refine sel_split (fun h3 => ?_) (fun h3 => ?_)
          · conv => whnf
            have h3 : c.k = 4 := by simpa using h3
            refine sel_split (fun h4 => ?_) (fun h4 => ?_)
            · conv => whnf
              have h4 : c.node = -1 := by simpa using h4
              have hloc : locC c := ⟨h3, h4⟩
              have hlt : ¬ c.num ≥ ts.length := fun hge => hnm ⟨c, hcm, hloc, .inl hge⟩
              have hnum : 0 ≤ c.num := by
                rcases hR.2.2.2 c hcm with g | g | g | g
                · omega
                · omega
                · omega
                · exact g.2.2.2.2.2
              obtain ⟨t, ht⟩ : ∃ t, ts[c.num.toNat]? = some t := ⟨_, List.getElem?_eq_getElem (show c.num.toNat < ts.length by omega)⟩
              have hsub : subC ts c = t.cs := by unfold subC; rw [if_pos hloc, ht]
              rw [hsub] at hss
              refine ⟨_, ⟨hnum, idx_t ht⟩, ?_⟩
              conv => whnf
              refine ⟨(subN ts cs (i + 1)).map C.row, ⟨.inl rfl, ?_, ?_⟩, ?_⟩
              · rw [hss, List.length_append] at hsl
                simp only [List.length_map]; omega
              · rw [hss, List.map_append]
              conv => whnf
              refine hN' (i + 1) _ (by omega) (by omega) ?_
              rw [← e]; rfl
            · conv => whnf
              have h4 : c.node ≠ -1 := by simpa using h4
              have hsub : subC ts c = [c] := by unfold subC; rw [if_neg (fun hn => h4 hn.2)]
              rw [hsub] at hss
              refine ⟨(subN ts cs (i + 1)).map C.row, ⟨.inl rfl, ?_, ?_⟩, ?_⟩
              · rw [hss, List.length_append] at hsl
                show (((subN ts cs i).map C.row).length + 1) * 48 ≤ _
                simp only [List.length_map, List.length_cons, List.length_nil] at hsl ⊢; omega
              · rw [hss, List.map_append]; rfl
              conv => whnf
              refine hN' (i + 1) _ (by omega) (by omega) ?_
              rw [← e]; rfl
          · conv => whnf
            have h3 : c.k ≠ 4 := by simpa using h3
            have hsub : subC ts c = [c] := by unfold subC; rw [if_neg (fun hn => h3 hn.1)]
            rw [hsub] at hss
            refine ⟨(subN ts cs (i + 1)).map C.row, ⟨.inl rfl, ?_, ?_⟩, ?_⟩
            · rw [hss, List.length_append] at hsl
              show (((subN ts cs i).map C.row).length + 1) * 48 ≤ _
              simp only [List.length_map, List.length_cons, List.length_nil] at hsl ⊢; omega
            · rw [hss, List.map_append]; rfl
            conv => whnf
            refine hN' (i + 1) _ (by omega) (by omega) ?_
            rw [← e]; rfl
        · conv => whnf
          have h := of_decide_eq_false h
          rw [hlen] at h
          have : i = cs.length := by omega
          subst this
          have hall : subN ts cs cs.length = cs.flatMap (subC ts) := by unfold subN; rw [List.take_length]
          have holen : ((subN ts cs cs.length).map C.row).length = (cs.flatMap (subC ts)).length := by rw [hall, List.length_map]
          refine hE' _ _ ?_
          conv => whnf
          refine sel_split (fun h3 => ?_) (fun h3 => ?_)
          · conv => whnf
            rw [holen] at h3
            have h3 := of_decide_eq_true h3
            refine ⟨rfl, ?_, rfl⟩
            have : putR cs ts = ([], 5) := by unfold putR; rw [if_neg hno, if_neg hnm, if_pos (by omega)]
            rw [this]; rfl
          · conv => whnf
            rw [holen] at h3
            have h3 := of_decide_eq_false h3
            refine ⟨rfl, ?_, rfl⟩
            have : putR cs ts = (cs.flatMap (subC ts), 0) := by unfold putR; rw [if_neg hno, if_neg hnm, if_neg (by omega)]
            rw [this, hall]; rfl
end Tree
