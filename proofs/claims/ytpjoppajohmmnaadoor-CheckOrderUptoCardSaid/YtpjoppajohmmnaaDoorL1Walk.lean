/- Layer 1: how a term falls into its arguments. -/
import Derived.Test.YtpjoppajohmmnaaDoorL1Make2
set_option autoImplicit false
set_option linter.unusedVariables false
set_option linter.unusedSimpArgs false
namespace Tree
open Go
def ar (c : C) : Nat := (partsC c).toNat
/-- What is left behind o whole terms. -/
def walk : List C → Nat → Option (List C)
  | l, 0 => some l
  | [], _ + 1 => none
  | c :: r, o + 1 => walk r (o + ar c)
theorem walk_zero (l : List C) : walk l 0 = some l := by cases l <;> rfl
theorem walk_le : ∀ (l : List C) (o : Nat) (r : List C), walk l o = some r → o ≤ l.length ∧ r.length ≤ l.length
  | l, 0, r, h => by rw [walk_zero] at h; cases h; exact ⟨Nat.zero_le _, Nat.le_refl _⟩
  | [], o + 1, r, h => by simp [walk] at h
  | c :: l, o + 1, r, h => by
    rw [walk] at h
    have := walk_le l _ r h
    simp only [List.length_cons]; omega
theorem ok_parts {c : C} (h : okC c) : partsC c = (ar c : Int) ∧ ar c ≤ 8 := by
  unfold ar partsC
  rcases h with h | h | h | h
  · rw [if_neg (by rw [h.1]; decide)]; exact ⟨rfl, by decide⟩
  · rw [if_neg (by rw [h.1]; decide)]; exact ⟨rfl, by decide⟩
  · rw [if_pos h.1]
    rcases h.2.2 with g | g
    · rw [if_neg (by omega)]; omega
    · rw [if_neg (by omega)]; omega
  · rw [if_neg (by rw [h.1]; decide)]; exact ⟨rfl, by decide⟩
theorem w64_id {x : Int} (h1 : -9223372036854775808 ≤ x) (h2 : x ≤ 9223372036854775807) : w64 x = x := wrap64 h1 h2
theorem scan_walk (L : Nat) : ∀ (l : List C) (o p : Nat), (∀ c ∈ l, okC c) → l.length ≤ L → o + 8 * l.length ≤ 4611686018427387904 →
    scanE L l (o : Int) p = match walk l o with | some r => ((p + (l.length - r.length) : Nat) : Int) | none => 0
  | l, 0, p, _, _, _ => by
    rw [walk_zero]
    cases l <;> simp [scanE]
  | [], o + 1, p, _, _, _ => by
    have : ¬ ((o + 1 : Nat) : Int) ≤ 0 := by omega
    simp only [scanE, walk, if_neg this]
  | c :: l, o + 1, p, h, hL, hb => by
    have h0 : ¬ ((o + 1 : Nat) : Int) ≤ 0 := by omega
    obtain ⟨hp, h8⟩ := ok_parts (h c (List.mem_cons_self ..))
    simp only [List.length_cons] at hL hb
    simp only [scanE, walk, if_neg h0, hp]
    by_cases hgt : ((ar c : Nat) : Int) > (L : Int)
    · rw [if_pos hgt]
      have : walk l (o + ar c) = none := by
        cases hw : walk l (o + ar c) with
        | none => rfl
        | some r => have := (walk_le l _ r hw).1; omega
      rw [this]
    · rw [if_neg hgt]
      have e : w64 (((o + 1 : Nat) : Int) + w64 ((ar c : Int) - 1)) = ((o + ar c : Nat) : Int) := by
        rw [w64_id (x := (ar c : Int) - 1) (by omega) (by omega), w64_id (by omega) (by omega)]; omega
      rw [e, scan_walk L l (o + ar c) (p + 1) (fun d hd => h d (List.mem_cons_of_mem _ hd)) (by omega) (by omega)]
      cases hw : walk l (o + ar c) with
      | none => rfl
      | some r =>
        have := (walk_le l _ r hw).2
        simp only [List.length_cons]
        congr 1; omega
theorem walk_add : ∀ (l : List C) (a b : Nat), walk l (a + b) = (walk l a).bind fun r => walk r b
  | l, 0, b => by rw [walk_zero, Nat.zero_add]; rfl
  | [], a + 1, b => by rw [show a + 1 + b = (a + b) + 1 by omega]; simp [walk]
  | c :: l, a + 1, b => by
    rw [show a + 1 + b = (a + b) + 1 by omega, walk, walk, show a + b + ar c = (a + ar c) + b by omega]
    exact walk_add l _ b
theorem walk_pre : ∀ (l : List C) (o : Nat) (r : List C), walk l o = some r → ∃ pre, l = pre ++ r ∧ walk pre o = some []
  | l, 0, r, h => by rw [walk_zero] at h; cases h; exact ⟨[], rfl, rfl⟩
  | [], o + 1, r, h => by simp [walk] at h
  | c :: l, o + 1, r, h => by
    rw [walk] at h
    obtain ⟨pre, rfl, h2⟩ := walk_pre l _ r h
    exact ⟨c :: pre, rfl, by rw [walk]; exact h2⟩
theorem walk_nil {o : Nat} {r : List C} (h : walk [] o = some r) : o = 0 := by
  cases o with
  | zero => rfl
  | succ o => simp [walk] at h
theorem right_walk (cs : List C) : RightP cs ↔ cs ≠ [] ∧ cs.length ≤ 256 ∧ walk cs 1 = some [] ∧ ∀ c ∈ cs, okC c := by
  unfold RightP
  constructor
  · rintro ⟨h1, h2, h3, h4⟩
    refine ⟨h1, h2, ?_, h4⟩
    have hlen : 0 < cs.length := List.length_pos_iff.2 h1
    have he : endE cs 0 = scanE cs.length cs ((1 : Nat) : Int) 0 := by
      unfold endE; rw [if_neg (by omega)]; rfl
    rw [he, scan_walk cs.length cs 1 0 h4 (Nat.le_refl _) (by omega)] at h3
    cases hw : walk cs 1 with
    | none => rw [hw] at h3; simp only at h3; omega
    | some r =>
      rw [hw] at h3; simp only at h3
      have := (walk_le cs 1 r hw).2
      have : r.length = 0 := by omega
      rw [List.length_eq_zero_iff.1 this]
  · rintro ⟨h1, h2, h3, h4⟩
    refine ⟨h1, h2, ?_, h4⟩
    have hlen : 0 < cs.length := List.length_pos_iff.2 h1
    have he : endE cs 0 = scanE cs.length cs ((1 : Nat) : Int) 0 := by
      unfold endE; rw [if_neg (by omega)]; rfl
    rw [he, scan_walk cs.length cs 1 0 h4 (Nat.le_refl _) (by omega), h3]
    simp
/-- The arguments, one behind the other. -/
def splitW : Nat → List C → List (List C)
  | 0, _ => []
  | n + 1, l => match walk l 1 with
    | some r => l.take (l.length - r.length) :: splitW n r
    | none => []
theorem splitW_ok : ∀ (n : Nat) (l : List C), walk l n = some [] → (splitW n l).length = n ∧ (splitW n l).flatten = l ∧ ∀ e ∈ splitW n l, e ≠ [] ∧ walk e 1 = some [] ∧ (∀ c ∈ e, c ∈ l) ∧ e.length ≤ l.length
  | 0, l, h => by rw [walk_zero] at h; cases h; simp [splitW]
  | n + 1, l, h => by
    rw [Nat.add_comm, walk_add] at h
    obtain ⟨r, h1, h2⟩ := Option.bind_eq_some_iff.1 h
    obtain ⟨pre, rfl, h3⟩ := walk_pre l 1 r h1
    obtain ⟨a1, a2, a3⟩ := splitW_ok n r h2
    have e : (pre ++ r).take ((pre ++ r).length - r.length) = pre := by simp
    simp only [splitW, h1, e]
    refine ⟨by simp [a1], by simp [a2], fun x hx => ?_⟩
    rcases List.mem_cons.1 hx with rfl | hx
    · refine ⟨fun e => ?_, h3, fun c hc => List.mem_append_left _ hc, by simp⟩
      rw [e] at h3; have := walk_nil h3; omega
    · obtain ⟨b1, b2, b3, b4⟩ := a3 x hx
      exact ⟨b1, b2, fun c hc => List.mem_append_right _ (b3 c hc), by simp; omega⟩
def StructP (cs : List C) : Prop := RightP cs ∧ ∃ c r, cs = c :: r ∧ c.k = 3
open Classical in
noncomputable def argsR (cs : List C) : List (List C) := if StructP cs then (match cs with | [] => [] | c :: r => splitW (ar c) r) else []
theorem struct_facts {c : C} {r : List C} (h : RightP (c :: r)) (hk : c.k = 3) : walk r (ar c) = some [] ∧ 1 ≤ ar c ∧ (ar c : Int) = c.n ∧ zeroVar c := by
  obtain ⟨_, _, h3, h4⟩ := (right_walk _).1 h
  rw [walk, Nat.zero_add] at h3
  have hc := h4 c (List.mem_cons_self ..)
  have hp := ok_parts hc
  rcases hc with g | g | g | g
  · omega
  · omega
  · unfold partsC at hp
    rw [if_pos hk] at hp
    rcases g.2.2 with q | q
    · rw [if_neg (by omega)] at hp
      exact ⟨h3, by omega, hp.1.symm, g.2.1⟩
    · rw [if_neg (by omega)] at hp
      exact ⟨h3, by omega, hp.1.symm, g.2.1⟩
  · omega
theorem args_facts {c : C} {r : List C} (h : RightP (c :: r)) (hk : c.k = 3) : argsR (c :: r) = splitW (ar c) r ∧ (argsR (c :: r)).length = ar c ∧ (argsR (c :: r)).flatten = r ∧ ∀ e ∈ argsR (c :: r), RightP e := by
  obtain ⟨h1, h2, h3, h4⟩ := struct_facts h hk
  have e : argsR (c :: r) = splitW (ar c) r := by unfold argsR; rw [if_pos ⟨h, c, r, rfl, hk⟩]
  obtain ⟨a1, a2, a3⟩ := splitW_ok _ _ h1
  refine ⟨e, by rw [e]; exact a1, by rw [e]; exact a2, fun x hx => ?_⟩
  rw [e] at hx
  obtain ⟨b1, b2, b3, b4⟩ := a3 x hx
  obtain ⟨_, q2, _, q4⟩ := (right_walk _).1 h
  simp only [List.length_cons] at q2
  exact (right_walk _).2 ⟨b1, by omega, b2, fun d hd => q4 d (List.mem_cons_of_mem _ (b3 d hd))⟩
end Tree
