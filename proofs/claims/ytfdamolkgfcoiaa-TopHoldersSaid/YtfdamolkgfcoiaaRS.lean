/- Counts: rows of keys (a name and a node) with a number, sorted by their keys. -/
import Derived.Test.YtfdamolkgfcoiaaTA
set_option autoImplicit false
set_option linter.unusedVariables false
set_option linter.unusedSimpArgs false
namespace Tree
open Go
/-- A key: a variable's node and number, and a holder. -/
abbrev K3 := Int × Int × Int
def ltK (x y : K3) : Bool := decide (x.1 < y.1) || (x.1 == y.1 && (decide (x.2.1 < y.2.1) || (x.2.1 == y.2.1 && decide (x.2.2 < y.2.2))))
def insK (x : K3 × Int) : List (K3 × Int) → List (K3 × Int)
  | [] => [x]
  | y :: r => if ltK y.1 x.1 then y :: insK x r else x :: y :: r
def isortK : List (K3 × Int) → List (K3 × Int)
  | [] => []
  | x :: r => insK x (isortK r)
theorem ltK_iff (x y : K3) : ltK x y = true ↔ x.1 < y.1 ∨ x.1 = y.1 ∧ (x.2.1 < y.2.1 ∨ x.2.1 = y.2.1 ∧ x.2.2 < y.2.2) := by
  simp only [ltK, Bool.or_eq_true, Bool.and_eq_true, decide_eq_true_eq, beq_iff_eq]
theorem ltK_false (x y : K3) : ltK x y = false ↔ ¬ (x.1 < y.1 ∨ x.1 = y.1 ∧ (x.2.1 < y.2.1 ∨ x.2.1 = y.2.1 ∧ x.2.2 < y.2.2)) := by
  rw [← ltK_iff]; simp
theorem ltK_irrefl (x : K3) : ltK x x = false := by rw [ltK_false]; omega
theorem ltK_trans {x y z : K3} (h : ltK x y = true) (h' : ltK y z = true) : ltK x z = true := by rw [ltK_iff] at *; omega
theorem ltK_total {x y : K3} (h : ltK x y = false) (h' : ltK y x = false) : x = y := by
  rw [ltK_false] at *
  obtain ⟨a, b, c⟩ := x; obtain ⟨a', b', c'⟩ := y
  simp only [Prod.mk.injEq] at *
  omega
theorem insK_perm (x : K3 × Int) : ∀ l, (insK x l).Perm (x :: l)
  | [] => .refl _
  | y :: r => by
    simp only [insK]
    split
    · exact ((insK_perm x r).cons y).trans (.swap x y r)
    · exact .refl _
theorem isortK_perm : ∀ l, (isortK l).Perm l
  | [] => .refl _
  | x :: r => (insK_perm x (isortK r)).trans ((isortK_perm r).cons x)
def leQ (x y : K3 × Int) : Prop := ltK y.1 x.1 = false
theorem insK_sorted (x : K3 × Int) : ∀ l : List (K3 × Int), l.Pairwise leQ → (insK x l).Pairwise leQ
  | [], _ => by simp [insK]
  | y :: r, h => by
    obtain ⟨h1, h2⟩ := List.pairwise_cons.1 h
    simp only [insK]
    split
    · rename_i hy
      refine List.pairwise_cons.2 ⟨fun z hz => ?_, insK_sorted x r h2⟩
      rcases List.mem_cons.1 ((insK_perm x r).mem_iff.1 hz) with rfl | hz
      · unfold leQ
        cases hq : ltK z.1 y.1
        · rfl
        · have := ltK_trans hy hq; rw [ltK_irrefl] at this; cases this
      · exact h1 z hz
    · rename_i hy
      have hyx : ltK y.1 x.1 = false := by simpa using hy
      refine List.pairwise_cons.2 ⟨fun z hz => ?_, h⟩
      rcases List.mem_cons.1 hz with rfl | hz
      · exact hyx
      · have h3 : ltK z.1 y.1 = false := h1 z hz
        unfold leQ
        rw [ltK_false] at *; omega
theorem isortK_sorted : ∀ l, (isortK l).Pairwise leQ
  | [] => .nil
  | x :: r => insK_sorted x _ (isortK_sorted r)
/-- Rows without a double key, sorted, are told by what is in them. -/
theorem sortK_unique {l l' : List (K3 × Int)} (h : l.Perm l') (hn : (l.map (·.1)).Nodup) (hs : l.Pairwise leQ) (hs' : l'.Pairwise leQ) : l = l' := by
  refine List.Perm.eq_of_pairwise (le := leQ) (fun a b ha hb h1 h2 => ?_) hs hs' h
  have e : a.1 = b.1 := ltK_total h2 h1
  have hb' : b ∈ l := h.mem_iff.2 hb
  have key : ∀ (m : List (K3 × Int)), (m.map (·.1)).Nodup → a ∈ m → b ∈ m → a = b := by
    intro m
    induction m with
    | nil => intro _ hm; cases hm
    | cons q r ih =>
      intro hq h3 h4
      simp only [List.map_cons, List.nodup_cons] at hq
      rcases List.mem_cons.1 h3 with h5 | h5 <;> rcases List.mem_cons.1 h4 with h6 | h6
      · rw [h5, h6]
      · exact absurd (List.mem_map.2 ⟨b, h6, by rw [← e, h5]⟩) hq.1
      · exact absurd (List.mem_map.2 ⟨a, h5, by rw [e, h6]⟩) hq.1
      · exact ih hq.2 h5 h6
  exact key l hn ha hb'
def row4 (q : K3 × Int) : List LV := [.int .i64 q.1.1, .int .i64 q.1.2.1, .int .i64 q.1.2.2, .int .i64 q.2]
/-- An entry of the map: key, count, since when. -/
abbrev En3 := K3 × Int × Int
def krow (k : K3) : List LV := [.int .i64 k.1, .int .i64 k.2.1, .int .i64 k.2.2]
def ent3 (e : En3) : LV := .tup [.agg (krow e.1), .int .i64 e.2.1, .int .i64 e.2.2]
def m3 (c : Int) (es : List En3) : List LV := .tup [.int .i64 c] :: es.map ent3
def parseE3 : LV → Option En3
  | .tup [.agg [.int .i64 a, .int .i64 b, .int .i64 d], .int .i64 n, .int .i64 t] => some ((a, b, d), n, t)
  | _ => none
def parseL3 : List LV → Option (List En3)
  | [] => some []
  | e :: r => match parseE3 e with
    | some q => match parseL3 r with
      | some l => some (q :: l)
      | none => none
    | none => none
def parseM3 : List LV → Option (Int × List En3)
  | .tup [.int .i64 c] :: es => match parseL3 es with
    | some l => some (c, l)
    | none => none
  | _ => none
theorem parseE3_ent (e : En3) : parseE3 (ent3 e) = some e := rfl
theorem parseL3_ent : ∀ es : List En3, parseL3 (es.map ent3) = some es
  | [] => rfl
  | e :: r => by simp only [List.map_cons, parseL3, parseE3_ent, parseL3_ent r]
theorem parseM3_m3 (c : Int) (es : List En3) : parseM3 (m3 c es) = some (c, es) := by simp only [m3, parseM3, parseL3_ent]
theorem parseE3_inv {x : LV} {e : En3} (h : parseE3 x = some e) : x = ent3 e := by
  unfold parseE3 at h
  split at h
  · injection h with h; subst h; rfl
  · cases h
theorem parseL3_inv : ∀ {es : List LV} {l : List En3}, parseL3 es = some l → es = l.map ent3
  | [], l, h => by simp only [parseL3, Option.some.injEq] at h; subst h; rfl
  | e :: r, l, h => by
    simp only [parseL3] at h
    split at h
    · rename_i q hq
      split at h
      · rename_i l' hl
        injection h with h; subst h
        rw [List.map_cons, ← parseE3_inv hq, ← parseL3_inv hl]
      · cases h
    · cases h
theorem parseM3_inv {cs : List LV} {c : Int} {l : List En3} (h : parseM3 cs = some (c, l)) : cs = m3 c l := by
  unfold parseM3 at h
  split at h
  · split at h
    · rename_i l' hl
      injection h with h; injection h with h1 h2; subst h1; subst h2
      rw [m3, ← parseL3_inv hl]
    · cases h
  · cases h
/-- Births rise, and are over. -/
def risesB (c : Int) : Int → List En3 → Bool
  | _, [] => true
  | t, e :: r => decide (t ≤ e.2.2) && decide (e.2.2 < c) && risesB c (e.2.2 + 1) r
def newKey (k : K3) : List En3 → Bool
  | [] => true
  | e :: r => !(e.1.1 == k.1 && e.1.2.1 == k.2.1 && e.1.2.2 == k.2.2) && newKey k r
def onceB : List En3 → Bool
  | [] => true
  | e :: r => newKey e.1 r && onceB r
def nodesB : List En3 → Bool
  | [] => true
  | e :: r => decide (0 ≤ e.1.2.2) && decide (e.1.2.2 < 4294967296) && nodesB r
def okM3 (c : Int) (es : List En3) : Bool := risesB c 0 es && onceB es && nodesB es && decide (es.length ≤ 1099511627776)
def kn (e : En3) : K3 × Int := (e.1, e.2.1)
/-- What counts.rows gives. -/
def rowsF (args : List LV) (ob : Obs) : Option LV := match args with
  | [.mref id] => match ob[id]? with
    | some cs => match parseM3 cs with
      | some (c, es) => if okM3 c es then some (.sl true 0 4 ((isortK (es.map kn)).map row4) []) else none
      | none => none
    | none => none
  | _ => none
/-- What Table.Exported gives. -/
def hasV (x y : Int) : List En3 → Bool
  | [] => false
  | e :: r => (e.1.1 == x && e.1.2.1 == y) || hasV x y r
def exportedF (args : List LV) (ob : Obs) : Option LV := match args with
  | [.nilptr, .agg [.int .i64 _, .int .i64 _]] => some (.bool false)
  | [.optr t 0, .agg [.int .i64 x, .int .i64 y]] => match ob[t]? with
    | some [_, _, .mref id, _] => match ob[id]? with
      | some cs => match parseM3 cs with
        | some (c, es) => if okM3 c es then some (.bool (hasV x y es)) else none
        | none => none
      | none => none
    | _ => none
  | _ => none
end Tree
