/- Maps whose keys are names, as lists of entries. -/
import Derived.Test.YtfdamolkgfcoiaaTLb
set_option autoImplicit false
set_option linter.unusedVariables false
set_option linter.unusedSimpArgs false
namespace Tree
open Go
/-- An entry: its key, its value, since when. -/
abbrev En := NV × LV × Int
def entL (e : En) : LV := .tup [.agg (nrow e.1), e.2.1, .int .i64 e.2.2]
def mE (c : Int) (es : List En) : List LV := .tup [.int .i64 c] :: es.map entL
def lk : List En → NV → Option LV
  | [], _ => none
  | e :: r, k => if e.1 = k then some e.2.1 else lk r k
def pt : List En → NV → LV → Int → List En
  | [], k, v, c => [(k, v, c)]
  | e :: r, k, v, c => if e.1 = k then (e.1, v, e.2.2) :: r else e :: pt r k v c
def dl : List En → NV → List En
  | [], _ => []
  | e :: r, k => if e.1 = k then r else e :: dl r k
def ck (es : List En) (k : NV) (c : Int) : Int := if (lk es k).isSome then c else c + 1
theorem keyEq_n (k k' : NV) : keyEq 5023 (.agg (nrow k)) (.agg (nrow k')) = some (decide (k' = k)) := by
  obtain ⟨a, b⟩ := k; obtain ⟨a', b'⟩ := k'
  have : keyEq 5023 (.agg (nrow (a, b))) (.agg (nrow (a', b'))) = some ((a == a') && ((b == b') && true)) := rfl
  rw [this]
  congr 1
  rw [Bool.eq_iff_iff]
  simp only [Bool.and_true, Bool.and_eq_true, beq_iff_eq, decide_eq_true_eq, Prod.mk.injEq]
  exact ⟨fun h => ⟨h.1.symm, h.2.symm⟩, fun h => ⟨h.1.symm, h.2.symm⟩⟩
def fi : List En → NV → Nat → Option (Nat × En)
  | [], _, _ => none
  | e :: r, k, i => if e.1 = k then some (i, e) else fi r k (i + 1)
theorem findE_n (k : NV) : ∀ (es : List En) (i : Nat), findE 5023 (.agg (nrow k)) (es.map entL) i = some ((fi es k i).map fun q => (q.1, .agg (nrow q.2.1), q.2.2.1, q.2.2.2))
  | [], i => rfl
  | e :: r, i => by
    have ih := findE_n k r (i + 1)
    simp only [List.map_cons, entL, findE, keyEq_n, Option.bind_some, fi]
    by_cases h : e.1 = k
    · simp [h]
    · simp only [h, decide_false, Bool.false_eq_true, if_false]; exact ih
theorem fi_lk (k : NV) : ∀ (es : List En) (i : Nat), (fi es k i).map (fun q => q.2.2.1) = lk es k
  | [], i => rfl
  | e :: r, i => by
    simp only [fi, lk]
    split
    · rfl
    · exact fi_lk k r (i + 1)
theorem fi_some (k : NV) (v : LV) (c : Int) : ∀ (es : List En) (i j : Nat) (e : En), fi es k i = some (j, e) → ∃ n, j = i + n ∧ e.1 = k ∧ (es.map entL).set n (entL (k, v, e.2.2)) = (pt es k v c).map entL ∧ (es.map entL).eraseIdx n = (dl es k).map entL
  | [], i, j, e, h => by simp [fi] at h
  | x :: r, i, j, e, h => by
    simp only [fi] at h
    by_cases hx : x.1 = k
    · rw [if_pos hx] at h
      simp only [Option.some.injEq, Prod.mk.injEq] at h
      obtain ⟨rfl, rfl⟩ := h
      exact ⟨0, rfl, hx, by simp [pt, hx], by simp [dl, hx]⟩
    · rw [if_neg hx] at h
      obtain ⟨n, rfl, h1, h2, h3⟩ := fi_some k v c r (i + 1) j e h
      exact ⟨n + 1, by omega, h1, by simp [pt, hx, h2], by simp [dl, hx, h3]⟩
theorem fi_none (k : NV) (v : LV) (c : Int) : ∀ (es : List En) (i : Nat), fi es k i = none → pt es k v c = es ++ [(k, v, c)] ∧ dl es k = es
  | [], i, h => ⟨rfl, rfl⟩
  | x :: r, i, h => by
    simp only [fi] at h
    by_cases hx : x.1 = k
    · rw [if_pos hx] at h; cases h
    · rw [if_neg hx] at h
      obtain ⟨h1, h2⟩ := fi_none k v c r (i + 1) h
      exact ⟨by simp [pt, hx, h1], by simp [dl, hx, h2]⟩
theorem mapLook_n (zero : LV) (k : NV) (c : Int) (es : List En) : mapLook 5023 zero (.agg (nrow k)) (mE c es) = some ((lk es k).getD zero, (lk es k).isSome) := by
  unfold mapLook mE
  simp only [findE_n, Option.map_some]
  rw [← fi_lk k es 0]
  cases fi es k 0 with
  | none => rfl
  | some q => rfl
theorem mapPut_n (k : NV) (v : LV) (c : Int) (es : List En) : mapPut 5023 (.agg (nrow k)) v (mE c es) = some (mE (ck es k c) (pt es k v c)) := by
  unfold mapPut mE ck
  simp only [findE_n, Option.map_some]
  rw [← fi_lk k es 0]
  cases h : fi es k 0 with
  | none =>
    obtain ⟨h1, _⟩ := fi_none k v c es 0 h
    rw [h1]; simp [entL]
  | some q =>
    obtain ⟨j, e⟩ := q
    obtain ⟨n, rfl, h1, h2, _⟩ := fi_some k v c es 0 j e h
    simp only [Option.map_some, Option.isSome_some, if_true, Nat.zero_add]
    rw [← h2]; rfl
theorem mapOff_n (k : NV) (c : Int) (es : List En) : mapOff 5023 (.agg (nrow k)) (mE c es) = some (mE c (dl es k)) := by
  unfold mapOff mE
  simp only [findE_n, Option.map_some]
  cases h : fi es k 0 with
  | none =>
    obtain ⟨_, h1⟩ := fi_none k .undef c es 0 h
    rw [h1]; rfl
  | some q =>
    obtain ⟨j, e⟩ := q
    obtain ⟨n, rfl, h1, _, h2⟩ := fi_some k .undef c es 0 j e h
    simp only [Option.map_some, Nat.zero_add]
    rw [h2]
theorem look_of {st : St} {w : Nat} {c : Int} {es : List En} (h : st.ob[w]? = some (mE c es)) (zero : LV) (k : NV) : lookE1 st 5023 zero (.agg (nrow k)) (.mref w) = some ((lk es k).getD zero, (lk es k).isSome) := by
  simp only [lookE1, h, Option.bind_some, mapLook_n]
/-- Each key stands once. -/
def once (es : List En) : Prop := (es.map (·.1)).Nodup
end Tree
