/- Package refs: a map of counts, and what a change makes of it. -/
import Derived.Test.YtfdamolkgfcoiaaR16Live
set_option autoImplicit false
set_option linter.unusedVariables false
set_option linter.unusedSimpArgs false
namespace Tree.R16
open Go Tree
/-- Counts as they should stand. -/
structure W3 (c : Int) (es : List En3) : Prop where
  born : ∀ e ∈ es, 0 ≤ e.2.2 ∧ e.2.2 < c
  rise : es.Pairwise fun a b => a.2.2 < b.2.2
  once : (es.map (·.1)).Nodup
  node : ∀ e ∈ es, 0 ≤ e.1.2.2 ∧ e.1.2.2 < 4294967296
  some : ∀ e ∈ es, e.2.1 ≠ 0
  clock : 0 ≤ c
theorem rises_of {c : Int} : ∀ (es : List En3) (t : Int), (∀ e ∈ es, t ≤ e.2.2 ∧ e.2.2 < c) → (es.Pairwise fun a b => a.2.2 < b.2.2) → risesB c t es = true
  | [], _, _, _ => rfl
  | x :: r, t, h, hp => by
    obtain ⟨h1, h2⟩ := List.pairwise_cons.1 hp
    have hx := h x (List.mem_cons_self ..)
    simp only [risesB, Bool.and_eq_true, decide_eq_true_eq]
    refine ⟨hx, rises_of r _ (fun e he => ?_) h2⟩
    have := h1 e he
    exact ⟨by omega, (h e (List.mem_cons_of_mem _ he)).2⟩
theorem newKey_of {k : K3} : ∀ (es : List En3), k ∉ es.map (·.1) → newKey k es = true
  | [], _ => rfl
  | e :: r, h => by
    obtain ⟨a, b, c⟩ := k
    obtain ⟨⟨a', b', c'⟩, q⟩ := e
    simp only [List.map_cons, List.mem_cons, not_or] at h
    simp only [newKey, Bool.and_eq_true, Bool.not_eq_true']
    refine ⟨?_, newKey_of r h.2⟩
    cases hq : (a' == a && b' == b && c' == c) with
    | false => rfl
    | true =>
      simp only [Bool.and_eq_true, beq_iff_eq] at hq
      exact absurd (by rw [hq.1.1, hq.1.2, hq.2]) h.1
theorem once_of : ∀ (es : List En3), (es.map (·.1)).Nodup → onceB es = true
  | [], _ => rfl
  | e :: r, h => by
    simp only [List.map_cons, List.nodup_cons] at h
    simp only [onceB, Bool.and_eq_true]
    exact ⟨newKey_of r h.1, once_of r h.2⟩
theorem nodes_of : ∀ (es : List En3), (∀ e ∈ es, 0 ≤ e.1.2.2 ∧ e.1.2.2 < 4294967296) → nodesB es = true
  | [], _ => rfl
  | e :: r, h => by
    simp only [nodesB, Bool.and_eq_true, decide_eq_true_eq]
    exact ⟨h e (List.mem_cons_self ..), nodes_of r fun x hx => h x (List.mem_cons_of_mem _ hx)⟩
theorem W3.ok {c : Int} {es : List En3} (h : W3 c es) (hl : es.length ≤ 1099511627776) : okM3 c es = true := by
  simp only [okM3, Bool.and_eq_true, decide_eq_true_eq]
  exact ⟨⟨⟨rises_of es 0 h.born h.rise, once_of es h.once⟩, nodes_of es h.node⟩, hl⟩
/-- A key's count; none is 0. -/
def lk3 : List En3 → K3 → Int
  | [], _ => 0
  | e :: r, k => if e.1 = k then e.2.1 else lk3 r k
theorem lk3_not {k : K3} : ∀ {es : List En3}, k ∉ es.map (·.1) → lk3 es k = 0
  | [], _ => rfl
  | e :: r, h => by
    simp only [List.map_cons, List.mem_cons, not_or] at h
    simp only [lk3, if_neg (show ¬ e.1 = k from fun q => h.1 q.symm)]; exact lk3_not h.2
theorem lk3_app {k : K3} : ∀ (a b : List En3), lk3 (a ++ b) k = if k ∈ a.map (·.1) then lk3 a k else lk3 b k
  | [], b => by simp
  | e :: r, b => by
    simp only [List.cons_append, lk3, lk3_app r b, List.map_cons, List.mem_cons]
    by_cases h : e.1 = k
    · simp [h]
    · rw [if_neg h, if_neg h]
      by_cases h2 : k ∈ r.map (·.1)
      · rw [if_pos h2, if_pos (.inr h2)]
      · rw [if_neg h2, if_neg (fun h3 => h3.elim (fun e => h e.symm) h2)]
theorem lk3_mem {es : List En3} (hn : (es.map (·.1)).Nodup) : ∀ e ∈ es, lk3 es e.1 = e.2.1 := by
  induction es with
  | nil => intro e h; cases h
  | cons x r ih =>
    simp only [List.map_cons, List.nodup_cons] at hn
    intro e he
    rcases List.mem_cons.1 he with rfl | he
    · simp [lk3]
    · have : x.1 ≠ e.1 := fun h => hn.1 (List.mem_map.2 ⟨e, he, h.symm⟩)
      simp only [lk3, if_neg this]; exact ih hn.2 e he
theorem W3.mem_iff {c : Int} {es : List En3} (h : W3 c es) (k : K3) : k ∈ es.map (·.1) ↔ lk3 es k ≠ 0 := by
  constructor
  · intro hk
    obtain ⟨e, he, rfl⟩ := List.mem_map.1 hk
    rw [lk3_mem h.once e he]; exact h.some e he
  · intro hk
    by_cases hm : k ∈ es.map (·.1)
    · exact hm
    · exact absurd (lk3_not hm) hk
theorem keyEq_3 (k k' : K3) : keyEq 21104 (.agg (krow k)) (.agg (krow k')) = some (decide (k' = k)) := by
  obtain ⟨a, b, c⟩ := k; obtain ⟨a', b', c'⟩ := k'
  have : keyEq 21104 (.agg (krow (a, b, c))) (.agg (krow (a', b', c'))) = some ((a == a') && ((b == b') && ((c == c') && true))) := rfl
  rw [this]
  congr 1
  rw [Bool.eq_iff_iff]
  simp only [Bool.and_true, Bool.and_eq_true, beq_iff_eq, decide_eq_true_eq, Prod.mk.injEq]
  exact ⟨fun h => ⟨h.1.symm, h.2.1.symm, h.2.2.symm⟩, fun h => ⟨h.1.symm, h.2.1.symm, h.2.2.symm⟩⟩
theorem findE_no {k : K3} : ∀ (es : List En3) (j : Nat), k ∉ es.map (·.1) → findE 21104 (.agg (krow k)) (es.map ent3) j = some none
  | [], j, _ => rfl
  | e :: r, j, h => by
    simp only [List.map_cons, List.mem_cons, not_or] at h
    simp only [List.map_cons, ent3, findE, keyEq_3, Option.bind_some]
    rw [decide_eq_false (fun e => h.1 e.symm)]
    exact findE_no r (j + 1) h.2
theorem findE_at {k : K3} {v b : Int} {post : List En3} : ∀ (pre : List En3) (j : Nat), k ∉ pre.map (·.1) → findE 21104 (.agg (krow k)) ((pre ++ (k, v, b) :: post).map ent3) j = some (some (j + pre.length, .agg (krow k), .int .i64 v, b))
  | [], j, _ => by
    show findE 21104 _ (ent3 (k, v, b) :: post.map ent3) j = _
    simp only [ent3, findE, keyEq_3, Option.bind_some, decide_true, if_true]; rfl
  | e :: r, j, h => by
    simp only [List.map_cons, List.mem_cons, not_or] at h
    have ih := findE_at (v := v) (b := b) (post := post) r (j + 1) h.2
    show findE 21104 _ (ent3 e :: (r ++ (k, v, b) :: post).map ent3) j = _
    simp only [ent3, findE, keyEq_3, Option.bind_some]
    rw [decide_eq_false (fun e => h.1 e.symm)]
    simp only [Bool.false_eq_true, if_false]
    rw [ih]
    simp only [List.length_cons]; congr 3; omega
theorem findB_at {k : K3} {v b : Int} {post : List En3} : ∀ (pre : List En3) (j : Nat), (∀ e ∈ pre, e.2.2 ≠ b) → findB b ((pre ++ (k, v, b) :: post).map ent3) j = some (j + pre.length, .agg (krow k))
  | [], j, _ => by
    show findB b (ent3 (k, v, b) :: post.map ent3) j = _
    simp only [ent3, findB, if_true]; rfl
  | e :: r, j, h => by
    have ih := findB_at (k := k) (v := v) (b := b) (post := post) r (j + 1) (fun x hx => h x (List.mem_cons_of_mem _ hx))
    show findB b (ent3 e :: (r ++ (k, v, b) :: post).map ent3) j = _
    simp only [ent3, findB, if_neg (h e (List.mem_cons_self ..))]
    rw [ih]
    simp only [List.length_cons]; congr 2; omega
theorem split3 {k : K3} : ∀ {es : List En3}, k ∈ es.map (·.1) → ∃ pre v b post, es = pre ++ (k, v, b) :: post ∧ k ∉ pre.map (·.1)
  | [], h => by simp at h
  | e :: r, h => by
    by_cases he : e.1 = k
    · exact ⟨[], e.2.1, e.2.2, r, by rw [← he]; rfl, by simp⟩
    · have h2 : k ∈ r.map (·.1) := by
        simp only [List.map_cons, List.mem_cons] at h
        exact h.resolve_left fun e' => he e'.symm
      obtain ⟨pre, v, b, post, rfl, h3⟩ := split3 h2
      refine ⟨e :: pre, v, b, post, rfl, ?_⟩
      simp only [List.map_cons, List.mem_cons, not_or]
      exact ⟨fun e' => he e'.symm, h3⟩
theorem lk3_at {k : K3} {v b : Int} {pre post : List En3} (h : k ∉ pre.map (·.1)) : lk3 (pre ++ (k, v, b) :: post) k = v := by
  rw [lk3_app, if_neg h]; simp [lk3]
theorem look3_at {c : Int} {k : K3} {v b : Int} {pre post : List En3} (h : k ∉ pre.map (·.1)) : mapLook 21104 (.int .i64 0) (.agg (krow k)) (m3 c (pre ++ (k, v, b) :: post)) = some (.int .i64 v, true) := by
  simp only [mapLook, m3, findE_at pre 0 h, Option.map_some]
theorem look3_no {c : Int} {k : K3} {es : List En3} (h : k ∉ es.map (·.1)) : mapLook 21104 (.int .i64 0) (.agg (krow k)) (m3 c es) = some (.int .i64 0, false) := by
  simp only [mapLook, m3, findE_no es 0 h, Option.map_some]
theorem set_mid (pre : List LV) (x y : LV) (post : List LV) : (pre ++ x :: post).set pre.length y = pre ++ y :: post := by
  rw [List.set_append_right _ _ (Nat.le_refl _), Nat.sub_self]; rfl
theorem erase_mid (pre : List LV) (x : LV) (post : List LV) : (pre ++ x :: post).eraseIdx pre.length = pre ++ post := by
  rw [List.eraseIdx_append_of_length_le (Nat.le_refl _), Nat.sub_self]; rfl
theorem ent_at {c : Int} {k : K3} {v b : Int} {pre post : List En3} (h : k ∉ pre.map (·.1)) : mapEntV 21104 (.int .i64 0) (.agg (krow k)) (m3 c (pre ++ (k, v, b) :: post)) = some (.tup [.int .i64 v, .int .i64 b]) ∧ mapEntC 21104 (.int .i64 0) (.agg (krow k)) (m3 c (pre ++ (k, v, b) :: post)) = some (m3 c (pre ++ (k, v, b) :: post)) := by
  constructor
  · simp only [mapEntV, m3, findE_at pre 0 h, Option.map_some]; rfl
  · simp only [mapEntC, m3, findE_at pre 0 h, Option.map_some, Nat.zero_add]
    have := set_mid (pre.map ent3) (ent3 (k, v, b)) (ent3 (k, v, b)) (post.map ent3)
    rw [List.length_map] at this
    rw [List.map_append, List.map_cons]
    exact congrArg (fun l => some (LV.tup [LV.int .i64 c] :: l)) this
theorem ent_no {c : Int} {k : K3} {es : List En3} (h : k ∉ es.map (·.1)) : mapEntV 21104 (.int .i64 0) (.agg (krow k)) (m3 c es) = some (.tup [.int .i64 0, .int .i64 c]) ∧ mapEntC 21104 (.int .i64 0) (.agg (krow k)) (m3 c es) = some (m3 (c + 1) (es ++ [(k, 0, c)])) := by
  constructor
  · simp only [mapEntV, m3, findE_no es 0 h, Option.map_some]; rfl
  · simp only [mapEntC, m3, findE_no es 0 h, Option.map_some]
    rw [List.map_append]; rfl
theorem put_at {c : Int} {k : K3} {v b u : Int} {pre post : List En3} (h : ∀ e ∈ pre, e.2.2 ≠ b) : entPutC b (.int .i64 u) (m3 c (pre ++ (k, v, b) :: post)) = some (m3 c (pre ++ (k, u, b) :: post)) := by
  simp only [entPutC, m3, findB_at pre 0 h, Option.map_some, Nat.zero_add]
  have := set_mid (pre.map ent3) (ent3 (k, v, b)) (ent3 (k, u, b)) (post.map ent3)
  rw [List.length_map] at this
  rw [List.map_append, List.map_cons, List.map_append, List.map_cons]
  exact congrArg (fun l => some (LV.tup [LV.int .i64 c] :: l)) this
theorem off_at {c : Int} {k : K3} {v b : Int} {pre post : List En3} (h : k ∉ pre.map (·.1)) : mapOff 21104 (.agg (krow k)) (m3 c (pre ++ (k, v, b) :: post)) = some (m3 c (pre ++ post)) := by
  simp only [mapOff, m3, findE_at pre 0 h, Option.map_some, Nat.zero_add]
  have := erase_mid (pre.map ent3) (ent3 (k, v, b)) (post.map ent3)
  rw [List.length_map] at this
  rw [List.map_append, List.map_cons, List.map_append]
  exact congrArg (fun l => some (LV.tup [LV.int .i64 c] :: l)) this
end Tree.R16
