/- Package refs: counts.add. -/
import Derived.Test.YtfdamolkgfcoiaaR16M
import Derived.Test.YtfdamolkgfcoiaaR16None
set_option autoImplicit false
set_option linter.unusedVariables false
set_option linter.unusedSimpArgs false
namespace Tree.R16
open Go Tree
set_option maxHeartbeats 8000000
set_option maxRecDepth 100000
theorem lk_of {st : St} {t id : Nat} {zero k : LV} {cs : List LV} {r : LV × Bool} (h : st.ob[id]? = some cs) (h1 : mapLook t zero k cs = some r) : lookE1 st t zero k (.mref id) = some r := by
  show (st.ob[id]?).bind _ = _
  rw [h]; exact h1
theorem add_gen (x y z by_ : Int) (id : Nat) (cs cs1 cs2 cs3 : List LV) (v b u : Int) (q1 q2 : Bool) (ob : Obs) (pb : Nat) (hpb : pb ≤ id) (hob : ob[id]? = some cs)
    (h1 : mapLook 21104 (.int .i64 0) (.agg [.int .i64 x, .int .i64 y, .int .i64 z]) cs = some (.int .i64 v, q1))
    (h2 : ∃ v', mapEntV 21104 (.int .i64 0) (.agg [.int .i64 x, .int .i64 y, .int .i64 z]) cs = some (.tup [.int .i64 v', .int .i64 b]))
    (h3 : mapEntC 21104 (.int .i64 0) (.agg [.int .i64 x, .int .i64 y, .int .i64 z]) cs = some cs1)
    (h4 : entPutC b (.int .i64 (IntKind.i64.wrap (v + by_))) cs1 = some cs2)
    (h5 : mapLook 21104 (.int .i64 0) (.agg [.int .i64 x, .int .i64 y, .int .i64 z]) cs2 = some (.int .i64 u, q2))
    (h6 : u = 0 → mapOff 21104 (.agg [.int .i64 x, .int .i64 y, .int .i64 z]) cs2 = some cs3) (h7 : u ≠ 0 → cs3 = cs2) :
    Gives env16z 423 [.mref id, .agg [.int .i64 x, .int .i64 y, .int .i64 z], .int .i64 by_] ob pb (.tup [], ob.set id cs3) := by
  obtain ⟨v', h2⟩ := h2
  have hid : id < ob.length := (List.getElem?_eq_some_iff.1 hob).1
  have hg1 : ∀ c : List LV, (ob.set id c)[id]? = some c := fun c => List.getElem?_set_self hid
  refine gives_code (f := tf423) rfl ?_
  conv => whnf
  refine ⟨_, _, lk_of hob h1, ?_⟩
  conv => whnf
  refine ⟨_, _, _, ⟨hpb, hob, h2, h3⟩, ?_⟩
  conv => whnf
  refine ⟨_, _, ⟨hpb, hg1 _, h4⟩, ?_⟩
  conv => whnf
  rw [List.set_set]
  refine ⟨_, _, lk_of (hg1 _) h5, ?_⟩
  conv => whnf
  refine sel_split (fun hq => ?_) (fun hq => ?_) <;> (conv => whnf)
  · have hu : u = 0 := by simpa using hq
    refine ⟨_, _, ⟨hpb, hg1 _, h6 hu⟩, ?_⟩
    conv => whnf
    rw [List.set_set]
    exact ⟨rfl, rfl, rfl⟩
  · have hu : u ≠ 0 := by simpa using hq
    rw [h7 hu]
    exact ⟨rfl, rfl, rfl⟩
theorem lk3_mid {k : K3} {u b : Int} {pre post : List En3} (h : k ∉ pre.map (·.1)) (k' : K3) : lk3 (pre ++ (k, u, b) :: post) k' = if k' = k then u else lk3 (pre ++ post) k' := by
  by_cases e : k' = k
  · rw [if_pos e, e, lk3_at h]
  · rw [if_neg e, lk3_app, lk3_app]
    have : lk3 ((k, u, b) :: post) k' = lk3 post k' := by simp only [lk3]; rw [if_neg (fun q => e q.symm)]
    rw [this]
theorem W3.mid {c : Int} {k : K3} {v b u : Int} {pre post : List En3} (h : W3 c (pre ++ (k, v, b) :: post)) (hu : u ≠ 0) : W3 c (pre ++ (k, u, b) :: post) := by
  have key : ∀ e ∈ pre ++ (k, u, b) :: post, ∃ e' ∈ pre ++ (k, v, b) :: post, e'.1 = e.1 ∧ e'.2.2 = e.2.2 := by
    intro e he
    rcases List.mem_append.1 he with he | he
    · exact ⟨e, List.mem_append.2 (.inl he), rfl, rfl⟩
    · rcases List.mem_cons.1 he with rfl | he
      · exact ⟨(k, v, b), by simp, rfl, rfl⟩
      · exact ⟨e, by simp [he], rfl, rfl⟩
  refine ⟨fun e he => ?_, ?_, ?_, fun e he => ?_, fun e he => ?_, h.clock⟩
  · obtain ⟨e', h1, h2, h3⟩ := key e he; rw [← h3]; exact h.born e' h1
  · have := h.rise
    simp only [List.pairwise_append, List.pairwise_cons, List.mem_cons] at this ⊢
    refine ⟨this.1, ⟨fun x hx => this.2.1.1 x hx, this.2.1.2⟩, fun x hx y hy => ?_⟩
    rcases hy with rfl | hy
    · exact this.2.2 x hx (k, v, b) (.inl rfl)
    · exact this.2.2 x hx y (.inr hy)
  · have := h.once
    simpa only [List.map_append, List.map_cons] using this
  · obtain ⟨e', h1, h2, h3⟩ := key e he; rw [← h2]; exact h.node e' h1
  · rcases List.mem_append.1 he with he | he
    · exact h.some e (List.mem_append.2 (.inl he))
    · rcases List.mem_cons.1 he with rfl | he
      · exact hu
      · exact h.some e (by simp [he])
theorem W3.out {c : Int} {x : En3} {pre post : List En3} (h : W3 c (pre ++ x :: post)) : W3 c (pre ++ post) := by
  have hs : (pre ++ post).Sublist (pre ++ x :: post) := List.Sublist.append (List.Sublist.refl _) (List.sublist_cons_self _ _)
  exact ⟨fun e he => h.born e (hs.subset he), h.rise.sublist hs, h.once.sublist (hs.map _), fun e he => h.node e (hs.subset he), fun e he => h.some e (hs.subset he), h.clock⟩
theorem W3.new {c : Int} {k : K3} {u : Int} {es : List En3} (h : W3 c es) (hk : k ∉ es.map (·.1)) (hn : 0 ≤ k.2.2 ∧ k.2.2 < 4294967296) (hu : u ≠ 0) : W3 (c + 1) (es ++ [(k, u, c)]) := by
  have hc := h.clock
  refine ⟨fun e he => ?_, ?_, ?_, fun e he => ?_, fun e he => ?_, by omega⟩
  · rcases List.mem_append.1 he with he | he
    · have := h.born e he; omega
    · rw [List.mem_singleton] at he; subst he; show 0 ≤ c ∧ c < c + 1; omega
  · refine List.pairwise_append.2 ⟨h.rise, by simp, fun x hx y hy => ?_⟩
    rw [List.mem_singleton] at hy; subst hy
    exact (h.born x hx).2
  · rw [List.map_append]
    refine List.nodup_append.2 ⟨h.once, by simp, fun x hx y hy => ?_⟩
    simp only [List.map_cons, List.map_nil, List.mem_singleton] at hy
    subst hy; intro e; exact hk (e ▸ hx)
  · rcases List.mem_append.1 he with he | he
    · exact h.node e he
    · rw [List.mem_singleton] at he; subst he; exact hn
  · rcases List.mem_append.1 he with he | he
    · exact h.some e he
    · rw [List.mem_singleton] at he; subst he; exact hu
theorem W3.up {c : Int} {es : List En3} (h : W3 c es) : W3 (c + 1) es := by
  have hc := h.clock
  exact ⟨fun e he => by have := h.born e he; omega, h.rise, h.once, h.node, h.some, by omega⟩
theorem W3.nil : W3 0 [] := ⟨by simp, .nil, by simp, by simp, by simp, by omega⟩
/-- What add makes of counts. -/
theorem add3 (k : K3) (by_ : Int) {c : Int} {es : List En3} (h : W3 c es) (hn : 0 ≤ k.2.2 ∧ k.2.2 < 4294967296) :
    ∃ c' es', (∀ (id : Nat) (ob : Obs) (pb : Nat), pb ≤ id → ob[id]? = some (m3 c es) → Gives env16z 423 [.mref id, .agg (krow k), .int .i64 by_] ob pb (.tup [], ob.set id (m3 c' es'))) ∧
      W3 c' es' ∧ (∀ k', lk3 es' k' = if k' = k then IntKind.i64.wrap (lk3 es k + by_) else lk3 es k') ∧ es'.length ≤ es.length + 1 := by
  by_cases hk : k ∈ es.map (·.1)
  · obtain ⟨pre, v, b, post, rfl, h3⟩ := split3 hk
    have hb : ∀ e ∈ pre, e.2.2 ≠ b := by
      intro e he
      have := (List.pairwise_append.1 h.rise).2.2 e he (k, v, b) (List.mem_cons_self ..)
      have h5 : e.2.2 < b := this
      omega
    have hkp : lk3 (pre ++ post) k = 0 := by
      refine lk3_not fun hm => ?_
      have := h.once
      rw [List.map_append, List.map_cons] at this
      obtain ⟨h4, h5, h6⟩ := List.nodup_append.1 this
      rw [List.map_append] at hm
      rcases List.mem_append.1 hm with hm | hm
      · exact h3 hm
      · exact (List.nodup_cons.1 h5).1 hm
    obtain ⟨e1, e2⟩ := ent_at (c := c) (v := v) (b := b) (post := post) h3
    have e3 := put_at (c := c) (k := k) (v := v) (u := IntKind.i64.wrap (v + by_)) (post := post) hb
    by_cases hu : IntKind.i64.wrap (v + by_) = 0
    · refine ⟨c, pre ++ post, fun id ob pb hpb hob => ?_, h.out, fun k' => ?_, by simp only [List.length_append, List.length_cons]; omega⟩
      · exact add_gen k.1 k.2.1 k.2.2 by_ id _ _ _ _ v b _ true true ob pb hpb hob (look3_at h3) ⟨_, e1⟩ e2 e3 (look3_at h3) (fun _ => off_at h3) (fun q => absurd hu q)
      · rw [lk3_at h3, lk3_mid h3]
        by_cases e : k' = k
        · rw [if_pos e, e, hkp, hu]
        · rw [if_neg e, if_neg e]
    · refine ⟨c, pre ++ (k, IntKind.i64.wrap (v + by_), b) :: post, fun id ob pb hpb hob => ?_, h.mid hu, fun k' => ?_, by simp⟩
      · exact add_gen k.1 k.2.1 k.2.2 by_ id _ _ _ _ v b _ true true ob pb hpb hob (look3_at h3) ⟨_, e1⟩ e2 e3 (look3_at h3) (fun q => absurd q hu) (fun _ => rfl)
      · rw [lk3_at h3, lk3_mid h3, lk3_mid h3]
        by_cases e : k' = k
        · rw [if_pos e, if_pos e]
        · rw [if_neg e, if_neg e, if_neg e]
  · obtain ⟨e1, e2⟩ := ent_no (c := c) hk
    have e3 := put_at (c := c + 1) (k := k) (v := 0) (b := c) (u := IntKind.i64.wrap (0 + by_)) (pre := es) (post := []) (fun e he => by have := h.born e he; omega)
    by_cases hu : IntKind.i64.wrap (0 + by_) = 0
    · refine ⟨c + 1, es ++ [], fun id ob pb hpb hob => ?_, by rw [List.append_nil]; exact h.up, fun k' => ?_, by simp⟩
      · exact add_gen k.1 k.2.1 k.2.2 by_ id _ _ _ _ 0 c _ false true ob pb hpb hob (look3_no hk) ⟨_, e1⟩ e2 e3 (look3_at hk) (fun _ => off_at hk) (fun q => absurd hu q)
      · rw [List.append_nil, lk3_not hk, hu]
        by_cases e : k' = k
        · rw [if_pos e, e, lk3_not hk]
        · rw [if_neg e]
    · refine ⟨c + 1, es ++ [(k, IntKind.i64.wrap (0 + by_), c)], fun id ob pb hpb hob => ?_, h.new hk hn hu, fun k' => ?_, by simp⟩
      · exact add_gen k.1 k.2.1 k.2.2 by_ id _ _ _ _ 0 c _ false true ob pb hpb hob (look3_no hk) ⟨_, e1⟩ e2 e3 (look3_at hk) (fun q => absurd q hu) (fun _ => rfl)
      · rw [lk3_mid hk, List.append_nil, lk3_not hk]
theorem wrap_def (n : Int) : IntKind.i64.wrap n = if n % 18446744073709551616 ≥ 9223372036854775808 then n % 18446744073709551616 - 18446744073709551616 else n % 18446744073709551616 := by
  simp only [IntKind.wrap, IntKind.bits, IntKind.signed]
  have e : (2 : Int) ^ 64 = 18446744073709551616 := by decide
  have e2 : (2 : Int) ^ (64 - 1) = 9223372036854775808 := by decide
  simp only [e, e2]
  split <;> rename_i h <;> simp at h <;> split <;> omega
theorem wrap_add (a b : Int) : IntKind.i64.wrap (IntKind.i64.wrap a + b) = IntKind.i64.wrap (a + b) := by
  simp only [wrap_def]
  split <;> split <;> split <;> omega
theorem wrap_0 : IntKind.i64.wrap 0 = 0 := by decide
end Tree.R16
