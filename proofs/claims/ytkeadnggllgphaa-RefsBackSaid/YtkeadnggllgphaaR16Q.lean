/- Package refs: Added, Released, Got, Held, Free, New, Exports. -/
import Derived.Test.YtkeadnggllgphaaR16P
set_option autoImplicit false
set_option linter.unusedVariables false
set_option linter.unusedSimpArgs false
namespace Tree.R16
open Go Tree
set_option maxHeartbeats 8000000
set_option maxRecDepth 100000
def eRel (me : Int) (v : NV3) (to times : Int) : Int := if otherB me 4 to && !(decide (times < 1)) && !(decide (times > 2147483647)) then (if v.1 = me then 0 else 4) else 2
theorem released_ok {n : Nat} {me : Int} {ob : Obs} {D G : K3 → Int} {L : Nat} (h : TB n me ob D G L) (v : NV3) (to times : Int) (pb : Nat) (hpb : pb ≤ n) :
    ∃ ob', Gives env16z 405 [.optr (n + 2) 0, .agg (nr3 v), .int .i64 to, .int .i64 times] ob pb (.int .i64 (eRel me v to times), ob') ∧
      TB n me ob' (if eRel me v to times = 0 then upD D (v.1, v.2, to) (-times) else D) G (L + 1) ∧ Keep n ob ob' := by
  have hr := h.row
  have g1 := fun pb => isOther_ok me 4 to ob pb
  by_cases hb : (otherB me 4 to && !(decide (times < 1)) && !(decide (times > 2147483647))) = true
  · have hb2 := hb
    simp only [Bool.and_eq_true, Bool.not_eq_true', decide_eq_false_iff_not] at hb2
    obtain ⟨⟨ho, ht1⟩, ht2⟩ := hb2
    rw [ho] at g1
    have hto := other_node ho
    have ew : IntKind.i64.wrap (0 - times) = -times := by rw [wrap64] <;> omega
    by_cases hv : v.1 = me
    · have e : eRel me v to times = 0 := by unfold eRel; rw [if_pos hb, if_pos hv]
      rw [e, if_pos rfl]
      obtain ⟨ob', s1, s2, s3⟩ := h.addE (v.1, v.2, to) (-times) hto
      refine ⟨ob', ?_, s2, s3⟩
      refine gives_code (f := tf405) rfl ?_
      conv => whnf
      refine ⟨_, _, ⟨hr, rfl, rfl⟩, ?_⟩
      conv => whnf
      refine ⟨_, _, g1 _, fun _ => rfl, ?_⟩
      conv => whnf
      refine sel_f (decide_eq_false ht1) ?_
      conv => whnf
      refine sel_f (decide_eq_false ht2) ?_
      conv => whnf
      refine ⟨_, _, ⟨hr, rfl, rfl⟩, ?_⟩
      conv => whnf
      refine sel_f (by simpa using hv) ?_
      conv => whnf
      refine ⟨_, _, ⟨hr, rfl, rfl⟩, ?_⟩
      conv => whnf
      rw [ew]
      refine ⟨_, _, s1 _ hpb, fun h => (nomatch h), ?_⟩
      conv => whnf
      exact ⟨rfl, rfl, rfl⟩
    · have e : eRel me v to times = 4 := by unfold eRel; rw [if_pos hb, if_neg hv]
      rw [e]
      refine ⟨ob, ?_, h.mono (by omega), Keep.refl _ _⟩
      refine gives_code (f := tf405) rfl ?_
      conv => whnf
      refine ⟨_, _, ⟨hr, rfl, rfl⟩, ?_⟩
      conv => whnf
      refine ⟨_, _, g1 _, fun _ => rfl, ?_⟩
      conv => whnf
      refine sel_f (decide_eq_false ht1) ?_
      conv => whnf
      refine sel_f (decide_eq_false ht2) ?_
      conv => whnf
      refine ⟨_, _, ⟨hr, rfl, rfl⟩, ?_⟩
      conv => whnf
      refine sel_t (by simpa using hv) ?_
      conv => whnf
      exact ⟨rfl, rfl, rfl⟩
  · have e : eRel me v to times = 2 := by unfold eRel; rw [if_neg hb]
    rw [e]
    refine ⟨ob, ?_, h.mono (by omega), Keep.refl _ _⟩
    refine gives_code (f := tf405) rfl ?_
    conv => whnf
    refine ⟨_, _, ⟨hr, rfl, rfl⟩, ?_⟩
    conv => whnf
    cases ho : otherB me 4 to with
    | false =>
      rw [ho] at g1
      refine ⟨_, _, g1 _, fun _ => rfl, ?_⟩
      conv => whnf
      exact ⟨rfl, rfl, rfl⟩
    | true =>
      rw [ho] at g1 hb
      refine ⟨_, _, g1 _, fun _ => rfl, ?_⟩
      conv => whnf
      refine sel_split (fun h1 => ?_) (fun h1 => ?_) <;> (conv => whnf)
      · exact ⟨rfl, rfl, rfl⟩
      · refine sel_split (fun h2 => ?_) (fun h2 => ?_) <;> (conv => whnf)
        · exact ⟨rfl, rfl, rfl⟩
        · exact absurd (by rw [h1, h2]; rfl) hb
theorem rows_noRef (m : Nat) : ∀ l : List (K3 × Int), LV.noRefss m (l.map row4) = true
  | [] => rfl
  | x :: r => by
    have ih := rows_noRef m r
    simp only [List.map_cons, LV.noRefss, Bool.and_eq_true]
    exact ⟨rfl, ih⟩
theorem rows_noRef4 (m : Nat) (l : List (K3 × Int)) : LV.noRef m (.sl true 0 4 (l.map row4) []) = true := by
  simp only [LV.noRef, rows_noRef, Bool.true_and]; rfl
theorem exports_ok {n : Nat} {me : Int} {ob : Obs} {D G : K3 → Int} {L : Nat} (h : TB n me ob D G L) (hL : L ≤ 1099511627776) : ∃ c es, W3 c es ∧ es.length ≤ L ∧ (∀ k, lk3 es k = IntKind.i64.wrap (D k)) ∧
    ∀ pb, Gives env16z 397 [.optr (n + 2) 0] ob pb (.sl true 0 4 ((isortK (es.map kn)).map row4) [], ob) := by
  obtain ⟨c, es, ci, is, h1, h2, h3, h4, h5, h6, h7, h8, h9⟩ := h
  refine ⟨c, es, h4, h8, h6, fun pb => ?_⟩
  have hF : rowsF [.mref n] ob = some (.sl true 0 4 ((isortK (es.map kn)).map row4) []) := by
    simp only [rowsF, h1, parseM3_m3, h4.ok (by omega), if_true]
  have gr : ∀ pb, Gives env16z 418 [.mref n] ob pb (.sl true 0 4 ((isortK (es.map kn)).map row4) [], ob) := fun pb => gives_ext (F := rowsF) rfl hF
  refine gives_code (f := tf397) rfl ?_
  conv => whnf
  refine ⟨_, _, ⟨h3, rfl, rfl⟩, ?_⟩
  conv => whnf
  refine ⟨_, _, gr _, fun _ => rows_noRef4 _ _, ?_⟩
  conv => whnf
  exact ⟨rfl, rfl, rfl⟩
theorem imports_ok {n : Nat} {me : Int} {ob : Obs} {D G : K3 → Int} {L : Nat} (h : TB n me ob D G L) (hL : L ≤ 1099511627776) : ∃ c es, W3 c es ∧ es.length ≤ L ∧ (∀ k, lk3 es k = IntKind.i64.wrap (G k)) ∧
    ∀ pb, Gives env16z 409 [.optr (n + 2) 0] ob pb (.sl true 0 4 ((isortK (es.map kn)).map row4) [], ob) := by
  obtain ⟨c, es, ci, is, h1, h2, h3, h4, h5, h6, h7, h8, h9⟩ := h
  refine ⟨ci, is, h5, h9, h7, fun pb => ?_⟩
  have hF : rowsF [.mref (n + 1)] ob = some (.sl true 0 4 ((isortK (is.map kn)).map row4) []) := by
    simp only [rowsF, h2, parseM3_m3, h5.ok (by omega), if_true]
  have gr : ∀ pb, Gives env16z 418 [.mref (n + 1)] ob pb (.sl true 0 4 ((isortK (is.map kn)).map row4) [], ob) := fun pb => gives_ext (F := rowsF) rfl hF
  refine gives_code (f := tf409) rfl ?_
  conv => whnf
  refine ⟨_, _, ⟨h3, rfl, rfl⟩, ?_⟩
  conv => whnf
  refine ⟨_, _, gr _, fun _ => rows_noRef4 _ _, ?_⟩
  conv => whnf
  exact ⟨rfl, rfl, rfl⟩
theorem held_ok {n : Nat} {me : Int} {ob : Obs} {D G : K3 → Int} {L : Nat} (h : TB n me ob D G L) (v : NV3) (pb : Nat) : Gives env16z 407 [.optr (n + 2) 0, .agg (nr3 v)] ob pb (.int .i64 (IntKind.i64.wrap (G (v.1, v.2, v.1))), ob) := by
  obtain ⟨c, es, ci, is, h1, h2, h3, h4, h5, h6, h7, h8, h9⟩ := h
  obtain ⟨q, hq⟩ := look3 (c := ci) (k := (v.1, v.2, v.1)) is
  rw [h7] at hq
  refine gives_code (f := tf407) rfl ?_
  conv => whnf
  refine ⟨_, _, ⟨h3, rfl, rfl⟩, ?_⟩
  conv => whnf
  refine ⟨_, _, lk_of h2 hq, ?_⟩
  conv => whnf
  exact ⟨rfl, rfl, rfl⟩
/-- A key's count is taken away. -/
def offD (G : K3 → Int) (k : K3) : K3 → Int := fun k' => if k' = k then 0 else G k'
theorem off3 (k : K3) {c : Int} {es : List En3} (h : W3 c es) : ∃ es', mapOff 21104 (.agg (krow k)) (m3 c es) = some (m3 c es') ∧ W3 c es' ∧ (∀ k', lk3 es' k' = if k' = k then 0 else lk3 es k') ∧ es'.length ≤ es.length := by
  by_cases hk : k ∈ es.map (·.1)
  · obtain ⟨pre, v, b, post, rfl, h3⟩ := split3 hk
    have hkp : lk3 (pre ++ post) k = 0 := by
      refine lk3_not fun hm => ?_
      have := h.once
      rw [List.map_append, List.map_cons] at this
      obtain ⟨h4, h5, h6⟩ := List.nodup_append.1 this
      rw [List.map_append] at hm
      rcases List.mem_append.1 hm with hm | hm
      · exact h3 hm
      · exact (List.nodup_cons.1 h5).1 hm
    refine ⟨pre ++ post, off_at h3, h.out, fun k' => ?_, by simp only [List.length_append, List.length_cons]; omega⟩
    rw [lk3_mid h3]
    by_cases e : k' = k
    · rw [if_pos e, e, hkp]
    · rw [if_neg e, if_neg e]
  · refine ⟨es, off_no hk, h, fun k' => ?_, Nat.le_refl _⟩
    by_cases e : k' = k
    · rw [if_pos e, e, lk3_not hk]
    · rw [if_neg e]
theorem free_ok {n : Nat} {me : Int} {ob : Obs} {D G : K3 → Int} {L : Nat} (h : TB n me ob D G L) (v : NV3) (pb : Nat) (hpb : pb ≤ n) :
    ∃ ob', Gives env16z 408 [.optr (n + 2) 0, .agg (nr3 v)] ob pb (.int .i64 (IntKind.i64.wrap (G (v.1, v.2, v.1))), ob') ∧
      TB n me ob' D (if 0 < IntKind.i64.wrap (G (v.1, v.2, v.1)) then offD G (v.1, v.2, v.1) else G) L ∧ Keep n ob ob' := by
  have gh := fun pb => held_ok h v pb
  by_cases hp : 0 < IntKind.i64.wrap (G (v.1, v.2, v.1))
  · rw [if_pos hp]
    obtain ⟨c, es, ci, is, h1, h2, h3, h4, h5, h6, h7, h8, h9⟩ := h
    obtain ⟨is', o1, o2, o3, o4⟩ := off3 (v.1, v.2, v.1) h5
    have hid : n + 1 < ob.length := (List.getElem?_eq_some_iff.1 h2).1
    refine ⟨ob.set (n + 1) (m3 ci is'), ?_, ⟨c, es, ci, is', ?_, List.getElem?_set_self hid, ?_, h4, o2, h6, fun k' => ?_, h8, by omega⟩, ?_⟩
    · refine gives_code (f := tf408) rfl ?_
      conv => whnf
      refine ⟨_, _, gh _, fun _ => rfl, ?_⟩
      conv => whnf
      refine sel_t (by simpa using hp) ?_
      conv => whnf
      refine ⟨_, _, ⟨h3, rfl, rfl⟩, ?_⟩
      conv => whnf
      refine ⟨_, _, ⟨by omega, h2, o1⟩, ?_⟩
      conv => whnf
      exact ⟨rfl, rfl, rfl⟩
    · rw [List.getElem?_set_ne (by omega)]; exact h1
    · rw [List.getElem?_set_ne (by omega)]; exact h3
    · rw [o3, h7]
      unfold offD
      by_cases e : k' = (v.1, v.2, v.1)
      · rw [if_pos e, if_pos e, wrap_0]
      · rw [if_neg e, if_neg e]
    · exact ⟨by simp, fun j _ hj => List.getElem?_set_ne (fun e => hj e.symm)⟩
  · rw [if_neg hp]
    refine ⟨ob, ?_, h, Keep.refl _ _⟩
    refine gives_code (f := tf408) rfl ?_
    conv => whnf
    refine ⟨_, _, gh _, fun _ => rfl, ?_⟩
    conv => whnf
    refine sel_f (by simpa using hp) ?_
    conv => whnf
    exact ⟨rfl, rfl, rfl⟩
theorem new_ok (me : Int) (hm : isB 4 me = true) (ob : Obs) (pb : Nat) (hpb : pb ≤ ob.length) : ∃ ob', Gives env16z 399 [.int .i64 me, .int .i64 4] ob pb (.tup [.optr (ob.length + 2) 0, .int .i64 0], ob') ∧
    TB ob.length me ob' (fun _ => 0) (fun _ => 0) 0 ∧ (∀ j, j < ob.length → ob'[j]? = ob[j]?) ∧ ob'.length = ob.length + 3 := by
  have g1 := fun pb => is_ok me 4 me ob pb
  rw [hm] at g1
  refine ⟨ob ++ [[.tup [.int .i64 0]], [.tup [.int .i64 0]], [.int .i64 me, .int .i64 4, .mref ob.length, .mref (ob.length + 1)]], ?_, ⟨0, [], 0, [], ?_, ?_, ?_, W3.nil, W3.nil, fun k => by rw [wrap_0]; rfl, fun k => by rw [wrap_0]; rfl, Nat.le_refl _, Nat.le_refl _⟩, fun j hj => List.getElem?_append_left hj, by simp⟩
  · refine gives_code (f := tf399) rfl ?_
    conv => whnf
    refine ⟨_, _, g1 _, fun _ => rfl, ?_⟩
    conv => whnf
    refine ⟨rfl, ?_, ?_⟩
    · show LV.tup [.optr (List.length (ob ++ [[LV.tup [LV.int IntKind.i64 0]]] ++ [[LV.tup [LV.int IntKind.i64 0]]])) 0, .int .i64 0] = _
      simp
    · show ob ++ [[LV.tup [LV.int IntKind.i64 0]]] ++ [[LV.tup [LV.int IntKind.i64 0]]] ++
                    [[LV.int IntKind.i64 me, LV.int IntKind.i64 4, LV.mref (List.length ob),
                        LV.mref (List.length (ob ++ [[LV.tup [LV.int IntKind.i64 0]]]))]] = _
      simp
  · simp [m3]
  · simp [m3]
  · simp
end Tree.R16
