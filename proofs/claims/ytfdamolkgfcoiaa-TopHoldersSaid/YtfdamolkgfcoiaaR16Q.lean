/- Package refs: Added, Released, Got, Held, Free, New, Exports. -/
import Derived.Test.YtfdamolkgfcoiaaR16P
set_option autoImplicit false
set_option linter.unusedVariables false
set_option linter.unusedSimpArgs false
namespace Tree.R16
open Go Tree
set_option maxHeartbeats 8000000
set_option maxRecDepth 100000
def eRel (me : Int) (v : NV3) (to times : Int) : Int := if otherB me 4 to && !(decide (times < 1)) && !(decide (times > 2147483647)) then (if v.1 = me then 0 else 4) else 2
theorem released_ok {n : Nat} {me : Int} {ob : Obs} {D G : K3 → Int} {L : Nat} (h : TB n me ob D G L) (v : NV3) (to times : Int) (pb : Nat) (hpb : pb ≤ n) :
    ∃ ob', Gives env16z 405 [.optr (n + 2) 0, .agg (nr3 v), .int .i64 to, .int .i64 times] ob pb (.int .i64 (eRel me v to times), ob') ∧
      TB n me ob' (if eRel me v to times = 0 then upD D (v.1, v.2, to) (-times) else D) G (L + 1) ∧ Keep n ob ob' := by
  have hr := h.row
  have g1 := fun pb => isOther_ok me 4 to ob pb
  by_cases hb : (otherB me 4 to && !(decide (times < 1)) && !(decide (times > 2147483647))) = true
  · have hb2 := hb
    simp only [Bool.and_eq_true, Bool.not_eq_true', decide_eq_false_iff_not] at hb2
    obtain ⟨⟨ho, ht1⟩, ht2⟩ := hb2
    rw [ho] at g1
    have hto := other_node ho
    have ew : IntKind.i64.wrap (0 - times) = -times := by rw [wrap64] <;> omega
    by_cases hv : v.1 = me
    · have e : eRel me v to times = 0 := by unfold eRel; rw [if_pos hb, if_pos hv]
      rw [e, if_pos rfl]
      obtain ⟨ob', s1, s2, s3⟩ := h.addE (v.1, v.2, to) (-times) hto
      refine ⟨ob', ?_, s2, s3⟩
      refine gives_code (f := tf405) rfl ?_
      conv => whnf
      refine ⟨_, _, ⟨hr, rfl, rfl⟩, ?_⟩
      conv => whnf
      refine ⟨_, _, g1 _, fun _ => rfl, ?_⟩
      conv => whnf
      refine sel_f (decide_eq_false ht1) ?_
      conv => whnf
      refine sel_f (decide_eq_false ht2) ?_
      conv => whnf
      refine ⟨_, _, ⟨hr, rfl, rfl⟩, ?_⟩
      conv => whnf
      refine sel_f (by simpa using hv) ?_
      conv => whnf
      refine ⟨_, _, ⟨hr, rfl, rfl⟩, ?_⟩
      conv => whnf
      rw [ew]
      refine ⟨_, _, s1 _ hpb, fun h => (nomatch h), ?_⟩
      conv => whnf
      exact ⟨rfl, rfl, rfl⟩
    · have e : eRel me v to times = 4 := by unfold eRel; rw [if_pos hb, if_neg hv]
      rw [e]
      refine ⟨ob, ?_, h.mono (by omega), Keep.refl _ _⟩
      refine gives_code (f := tf405) rfl ?_
      conv => whnf
      refine ⟨_, _, ⟨hr, rfl, rfl⟩, ?_⟩
      conv => whnf
      refine ⟨_, _, g1 _, fun _ => rfl, ?_⟩
      conv => whnf
      refine sel_f (decide_eq_false ht1) ?_
      conv => whnf
      refine sel_f (decide_eq_false ht2) ?_
      conv => whnf
      refine ⟨_, _, ⟨hr, rfl, rfl⟩, ?_⟩
      conv => whnf
      refine sel_t (by simpa using hv) ?_
      conv => whnf
      exact ⟨rfl, rfl, rfl⟩
  · have e : eRel me v to times = 2 := by unfold eRel; rw [if_neg hb]
    rw [e]
    refine ⟨ob, ?_, h.mono (by omega), Keep.refl _ _⟩
    refine gives_code (f := tf405) rfl ?_
    conv => whnf
    refine ⟨_, _, ⟨hr, rfl, rfl⟩, ?_⟩
    conv => whnf
    cases ho : otherB me 4 to with
    | false =>
      rw [ho] at g1
      refine ⟨_, _, g1 _, fun _ => rfl, ?_⟩
      conv => whnf
      exact ⟨rfl, rfl, rfl⟩
    | true =>
      rw [ho] at g1 hb
      refine ⟨_, _, g1 _, fun _ => rfl, ?_⟩
      conv => whnf
      refine sel_split (fun h1 => ?_) (fun h1 => ?_) <;> (conv => whnf)
      · exact ⟨rfl, rfl, rfl⟩
      · refine sel_split (fun h2 => ?_) (fun h2 => ?_) <;> (conv => whnf)
        · exact ⟨rfl, rfl, rfl⟩
        · exact absurd (by rw [h1, h2]; rfl) hb
theorem rows_noRef (m : Nat) : ∀ l : List (K3 × Int), LV.noRefss m (l.map row4) = true
  | [] => rfl
  | x :: r => by
    have ih := rows_noRef m r
    simp only [List.map_cons, LV.noRefss, Bool.and_eq_true]
    exact ⟨rfl, ih⟩
theorem rows_noRef4 (m : Nat) (l : List (K3 × Int)) : LV.noRef m (.sl true 0 4 (l.map row4) []) = true := by
  simp only [LV.noRef, rows_noRef, Bool.true_and]; rfl
theorem exports_ok {n : Nat} {me : Int} {ob : Obs} {D G : K3 → Int} {L : Nat} (h : TB n me ob D G L) (hL : L ≤ 1099511627776) : ∃ c es, W3 c es ∧ es.length ≤ L ∧ (∀ k, lk3 es k = IntKind.i64.wrap (D k)) ∧
    ∀ pb, Gives env16z 397 [.optr (n + 2) 0] ob pb (.sl true 0 4 ((isortK (es.map kn)).map row4) [], ob) := by
  obtain ⟨c, es, ci, is, h1, h2, h3, h4, h5, h6, h7, h8, h9⟩ := h
  refine ⟨c, es, h4, h8, h6, fun pb => ?_⟩
  have hF : rowsF [.mref n] ob = some (.sl true 0 4 ((isortK (es.map kn)).map row4) []) := by
    simp only [rowsF, h1, parseM3_m3, h4.ok (by omega), if_true]
  have gr : ∀ pb, Gives env16z 418 [.mref n] ob pb (.sl true 0 4 ((isortK (es.map kn)).map row4) [], ob) := fun pb => gives_ext (F := rowsF) rfl hF
  refine gives_code (f := tf397) rfl ?_
  conv => whnf
  refine ⟨_, _, ⟨h3, rfl, rfl⟩, ?_⟩
  conv => whnf
  refine ⟨_, _, gr _, fun _ => rows_noRef4 _ _, ?_⟩
  conv => whnf
  exact ⟨rfl, rfl, rfl⟩
theorem new_ok (me : Int) (hm : isB 4 me = true) (ob : Obs) (pb : Nat) (hpb : pb ≤ ob.length) : ∃ ob', Gives env16z 399 [.int .i64 me, .int .i64 4] ob pb (.tup [.optr (ob.length + 2) 0, .int .i64 0], ob') ∧
    TB ob.length me ob' (fun _ => 0) (fun _ => 0) 0 ∧ (∀ j, j < ob.length → ob'[j]? = ob[j]?) ∧ ob'.length = ob.length + 3 := by
  have g1 := fun pb => is_ok me 4 me ob pb
  rw [hm] at g1
  refine ⟨ob ++ [[.tup [.int .i64 0]], [.tup [.int .i64 0]], [.int .i64 me, .int .i64 4, .mref ob.length, .mref (ob.length + 1)]], ?_, ⟨0, [], 0, [], ?_, ?_, ?_, W3.nil, W3.nil, fun k => by rw [wrap_0]; rfl, fun k => by rw [wrap_0]; rfl, Nat.le_refl _, Nat.le_refl _⟩, fun j hj => List.getElem?_append_left hj, by simp⟩
  · refine gives_code (f := tf399) rfl ?_
    conv => whnf
    refine ⟨_, _, g1 _, fun _ => rfl, ?_⟩
    conv => whnf
    refine ⟨rfl, ?_, ?_⟩
    · show LV.tup [.optr (List.length (ob ++ [[LV.tup [LV.int IntKind.i64 0]]] ++ [[LV.tup [LV.int IntKind.i64 0]]])) 0, .int .i64 0] = _
      simp
    · show ob ++ [[LV.tup [LV.int IntKind.i64 0]]] ++ [[LV.tup [LV.int IntKind.i64 0]]] ++
                    [[LV.int IntKind.i64 me, LV.int IntKind.i64 4, LV.mref (List.length ob),
                        LV.mref (List.length (ob ++ [[LV.tup [LV.int IntKind.i64 0]]]))]] = _
      simp
  · simp [m3]
  · simp [m3]
  · simp
end Tree.R16
