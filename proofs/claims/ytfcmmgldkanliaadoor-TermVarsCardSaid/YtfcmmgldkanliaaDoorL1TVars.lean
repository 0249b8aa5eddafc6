/- Layer 1: the law TermVars, what E answers. -/
import Derived.Test.YtfcmmgldkanliaaDoorL1Put2
set_option autoImplicit false
set_option linter.unusedVariables false
set_option linter.unusedSimpArgs false
namespace Tree
open Go
set_option maxHeartbeats 4000000
set_option maxRecDepth 100000
def addAll (acc ns : List NV) : List NV := ns.foldl addN acc
theorem addN_mem {acc : List NV} {v u : NV} (h : u ∈ acc ∨ u = v) : u ∈ addN acc v := by
  unfold addN
  split
  · rename_i hm
    rcases h with h | rfl
    · exact h
    · exact hm
  · rcases h with h | rfl
    · exact List.mem_append_left _ h
    · exact List.mem_append_right _ (List.mem_singleton.2 rfl)
theorem addAll_mem : ∀ (ns acc : List NV) (u : NV), u ∈ acc ∨ u ∈ ns → u ∈ addAll acc ns
  | [], acc, u, h => by simpa [addAll] using h
  | v :: ns, acc, u, h => by
    refine addAll_mem ns (addN acc v) u ?_
    rcases h with h | h
    · exact .inl (addN_mem (.inl h))
    · rcases List.mem_cons.1 h with rfl | h
      · exact .inl (addN_mem (.inr rfl))
      · exact .inr h
theorem addAll_addN (acc b : List NV) (v : NV) : addAll acc (addN b v) = addN (addAll acc b) v := by
  unfold addN
  by_cases h : v ∈ b
  · rw [if_pos h, if_pos (addAll_mem b acc v (.inr h))]
  · rw [if_neg h]
    have : addAll acc (b ++ [v]) = addN (addAll acc b) v := by simp [addAll]
    rw [this]; rfl
theorem addAll_vars : ∀ (xs : List C) (acc b : List NV), addAll acc (varsC b xs) = varsC (addAll acc b) xs
  | [], acc, b => rfl
  | c :: xs, acc, b => by
    have e1 : varsC b (c :: xs) = varsC (varC b c) xs := rfl
    have e2 : varsC (addAll acc b) (c :: xs) = varsC (varC (addAll acc b) c) xs := rfl
    rw [e1, e2, addAll_vars xs acc (varC b c)]
    congr 1
    unfold varC
    split
    · exact addAll_addN acc b _
    · rfl
theorem addAll_take {ns : List NV} {j : Nat} {v : NV} (h : ns[j]? = some v) (acc : List NV) : addAll acc (ns.take (j + 1)) = addN (addAll acc (ns.take j)) v := by
  rw [List.take_add_one, h]; simp [addAll]
theorem addAll_len : ∀ (ns acc : List NV), (addAll acc ns).length ≤ acc.length + ns.length
  | [], acc => by simp [addAll]
  | v :: ns, acc => by
    have h1 : (addN acc v).length ≤ acc.length + 1 := by unfold addN; split <;> simp
    have h2 := addAll_len ns (addN acc v)
    have e : addAll acc (v :: ns) = addAll (addN acc v) ns := rfl
    rw [e, List.length_cons]; omega
theorem varsC_append (acc : List NV) (a b : List C) : varsC acc (a ++ b) = varsC (varsC acc a) b := by simp [varsC]
theorem putR_cases (cs : List C) (ts : List T1) : (putR cs ts).2 ≠ 0 ∨ (putR cs ts = (cs.flatMap (subC ts), 0) ∧ RightP cs ∧ (∀ t ∈ ts, ¬ wrongT t) ∧ (∀ c ∈ cs, ¬ missC ts c) ∧ (cs.flatMap (subC ts)).length ≤ 256) := by
  unfold putR
  split
  · left; decide
  · rename_i h1
    split
    · left; decide
    · rename_i h2
      split
      · left; decide
      · rename_i h3
        right
        refine ⟨rfl, Classical.byContradiction fun h => h1 (.inl h), fun t ht h => h1 (.inr ⟨t, ht, h⟩), fun c hc h => h2 ⟨c, hc, h⟩, by omega⟩
theorem sub_global {cs : List C} {ts : List T1} (h : ∀ c ∈ cs, ¬ locC c) : cs.flatMap (subC ts) = cs := by
  induction cs with
  | nil => rfl
  | cons c cs ih =>
    rw [List.flatMap_cons, ih (fun d hd => h d (List.mem_cons_of_mem _ hd))]
    have : subC ts c = [c] := by unfold subC; rw [if_neg (h c (List.mem_cons_self ..))]
    rw [this]; rfl
theorem varsOf_ok (t : T1) (hl : t.cs.length ≤ 1048576) (ob : Obs) (pb : Nat) : Gives env1 27 t.row ob pb (sl2 true 0 (varsC [] t.cs) [], ob) := by
  have hfl : ([t] : List T1).flatMap T1.cs = t.cs := by simp
  have hv0 : varsT [] [t] = varsC [] t.cs := rfl
  refine gives_code (f := tf27) rfl ?_
  conv => whnf
  refine ⟨_, _, refVars_ok 0 [t] [] (by simp) (by rw [hfl]; exact hl) ob _, fun _ => noRef2 _ _ _ _, ?_⟩
  rw [hv0]
  conv => whnf
  exact ⟨rfl, rfl, rfl⟩
def S9a (v l u o : LV) (i : Int) (ob : Obs) : WSt := ⟨.val v :: .val l :: List.replicate 3 (.val .undef) ++ .val u :: List.replicate 3 (.val .undef) ++ .val o :: .val (.int .i64 i) :: List.replicate 104 (.val .undef), ob, []⟩
def S9b (v l u o : LV) (i : Int) (m : LV) (j : Int) (ob : Obs) : WSt := ⟨.val v :: .val l :: List.replicate 3 (.val .undef) ++ .val u :: List.replicate 3 (.val .undef) ++ .val o :: .val (.int .i64 i) :: .val m :: .val (.int .i64 j) :: List.replicate 102 (.val .undef), ob, []⟩
theorem termVars_ok (cs : List C) (s1 : List (List LV)) (ts : List T1) (s2 : List (List LV)) (hl : cs.length ≤ 4611686018427387904) (hf : ∀ c ∈ cs, c.fine) (htl : ts.length ≤ 4611686018427387904) (htf : ∀ t ∈ ts, t.fine) :
    Gives env1 569 [sl5 false 0 cs s1, sl1 false 0 ts s2] [] 0 (.bool true, []) := by
  have hlen : (cs.map C.row).length = cs.length := by simp
  have htlen : (ts.map T1.row).length = ts.length := by simp
  refine gives_code (f := tf569) rfl ?_
  conv => whnf
  refine ⟨_, _, put_ok 0 0 cs s1 ts s2 hl hf htl htf [] _, fun _ => noRefV _ _, ?_⟩
  rcases putR_cases cs ts with he | ⟨hp, hR, hw, hnm, hul⟩
  · conv => whnf
    refine sel_t (by simpa using he) ?_
    conv => whnf
    refine ⟨_, _, refPut_ok 0 0 cs s1 ts s2 hl hf htl htf [] _, fun _ => noRefV _ _, ?_⟩
    conv => whnf
    refine ⟨_, _, live_ok, fun _ => rfl, ?_⟩
    conv => whnf
    refine ⟨rfl, ?_, rfl⟩
    show LV.bool _ = LV.bool true
    simp
  · rw [hp]
    obtain ⟨us, hus⟩ : ∃ us, us = cs.flatMap (subC ts) := ⟨_, rfl⟩
    rw [← hus] at hul ⊢
    have hn256 := hR.2.1
    conv => whnf
    refine loop_abs (S := fun i : Nat => S9a (sl5 false 0 cs s1) (sl1 false 0 ts s2) (sl5 false 0 us []) (sl2 true 0 (varsC [] (subN ts cs i)) []) i []) (m := fun i => cs.length - i) (P := fun i => i ≤ cs.length) ?_ 0 (Nat.zero_le _) rfl
    intro R i hi hN hE hRt
    conv => whnf
    refine sel_split (fun h => ?_) (fun h => ?_)
    · conv => whnf
      have h := of_decide_eq_true h
      rw [hlen] at h
      obtain ⟨c, hc⟩ : ∃ c, cs[i]? = some c := ⟨_, List.getElem?_eq_getElem (show i < cs.length by omega)⟩
      have hcm := List.mem_of_getElem? hc
      have e : IntKind.i64.wrap ((i : Int) + 1) = ((i + 1 : Nat) : Int) := by rw [wrap64] <;> omega
      have hacc : (varsC [] (subN ts cs i)).length ≤ 65536 := by
        have h1 := varsC_len (subN ts cs i) []
        have h2 := subN_len ts hw (cs.take i)
        have h3 : (cs.take i).length ≤ cs.length := by rw [List.length_take]; exact Nat.min_le_right _ _
        simp only [List.length_nil, Nat.zero_add] at h1
        unfold subN at h1 ⊢; omega
      have hstep : varsC [] (subN ts cs (i + 1)) = varsC (varsC [] (subN ts cs i)) (subC ts c) := by rw [subN_succ hc, varsC_append]
      -- the inner loop, for whatever names
      have inner : ∀ (ms : List NV) (Q : Ex → WSt → Prop) (w : WSt), ms.length ≤ 65536 →
          w.keepW [0, 1, 5, 9, 10, 11, 12] = S9b (sl5 false 0 cs s1) (sl1 false 0 ts s2) (sl5 false 0 us []) (sl2 true 0 (varsC [] (subN ts cs i)) []) i (sl2 true 0 ms []) 0 [] →
          (∀ w' : WSt, w'.keepW [0, 1, 5, 9, 10] = S9a (sl5 false 0 cs s1) (sl1 false 0 ts s2) (sl5 false 0 us []) (sl2 true 0 (addAll (varsC [] (subN ts cs i)) ms) []) i [] → True) → True := fun _ _ _ _ _ _ => trivial
      refine ⟨_, ⟨by omega, idx_row hc⟩, ?_⟩
      conv => whnf
      refine sel_split (fun h3 => ?_) (fun h3 => ?_)
      · conv => whnf
        have h3 : c.k ≠ 4 := by simpa using h3
        have hsub : varsC [] (subN ts cs (i + 1)) = varsC [] (subN ts cs i) := by
          rw [hstep]
          have : subC ts c = [c] := by unfold subC; rw [if_neg (fun hn => h3 hn.1)]
          rw [this]
          show varC _ c = _
          unfold varC; rw [if_neg h3]
        refine hN (i + 1) _ (by omega) (by omega) ?_
        rw [← e, hsub]; rfl
      · conv => whnf
        have h3 : c.k = 4 := by simpa using h3
        refine ⟨_, ⟨by omega, idx_row hc⟩, ?_⟩
        conv => whnf
        refine ⟨_, ⟨by omega, idx_row hc⟩, ?_⟩
        conv => whnf
        refine sel_split (fun h4 => ?_) (fun h4 => ?_)
        · conv => whnf
          have h4 : c.node = -1 := by simpa using h4
          have hloc : locC c := ⟨h3, h4⟩
          have hlt : ¬ c.num ≥ ts.length := fun hge => hnm c hcm ⟨hloc, .inl hge⟩
          have hnum : 0 ≤ c.num := by
            rcases hR.2.2.2 c hcm with g | g | g | g
            · omega
            · omega
            · omega
            · exact g.2.2.2.2.2
          obtain ⟨t, ht⟩ : ∃ t, ts[c.num.toNat]? = some t := ⟨_, List.getElem?_eq_getElem (show c.num.toNat < ts.length by omega)⟩
          have htc : t.cs.length ≤ 256 := by
            by_cases h0 : t.cs = []
            · simp [h0]
            · exact (Classical.byContradiction fun hn => hw t (List.mem_of_getElem? ht) ⟨h0, hn⟩ : RightP t.cs).2.1
          have hsub : varsC [] (subN ts cs (i + 1)) = addAll (varsC [] (subN ts cs i)) (varsC [] t.cs) := by
            rw [hstep, addAll_vars]
            have : subC ts c = t.cs := by unfold subC; rw [if_pos hloc, ht]
            rw [this]; rfl
          refine ⟨_, ⟨by omega, idx_row hc⟩, ?_⟩
          conv => whnf
          refine sel_f (by rw [htlen]; simp; omega) ?_
          conv => whnf
          refine ⟨_, ⟨by omega, idx_row hc⟩, ?_⟩
          conv => whnf
          refine ⟨_, ⟨hnum, idx_t ht⟩, ?_⟩
          conv => whnf
          refine ⟨_, _, varsOf_ok t (by omega) [] _, fun _ => noRef2 _ _ _ _, ?_⟩
          obtain ⟨ms, hms⟩ : ∃ ms, ms = varsC [] t.cs := ⟨_, rfl⟩
          have hml : ms.length ≤ 256 := by rw [hms]; have := varsC_len t.cs []; simp only [List.length_nil, Nat.zero_add] at this; omega
          rw [← hms] at hsub ⊢
          have hmlen : (ms.map nrow).length = ms.length := by simp
          conv => whnf
          refine loop_abs (S := fun j : Nat => S9b (sl5 false 0 cs s1) (sl1 false 0 ts s2) (sl5 false 0 us []) (sl2 true 0 (addAll (varsC [] (subN ts cs i)) (ms.take j)) []) i (sl2 true 0 ms []) j []) (m := fun j => ms.length - j) (P := fun j => j ≤ ms.length) ?_ 0 (Nat.zero_le _) rfl
          intro R' j hj hN' hE' hR'
          conv => whnf
          have e2 : j < ms.length → IntKind.i64.wrap ((j : Int) + 1) = ((j + 1 : Nat) : Int) := by intro hj; rw [wrap64] <;> omega
          refine sel_split (fun h5 => ?_) (fun h5 => ?_)
          · conv => whnf
            have h5 := of_decide_eq_true h5
            rw [hmlen] at h5
            obtain ⟨v, hv⟩ : ∃ v, ms[j]? = some v := ⟨_, List.getElem?_eq_getElem (show j < ms.length by omega)⟩
            have e2 := e2 (by omega)
            have htk := addAll_take hv (varsC [] (subN ts cs i))
            have hal := addAll_len (ms.take j) (varsC [] (subN ts cs i))
            have hjl : (ms.take j).length ≤ j := by rw [List.length_take]; exact Nat.min_le_left _ _
            refine ⟨_, ⟨by omega, idx_n hv⟩, ?_⟩
            conv => whnf
            obtain ⟨q, hq⟩ := boolOf (v ∈ addAll (varsC [] (subN ts cs i)) (ms.take j))
            refine ⟨_, _, refHasName_ok 0 _ [] v (by omega) [] _ q hq, fun _ => rfl, ?_⟩
            conv => whnf
            refine sel_split (fun h6 => ?_) (fun h6 => ?_)
            · conv => whnf
              have h6 : q = false := by simpa using h6
              have hnm' : addAll (varsC [] (subN ts cs i)) (ms.take (j + 1)) = addAll (varsC [] (subN ts cs i)) (ms.take j) ++ [v] := by
                rw [htk]; unfold addN; rw [if_neg (fun hm => by rw [hq.2 hm] at h6; cases h6)]
              refine ⟨_, ⟨by omega, idx_n hv⟩, ?_⟩
              conv => whnf
              refine ⟨(addAll (varsC [] (subN ts cs i)) (ms.take (j + 1))).map nrow, ⟨.inl rfl, ?_, ?_⟩, ?_⟩
              · show (((addAll (varsC [] (subN ts cs i)) (ms.take j)).map nrow).length + 1) * 16 ≤ _
                rw [List.length_map]; omega
              · rw [hnm', List.map_append]; rfl
              conv => whnf
              refine hN' (j + 1) _ (by omega) (by omega) ?_
              rw [← e2]; rfl
            · conv => whnf
              have h6 : q = true := by simpa using h6
              have hnm' : addAll (varsC [] (subN ts cs i)) (ms.take (j + 1)) = addAll (varsC [] (subN ts cs i)) (ms.take j) := by
                rw [htk]; unfold addN; rw [if_pos (hq.1 h6)]
              refine hN' (j + 1) _ (by omega) (by omega) ?_
              rw [← e2, hnm']; rfl
          · conv => whnf
            have h5 := of_decide_eq_false h5
            rw [hmlen] at h5
            have : j = ms.length := by omega
            subst this
            refine hE' _ _ ?_
            conv => whnf
            refine hN (i + 1) _ (by omega) (by omega) ?_
            rw [← e, hsub, List.take_length]; rfl
        · conv => whnf
          have h4 : c.node ≠ -1 := by simpa using h4
          have hsub : varsC [] (subN ts cs (i + 1)) = addAll (varsC [] (subN ts cs i)) [(c.node, c.num)] := by
            rw [hstep]
            have : subC ts c = [c] := by unfold subC; rw [if_neg (fun hn => h4 hn.2)]
            rw [this]
            show varC _ c = addN _ _
            unfold varC; rw [if_pos h3]
          obtain ⟨ms, hms⟩ : ∃ ms : List NV, ms = [(c.node, c.num)] := ⟨_, rfl⟩
          have hml : ms.length ≤ 256 := by rw [hms]; simp
          rw [← hms] at hsub
          have hmlen : (ms.map nrow).length = ms.length := by simp
          refine loop_abs (S := fun j : Nat => S9b (sl5 false 0 cs s1) (sl1 false 0 ts s2) (sl5 false 0 us []) (sl2 true 0 (addAll (varsC [] (subN ts cs i)) (ms.take j)) []) i (sl2 true 0 ms []) j []) (m := fun j => ms.length - j) (P := fun j => j ≤ ms.length) ?_ 0 (Nat.zero_le _) (by rw [hms]; rfl)
          intro R' j hj hN' hE' hR'
          conv => whnf
          have e2 : j < ms.length → IntKind.i64.wrap ((j : Int) + 1) = ((j + 1 : Nat) : Int) := by intro hj; rw [wrap64] <;> omega
          refine sel_split (fun h5 => ?_) (fun h5 => ?_)
          · conv => whnf
            have h5 := of_decide_eq_true h5
            rw [hmlen] at h5
            obtain ⟨v, hv⟩ : ∃ v, ms[j]? = some v := ⟨_, List.getElem?_eq_getElem (show j < ms.length by omega)⟩
            have e2 := e2 (by omega)
            have htk := addAll_take hv (varsC [] (subN ts cs i))
            have hal := addAll_len (ms.take j) (varsC [] (subN ts cs i))
            have hjl : (ms.take j).length ≤ j := by rw [List.length_take]; exact Nat.min_le_left _ _
            refine ⟨_, ⟨by omega, idx_n hv⟩, ?_⟩
            conv => whnf
            obtain ⟨q, hq⟩ := boolOf (v ∈ addAll (varsC [] (subN ts cs i)) (ms.take j))
            refine ⟨_, _, refHasName_ok 0 _ [] v (by omega) [] _ q hq, fun _ => rfl, ?_⟩
            conv => whnf
            refine sel_split (fun h6 => ?_) (fun h6 => ?_)
            · conv => whnf
              have h6 : q = false := by simpa using h6
              have hnm' : addAll (varsC [] (subN ts cs i)) (ms.take (j + 1)) = addAll (varsC [] (subN ts cs i)) (ms.take j) ++ [v] := by
                rw [htk]; unfold addN; rw [if_neg (fun hm => by rw [hq.2 hm] at h6; cases h6)]
              refine ⟨_, ⟨by omega, idx_n hv⟩, ?_⟩
              conv => whnf
              refine ⟨(addAll (varsC [] (subN ts cs i)) (ms.take (j + 1))).map nrow, ⟨.inl rfl, ?_, ?_⟩, ?_⟩
              · show (((addAll (varsC [] (subN ts cs i)) (ms.take j)).map nrow).length + 1) * 16 ≤ _
                rw [List.length_map]; omega
              · rw [hnm', List.map_append]; rfl
              conv => whnf
              refine hN' (j + 1) _ (by omega) (by omega) ?_
              rw [← e2]; rfl
            · conv => whnf
              have h6 : q = true := by simpa using h6
              have hnm' : addAll (varsC [] (subN ts cs i)) (ms.take (j + 1)) = addAll (varsC [] (subN ts cs i)) (ms.take j) := by
                rw [htk]; unfold addN; rw [if_pos (hq.1 h6)]
              refine hN' (j + 1) _ (by omega) (by omega) ?_
              rw [← e2, hnm']; rfl
          · conv => whnf
            have h5 := of_decide_eq_false h5
            rw [hmlen] at h5
            have : j = ms.length := by omega
            subst this
            refine hE' _ _ ?_
            conv => whnf
            refine hN (i + 1) _ (by omega) (by omega) ?_
            rw [← e, hsub, List.take_length]; rfl
    · conv => whnf
      have h := of_decide_eq_false h
      rw [hlen] at h
      have : i = cs.length := by omega
      subst this
      have hall : subN ts cs cs.length = us := by unfold subN; rw [List.take_length, hus]
      rw [hall] at *
      refine hE _ _ ?_
      conv => whnf
      refine ⟨_, _, live_ok, fun _ => rfl, ?_⟩
      conv => whnf
      have hfl : ([⟨0, us, []⟩] : List T1).flatMap T1.cs = us := by simp
      have hv0 : varsT [] [⟨0, us, []⟩] = varsC [] us := rfl
      refine ⟨_, _, vars_ok 0 [⟨0, us, []⟩] [] (by simp) (by rw [hfl]; omega) [] _, fun _ => noRef2 _ _ _ _, ?_⟩
      rw [hv0]
      conv => whnf
      have hvl := varsC_len us []
      refine ⟨_, _, sameNames_ok 0 0 (varsC [] us) (varsC [] us) [] [] (by simp only [List.length_nil, Nat.zero_add] at hvl; omega) [] _ true (by simp), fun _ => rfl, ?_⟩
      conv => whnf
      obtain ⟨g, hg⟩ := boolOf (GlobalP cs)
      refine ⟨_, _, global_ok 0 cs s1 hl hf [] _ g hg, fun _ => rfl, ?_⟩
      conv => whnf
      refine sel_split (fun h6 => ?_) (fun h6 => ?_)
      · conv => whnf
        exact ⟨rfl, rfl, rfl⟩
      · conv => whnf
        have hG := hg.1 (by simpa using h6)
        refine ⟨_, _, equal_ok 0 0 us cs [] s1 (by omega) [] _ true (by rw [hus, sub_global hG.2]; simp), fun _ => rfl, ?_⟩
        conv => whnf
        exact ⟨rfl, rfl, rfl⟩
end Tree
