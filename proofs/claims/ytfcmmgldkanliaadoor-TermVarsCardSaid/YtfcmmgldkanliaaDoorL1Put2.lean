/- Layer 1: the document's Put; the law TermPuts, what E answers. -/
import Derived.Test.YtfcmmgldkanliaaDoorL1Put
set_option autoImplicit false
set_option linter.unusedVariables false
set_option linter.unusedSimpArgs false
namespace Tree
open Go
set_option maxHeartbeats 4000000
set_option maxRecDepth 100000
def S21a (v l : LV) (i : Int) (ob : Obs) : WSt := ⟨.val v :: .val l :: List.replicate 4 (.val .undef) ++ .val (.int .i64 i) :: List.replicate 100 (.val .undef), ob, []⟩
def S21b (v l : LV) (i : Int) (ob : Obs) : WSt := ⟨.val v :: .val l :: List.replicate 5 (.val .undef) ++ .val (.int .i64 i) :: List.replicate 99 (.val .undef), ob, []⟩
def S21c (v l o : LV) (i : Int) (ob : Obs) : WSt := ⟨.val v :: .val l :: List.replicate 7 (.val .undef) ++ .val o :: .val (.int .i64 i) :: List.replicate 96 (.val .undef), ob, []⟩
theorem refPut_ok (l1 l2 : Nat) (cs : List C) (s1 : List (List LV)) (ts : List T1) (s2 : List (List LV)) (hl : cs.length ≤ 4611686018427387904) (hf : ∀ c ∈ cs, c.fine) (htl : ts.length ≤ 4611686018427387904) (htf : ∀ t ∈ ts, t.fine) (ob : Obs) (pb : Nat) :
    Gives env1 21 [sl5 false l1 cs s1, sl1 false l2 ts s2] ob pb (makeV (putR cs ts), ob) := by
  have hlen : (cs.map C.row).length = cs.length := by simp
  have htlen : (ts.map T1.row).length = ts.length := by simp
  obtain ⟨q, hq⟩ := boolOf (RightP cs)
  refine gives_code (f := tf21) rfl ?_
  conv => whnf
  refine ⟨_, _, refRight_ok l1 cs s1 hl hf ob _ q hq, fun _ => rfl, ?_⟩
  conv => whnf
  refine sel_split (fun h1 => ?_) (fun h1 => ?_)
  · conv => whnf
    refine ⟨rfl, ?_, rfl⟩
    have : putR cs ts = ([], 6) := by unfold putR; rw [if_pos (.inl (fun hR => by rw [hq.2 hR] at h1; cases h1))]
    rw [this]; rfl
  · conv => whnf
    have hR := hq.1 (by simpa using h1)
    refine loop_abs (S := fun i : Nat => S21a (sl5 false l1 cs s1) (sl1 false l2 ts s2) i ob) (m := fun i => ts.length - i) (P := fun i => i ≤ ts.length ∧ ∀ k t, k < i → ts[k]? = some t → ¬ wrongT t) ?_ 0 ⟨Nat.zero_le _, fun k s h => by omega⟩ rfl
    rintro R i ⟨hi, hP⟩ hN hE hRt
    conv => whnf
    refine sel_split (fun h => ?_) (fun h => ?_)
    · conv => whnf
      have h := of_decide_eq_true h
      rw [htlen] at h
      obtain ⟨t, ht⟩ : ∃ c, ts[i]? = some c := ⟨_, List.getElem?_eq_getElem (show i < ts.length by omega)⟩
      have htm := List.mem_of_getElem? ht
      have hclen : (t.cs.map C.row).length = t.cs.length := by simp
      have e : IntKind.i64.wrap ((i : Int) + 1) = ((i + 1 : Nat) : Int) := by rw [wrap64] <;> omega
      have next : ¬ wrongT t → ∀ k u, k < i + 1 → ts[k]? = some u → ¬ wrongT u := by
        intro hn k d hk hd
        by_cases hki : k = i
        · subst hki; rw [ht] at hd; cases hd; exact hn
        · exact hP k d (by omega) hd
      refine ⟨_, ⟨by omega, idx_t ht⟩, ?_⟩
      conv => whnf
      refine sel_split (fun h2 => ?_) (fun h2 => ?_)
      · conv => whnf
        have h2 := of_decide_eq_true h2
        rw [hclen] at h2
        have hne : t.cs ≠ [] := fun e => by rw [e] at h2; simp at h2
        obtain ⟨p, hp⟩ := boolOf (RightP t.cs)
        refine ⟨_, ⟨by omega, idx_t ht⟩, ?_⟩
        conv => whnf
        refine ⟨_, _, refRight_ok t.lab t.cs t.sp (htf t htm).1 (htf t htm).2 ob _ p hp, fun _ => rfl, ?_⟩
        conv => whnf
        refine sel_split (fun h3 => ?_) (fun h3 => ?_)
        · conv => whnf
          refine hRt _ ?_
          conv => whnf
          refine ⟨rfl, ?_, rfl⟩
          have : putR cs ts = ([], 6) := by
            unfold putR; rw [if_pos (.inr ⟨t, htm, hne, fun hr => by rw [hp.2 hr] at h3; cases h3⟩)]
          rw [this]; rfl
        · conv => whnf
          refine hN (i + 1) _ ⟨by omega, next (fun hn => hn.2 (hp.1 (by simpa using h3)))⟩ (by omega) ?_
          rw [← e]; rfl
      · conv => whnf
        have h2 := of_decide_eq_false h2
        rw [hclen] at h2
        refine hN (i + 1) _ ⟨by omega, next (fun hn => hn.1 (List.length_eq_zero_iff.1 (by omega)))⟩ (by omega) ?_
        rw [← e]; rfl
    · conv => whnf
      have h := of_decide_eq_false h
      rw [htlen] at h
      have hw : ∀ t ∈ ts, ¬ wrongT t := fun t ht => by
        obtain ⟨k, hk, e⟩ := List.getElem_of_mem ht
        exact hP k t (by omega) (by rw [List.getElem?_eq_getElem hk, e])
      have hno : ¬ (¬ RightP cs ∨ ∃ t ∈ ts, wrongT t) := by
        rintro (h | ⟨t, ht, h⟩)
        · exact h hR
        · exact hw t ht h
      refine hE _ _ ?_
      conv => whnf
      refine loop_abs (S := fun i : Nat => S21b (sl5 false l1 cs s1) (sl1 false l2 ts s2) i ob) (m := fun i => cs.length - i) (P := fun i => i ≤ cs.length ∧ ∀ k c, k < i → cs[k]? = some c → ¬ missC ts c) ?_ 0 ⟨Nat.zero_le _, fun k s h => by omega⟩ rfl
      rintro R2 i ⟨hi, hP2⟩ hN2 hE2 hR2
      conv => whnf
      refine sel_split (fun h => ?_) (fun h => ?_)
      · conv => whnf
        have h := of_decide_eq_true h
        rw [hlen] at h
        obtain ⟨c, hc⟩ : ∃ c, cs[i]? = some c := ⟨_, List.getElem?_eq_getElem (show i < cs.length by omega)⟩
        have hcm := List.mem_of_getElem? hc
        have e : IntKind.i64.wrap ((i : Int) + 1) = ((i + 1 : Nat) : Int) := by rw [wrap64] <;> omega
        have next : ¬ missC ts c → ∀ k u, k < i + 1 → cs[k]? = some u → ¬ missC ts u := by
          intro hn k d hk hd
          by_cases hki : k = i
          · subst hki; rw [hc] at hd; cases hd; exact hn
          · exact hP2 k d (by omega) hd
        have bad : missC ts c → putR cs ts = ([], 4) := by
          intro hm; unfold putR; rw [if_neg hno, if_pos ⟨c, hcm, hm⟩]
        refine ⟨_, ⟨by omega, idx_row hc⟩, ?_⟩
        conv => whnf
        refine sel_split (fun h3 => ?_) (fun h3 => ?_)
        · conv => whnf
          have h3 : c.k = 4 := by simpa using h3
          have hnum : 0 ≤ c.num := by
            rcases hR.2.2.2 c hcm with g | g | g | g
            · omega
            · omega
            · omega
            · exact g.2.2.2.2.2
          refine sel_split (fun h4 => ?_) (fun h4 => ?_)
          · conv => whnf
            have h4 : c.node = -1 := by simpa using h4
            refine sel_split (fun h5 => ?_) (fun h5 => ?_)
            · conv => whnf
              have h5 := of_decide_eq_true h5
              rw [htlen] at h5
              refine hR2 _ ?_
              conv => whnf
              refine ⟨rfl, ?_, rfl⟩
              rw [bad ⟨⟨h3, h4⟩, .inl h5⟩]; rfl
            · conv => whnf
              have h5 := of_decide_eq_false h5
              rw [htlen] at h5
              obtain ⟨t, ht⟩ : ∃ t, ts[c.num.toNat]? = some t := ⟨_, List.getElem?_eq_getElem (show c.num.toNat < ts.length by omega)⟩
              have hclen : (t.cs.map C.row).length = t.cs.length := by simp
              refine ⟨_, ⟨hnum, idx_t ht⟩, ?_⟩
              conv => whnf
              refine sel_split (fun h6 => ?_) (fun h6 => ?_)
              · conv => whnf
                rw [hclen] at h6
                refine hR2 _ ?_
                conv => whnf
                refine ⟨rfl, ?_, rfl⟩
                rw [bad ⟨⟨h3, h4⟩, .inr ⟨t, ht, List.length_eq_zero_iff.1 (by simp at h6; simp [h6])⟩⟩]; rfl
              · conv => whnf
                rw [hclen] at h6
                refine hN2 (i + 1) _ ⟨by omega, next (fun hn => ?_)⟩ (by omega) ?_
                · rcases hn.2 with g | ⟨u, hu, hu2⟩
                  · omega
                  · rw [ht] at hu; cases hu; rw [hu2] at h6; simp at h6
                · rw [← e]; rfl
          · conv => whnf
            have h4 : c.node ≠ -1 := by simpa using h4
            refine hN2 (i + 1) _ ⟨by omega, next (fun hn => h4 hn.1.2)⟩ (by omega) ?_
            rw [← e]; rfl
        · conv => whnf
          have h3 : c.k ≠ 4 := by simpa using h3
          refine hN2 (i + 1) _ ⟨by omega, next (fun hn => h3 hn.1.1)⟩ (by omega) ?_
          rw [← e]; rfl
      · conv => whnf
        have h := of_decide_eq_false h
        rw [hlen] at h
        have hnm : ¬ ∃ c ∈ cs, missC ts c := by
          rintro ⟨c, hc, hm⟩
          obtain ⟨k, hk', e⟩ := List.getElem_of_mem hc
          exact hP2 k c (by omega) (by rw [List.getElem?_eq_getElem hk', e]) hm
        refine hE2 _ _ ?_
        conv => whnf
        refine loop_abs (S := fun i : Nat => S21c (sl5 false l1 cs s1) (sl1 false l2 ts s2) (sl5 true 0 (subN ts cs i) []) i ob) (m := fun i => cs.length - i) (P := fun i => i ≤ cs.length) ?_ 0 (Nat.zero_le _) rfl
        intro R' i hi hN' hE' hR'
        conv => whnf
        refine sel_split (fun h => ?_) (fun h => ?_)
        · conv => whnf
          have h := of_decide_eq_true h
          rw [hlen] at h
          obtain ⟨c, hc⟩ : ∃ c, cs[i]? = some c := ⟨_, List.getElem?_eq_getElem (show i < cs.length by omega)⟩
          have hcm := List.mem_of_getElem? hc
          have e : IntKind.i64.wrap ((i : Int) + 1) = ((i + 1 : Nat) : Int) := by rw [wrap64] <;> omega
          have hsl : (subN ts cs (i + 1)).length ≤ 256 * 256 := by
            have := subN_len ts hw (cs.take (i + 1))
            have h2 : (cs.take (i + 1)).length ≤ cs.length := by rw [List.length_take]; exact Nat.min_le_right _ _
            have := hR.2.1
            unfold subN; omega
          have hss := subN_succ (ts := ts) hc
          refine ⟨_, ⟨by omega, idx_row hc⟩, ?_⟩
          conv => whnf
          refine sel_split (fun h3 => ?_) (fun h3 => ?_)
          · conv => whnf
            have h3 : c.k = 4 := by simpa using h3
            refine sel_split (fun h4 => ?_) (fun h4 => ?_)
            · conv => whnf
              have h4 : c.node = -1 := by simpa using h4
              have hloc : locC c := ⟨h3, h4⟩
              have hlt : ¬ c.num ≥ ts.length := fun hge => hnm ⟨c, hcm, hloc, .inl hge⟩
              have hnum : 0 ≤ c.num := by
                rcases hR.2.2.2 c hcm with g | g | g | g
                · omega
                · omega
                · omega
                · exact g.2.2.2.2.2
              obtain ⟨t, ht⟩ : ∃ t, ts[c.num.toNat]? = some t := ⟨_, List.getElem?_eq_getElem (show c.num.toNat < ts.length by omega)⟩
              have hsub : subC ts c = t.cs := by unfold subC; rw [if_pos hloc, ht]
              rw [hsub] at hss
              refine ⟨_, ⟨hnum, idx_t ht⟩, ?_⟩
              conv => whnf
              refine ⟨(subN ts cs (i + 1)).map C.row, ⟨.inl rfl, ?_, ?_⟩, ?_⟩
              · rw [hss, List.length_append] at hsl
                simp only [List.length_map]; omega
              · rw [hss, List.map_append]
              conv => whnf
              refine hN' (i + 1) _ (by omega) (by omega) ?_
              rw [← e]; rfl
            · conv => whnf
              have h4 : c.node ≠ -1 := by simpa using h4
              have hsub : subC ts c = [c] := by unfold subC; rw [if_neg (fun hn => h4 hn.2)]
              rw [hsub] at hss
              refine ⟨(subN ts cs (i + 1)).map C.row, ⟨.inl rfl, ?_, ?_⟩, ?_⟩
              · rw [hss, List.length_append] at hsl
                show (((subN ts cs i).map C.row).length + 1) * 48 ≤ _
                simp only [List.length_map, List.length_cons, List.length_nil] at hsl ⊢; omega
              · rw [hss, List.map_append]; rfl
              conv => whnf
              refine hN' (i + 1) _ (by omega) (by omega) ?_
              rw [← e]; rfl
          · conv => whnf
            have h3 : c.k ≠ 4 := by simpa using h3
            have hsub : subC ts c = [c] := by unfold subC; rw [if_neg (fun hn => h3 hn.1)]
            rw [hsub] at hss
            refine ⟨(subN ts cs (i + 1)).map C.row, ⟨.inl rfl, ?_, ?_⟩, ?_⟩
            · rw [hss, List.length_append] at hsl
              show (((subN ts cs i).map C.row).length + 1) * 48 ≤ _
              simp only [List.length_map, List.length_cons, List.length_nil] at hsl ⊢; omega
            · rw [hss, List.map_append]; rfl
            conv => whnf
            refine hN' (i + 1) _ (by omega) (by omega) ?_
            rw [← e]; rfl
        · conv => whnf
          have h := of_decide_eq_false h
          rw [hlen] at h
          have : i = cs.length := by omega
          subst this
          have hall : subN ts cs cs.length = cs.flatMap (subC ts) := by unfold subN; rw [List.take_length]
          have holen : ((subN ts cs cs.length).map C.row).length = (cs.flatMap (subC ts)).length := by rw [hall, List.length_map]
          refine hE' _ _ ?_
          conv => whnf
          refine sel_split (fun h3 => ?_) (fun h3 => ?_)
          · conv => whnf
            rw [holen] at h3
            have h3 := of_decide_eq_true h3
            refine ⟨rfl, ?_, rfl⟩
            have : putR cs ts = ([], 5) := by unfold putR; rw [if_neg hno, if_neg hnm, if_pos (by omega)]
            rw [this]; rfl
          · conv => whnf
            rw [holen] at h3
            have h3 := of_decide_eq_false h3
            refine ⟨rfl, ?_, rfl⟩
            have : putR cs ts = (cs.flatMap (subC ts), 0) := by unfold putR; rw [if_neg hno, if_neg hnm, if_neg (by omega)]
            rw [this, hall]; rfl
theorem putR_len (cs : List C) (ts : List T1) : (putR cs ts).1.length ≤ 4611686018427387904 := by
  unfold putR
  split
  · simp
  · split
    · simp
    · split
      · simp
      · show (cs.flatMap (subC ts)).length ≤ _; omega
theorem own_at (ts : List T1) (i : Nat) : (ts.map T1.own)[i]? = (ts[i]?).map T1.own := by rw [List.getElem?_map]
theorem putR_own (cs : List C) (ts : List T1) : putR cs (ts.map T1.own) = putR cs ts := by
  have h1 : (∃ t ∈ ts.map T1.own, wrongT t) ↔ ∃ t ∈ ts, wrongT t := by
    constructor
    · rintro ⟨t, ht, hw⟩
      obtain ⟨u, hu, rfl⟩ := List.mem_map.1 ht
      exact ⟨u, hu, hw⟩
    · rintro ⟨t, ht, hw⟩
      exact ⟨t.own, List.mem_map_of_mem ht, hw⟩
  have h2 : ∀ n, missN (ts.map T1.own) n ↔ missN ts n := by
    intro n
    unfold missN
    rw [List.length_map, own_at]
    constructor
    · rintro (h | ⟨t, ht, h⟩)
      · exact .inl h
      · obtain ⟨u, hu, rfl⟩ := Option.map_eq_some_iff.1 ht
        exact .inr ⟨u, hu, h⟩
    · rintro (h | ⟨t, ht, h⟩)
      · exact .inl h
      · exact .inr ⟨t.own, by rw [ht]; rfl, h⟩
  have h3 : subC (ts.map T1.own) = subC ts := by
    funext c
    unfold subC
    split
    · rw [own_at]; cases ts[c.num.toNat]? <;> rfl
    · rfl
  have h4 : (∃ c ∈ cs, missC (ts.map T1.own) c) ↔ ∃ c ∈ cs, missC ts c := by
    unfold missC; simp only [h2]
  have h1' : (¬ RightP cs ∨ ∃ t ∈ ts.map T1.own, wrongT t) ↔ (¬ RightP cs ∨ ∃ t ∈ ts, wrongT t) := by rw [h1]
  unfold putR
  rw [h3]
  by_cases a : ¬ RightP cs ∨ ∃ t ∈ ts, wrongT t
  · rw [if_pos a, if_pos (h1'.2 a)]
  · rw [if_neg a, if_neg (fun h => a (h1'.1 h))]
    by_cases b : ∃ c ∈ cs, missC ts c
    · rw [if_pos b, if_pos (h4.2 b)]
    · rw [if_neg b, if_neg (fun h => b (h4.1 h))]
theorem varsT_own : ∀ (ts : List T1) (acc : List NV), varsT acc (ts.map T1.own) = varsT acc ts
  | [], acc => rfl
  | t :: ts, acc => by
    have := varsT_own ts (varsC acc t.cs)
    simpa [varsT, T1.own] using this
theorem termPuts_ok (cs : List C) (s1 : List (List LV)) (ts : List T1) (s2 : List (List LV)) (hl : cs.length ≤ 1048576) (hf : ∀ c ∈ cs, c.fine) (htl : ts.length ≤ 1048576) (htc : (ts.flatMap T1.cs).length ≤ 1048576) (htf : ∀ t ∈ ts, ∀ c ∈ t.cs, c.fine) (hts : ∀ t ∈ ts, t.cs.length ≤ 1048576) :
    Gives env1 568 [sl5 false 0 cs s1, sl1 false 0 ts s2] [] 0 (.bool true, []) := by
  have hf' : ∀ t ∈ ts, t.fine := fun t ht => ⟨by have := hts t ht; omega, htf t ht⟩
  have hfo : ∀ t ∈ ts.map T1.own, t.fine := fun t ht => by
    obtain ⟨u, hu, rfl⟩ := List.mem_map.1 ht
    exact hf' u hu
  have hflo : (ts.map T1.own).flatMap T1.cs = ts.flatMap T1.cs := by simp [List.flatMap_map]; rfl
  obtain ⟨g, hg⟩ := boolOf (GlobalP cs)
  have hvl := varsT_len ts []
  refine gives_code (f := tf568) rfl ?_
  conv => whnf
  refine ⟨_, _, lent_ok 0 cs s1 (by omega) [] _, fun _ => noRef5 _ _ _ _, ?_⟩
  conv => whnf
  refine ⟨_, _, rows_ok 0 ts s2 (by omega) (fun t ht => by have := hts t ht; omega) [] _, fun _ => noRef1 _ _ _ _, ?_⟩
  conv => whnf
  refine ⟨_, _, put_ok 0 0 cs [] (ts.map T1.own) [] (by omega) hf (by rw [List.length_map]; omega) hfo [] _, fun _ => noRefV _ _, ?_⟩
  conv => whnf
  refine ⟨_, _, refPut_ok 0 0 cs s1 ts s2 (by omega) hf (by omega) hf' [] _, fun _ => noRefV _ _, ?_⟩
  conv => whnf
  refine ⟨_, _, live_ok, fun _ => rfl, ?_⟩
  conv => whnf
  refine ⟨_, _, equal_ok 0 0 (putR cs (ts.map T1.own)).1 (putR cs ts).1 [] [] (putR_len _ _) [] _ true (by rw [putR_own]; simp), fun _ => rfl, ?_⟩
  conv => whnf
  refine sel_t (by rw [putR_own]; simp) ?_
  conv => whnf
  refine ⟨_, _, vars_ok 0 (ts.map T1.own) [] (by rw [List.length_map]; omega) (by rw [hflo]; omega) [] _, fun _ => noRef2 _ _ _ _, ?_⟩
  conv => whnf
  refine ⟨_, _, refVars_ok 0 ts s2 (by omega) (by omega) [] _, fun _ => noRef2 _ _ _ _, ?_⟩
  conv => whnf
  refine ⟨_, _, sameNames_ok 0 0 (varsT [] (ts.map T1.own)) (varsT [] ts) [] [] (by rw [varsT_own]; simp only [List.length_nil, Nat.zero_add] at hvl; omega) [] _ true (by rw [varsT_own]; simp), fun _ => rfl, ?_⟩
  conv => whnf
  refine ⟨_, _, global_ok 0 cs [] (by omega) hf [] _ g hg, fun _ => rfl, ?_⟩
  conv => whnf
  refine ⟨_, _, refGlobal_ok 0 cs s1 (by omega) hf [] _ g hg, fun _ => rfl, ?_⟩
  conv => whnf
  refine sel_t (by simp) ?_
  conv => whnf
  refine ⟨_, _, equal_ok 0 0 cs cs [] s1 (by omega) [] _ true (by simp), fun _ => rfl, ?_⟩
  conv => whnf
  refine ⟨_, _, sameTerms_ok 0 0 (ts.map T1.own) ts [] s2 (by rw [List.length_map]; omega) (fun t ht => (hfo t ht).1) [] _ true ⟨fun _ => own_cs ts, fun _ => rfl⟩, fun _ => rfl, ?_⟩
  conv => whnf
  exact ⟨rfl, rfl, rfl⟩
end Tree
