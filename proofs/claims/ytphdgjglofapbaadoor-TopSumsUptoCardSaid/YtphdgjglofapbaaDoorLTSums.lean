/- The whole, TopSums: what E answers. -/
import Derived.Test.YtphdgjglofapbaaDoorLTEnv
import Derived.Test.YtphdgjglofapbaaDoorL6HP
set_option autoImplicit false
set_option linter.unusedVariables false
set_option linter.unusedSimpArgs false
namespace Tree.HT
open Go Tree.H6
set_option maxHeartbeats 8000000
set_option maxRecDepth 100000
def wh (x : Int) : Int := if x.tmod 1000 < 0 then x.tmod 1000 + 1000 else x.tmod 1000
theorem wh_range (x : Int) : 0 ≤ wh x ∧ wh x < 1000 := by
  have h1 := Int.tmod_lt_of_pos x (show (0 : Int) < 1000 by omega)
  have h2 : -1000 < x.tmod 1000 := by
    by_cases h : 0 ≤ x
    · have := Int.tmod_nonneg 1000 h; omega
    · have h3 := Int.tmod_lt_of_pos (-x) (show (0 : Int) < 1000 by omega)
      rw [Int.neg_tmod] at h3; omega
  unfold wh
  split <;> omega
theorem which_ok (x : Int) (ob : Obs) (pb : Nat) : Gives envT 592 [.int .i64 x, .int .i64 1000] ob pb (.int .i64 (wh x), ob) := by
  have h1 := Int.tmod_lt_of_pos x (show (0 : Int) < 1000 by omega)
  have h2 : -1000 < x.tmod 1000 := by
    by_cases h : 0 ≤ x
    · have := Int.tmod_nonneg 1000 h; omega
    · have h3 := Int.tmod_lt_of_pos (-x) (show (0 : Int) < 1000 by omega)
      rw [Int.neg_tmod] at h3; omega
  have e2 : IntKind.i64.wrap (x.tmod 1000 + 1000) = x.tmod 1000 + 1000 := by rw [wrap64] <;> omega
  refine gives_code (f := tf592) rfl ?_
  conv => whnf
  refine ⟨by decide, ?_⟩
  conv => whnf
  refine sel_split (fun h => ?_) (fun h => ?_)
  · conv => whnf
    have h : x.tmod 1000 < 0 := of_decide_eq_true h
    refine ⟨rfl, ?_, rfl⟩
    show LV.int .i64 (IntKind.i64.wrap (x.tmod 1000 + 1000)) = _
    rw [e2]; unfold wh; rw [if_pos h]
  · conv => whnf
    have h : ¬ x.tmod 1000 < 0 := of_decide_eq_false h
    refine ⟨rfl, ?_, rfl⟩
    show LV.int .i64 (x.tmod 1000) = _
    unfold wh; rw [if_neg h]
/-- The numbers that the variables have. -/
def nums (vs : List Int) : List Int := (vs.take 8).map fun x => wh x - 500
theorem nums_small (vs : List Int) : ∀ n ∈ nums vs, small n := by
  intro n hn
  obtain ⟨x, _, rfl⟩ := List.mem_map.1 hn
  have := wh_range x
  unfold small; omega
def obH (c : Int) (es : List En) : Obs := [mE c es, [.mref 0]]
structure Hx where
  M : Mp
  c : Int
  es : List En
structure Hx.Ok (x : Hx) : Prop where
  mok : MOk x.M
  hp : ∀ k, lk x.es k = (x.M k).map fun cs => sl5 false 0 cs []
theorem Hx.Ok.p {x : Hx} (h : x.Ok) : HpP (obH x.c x.es) 1 0 x.c x.es x.M := ⟨rfl, rfl, h.hp⟩
theorem Hx.Ok.put {x : Hx} (h : x.Ok) {k : NV} {cs : List C} (hA : Acc x.M k cs) (hf : ∀ c ∈ cs, c.fine) : (Hx.mk (upd x.M k cs) (ck x.es k x.c) (pt x.es k (sl5 false 0 cs []) x.c)).Ok := by
  refine ⟨mok_upd h.mok hA hf, fun k' => ?_⟩
  show lk (pt _ _ _ _) k' = (upd _ _ _ k').map _
  rw [lk_pt, h.hp]
  unfold upd
  split <;> rfl
theorem bind_more {x : Hx} (h : x.Ok) (k : NV) (lab : Nat) (cs : List C) (sp : List (List LV)) (hl : cs.length ≤ 1048576) (hf : ∀ c ∈ cs, c.fine) : ∃ (y : Hx) (e : Int), y.Ok ∧ moreM x.M y.M ∧ Gives env6 236 [.optr 1 0, nm k.1 k.2, sl5 false lab cs sp] (obH x.c x.es) 0 (.int .i64 e, obH y.c y.es) := by
  by_cases hA : Acc x.M k cs
  · refine ⟨_, 0, h.put hA hf, fun k' u hu => ?_, bindP_yes h.p k lab cs sp hl hf hA 0 (Nat.le_refl _)⟩
    show upd _ _ _ k' = _
    unfold upd
    split
    · rename_i e; rw [e, hA.2.2.2.1] at hu; cases hu
    · exact hu
  · obtain ⟨e, hg⟩ := bindP_no h.p k lab cs sp hl hf hA 0
    exact ⟨x, e, h, fun _ _ h => h, hg⟩
theorem fine_num (ns : List Int) : ∀ t ∈ numsT ns, t.fine := by
  intro t ht
  obtain ⟨n, _, rfl⟩ := List.mem_map.1 ht
  refine ⟨by show 1 ≤ _; omega, fun c hc => ?_⟩
  have : c = cInt n := by simpa [numT] using hc
  rw [this]; exact fineInt n
theorem fine_var (m : Nat) : ∀ t ∈ varsN m, t.fine := by
  intro t ht
  obtain ⟨n, _, rfl⟩ := List.mem_map.1 ht
  refine ⟨by show 1 ≤ _; omega, fun c hc => ?_⟩
  have : c = cVar 0 n := by simpa [varT] using hc
  rw [this]; exact fineVar 0 n
theorem sub_fine {ts : List T1} (ht : ∀ t ∈ ts, t.fine) {cs : List C} (hf : ∀ c ∈ cs, c.fine) : ∀ c ∈ (putR cs ts).1, c.fine := by
  unfold putR
  split
  · intro c hc; cases hc
  · split
    · intro c hc; cases hc
    · split
      · intro c hc; cases hc
      · intro c hc
        obtain ⟨d, hd, h⟩ := List.mem_flatMap.1 hc
        unfold subC at h
        split at h
        · split at h
          · rename_i t ht'
            exact (ht t (List.mem_of_getElem? ht')).2 c h
          · cases h
        · rw [List.mem_singleton] at h; rw [h]; exact hf d hd
def valV (n o : Int) (u : List NV) : LV := .tup [.int .i64 n, .int .u8 o, sl2 false 0 u []]
theorem valV_noRef (n o : Int) (u : List NV) (k : Nat) : (valV n o u).noRef k = true := by
  simp only [valV, LV.noRef, LV.noRefs, noRefss_n, LV.noRefss, Bool.and_self]
theorem fin_ok {x : Hx} (hx : x.Ok) {a b : List C} (hA : Al (Rc x.M) a b) (hl : a.length ≤ 256) (hfa : ∀ c ∈ a, c.fine) (hfb : ∀ c ∈ b, c.fine) (k : NV) (lab : Nat) (ms : List C) (s3 : List (List LV)) (hml : ms.length ≤ 1048576) (hmf : ∀ c ∈ ms, c.fine) : ∃ (n o : Int) (u : List NV) (n' o' : Int) (u' : List NV) (y : Hx) (e : Int), (1 ≤ o ∧ o ≤ 3) ∧ (o = 3 ∨ (o' = o ∧ n' = n)) ∧ (∀ pb, Gives envT 217 [.optr 1 0, sl5 false 0 a []] (obH x.c x.es) pb (valV n o u, obH x.c x.es)) ∧ (∀ pb, Gives envT 217 [.optr 1 0, sl5 false 0 b []] (obH x.c x.es) pb (valV n o u, obH x.c x.es)) ∧ Gives envT 236 [.optr 1 0, nm k.1 k.2, sl5 false lab ms s3] (obH x.c x.es) 0 (.int .i64 e, obH y.c y.es) ∧ (∀ pb, Gives envT 217 [.optr 1 0, sl5 false 0 a []] (obH y.c y.es) pb (valV n' o' u', obH y.c y.es)) := by
  have hs0 : spOk [] := fun n => by simp [LV.noRefss]
  have hPx : PtrP (obH x.c x.es) (.optr 1 0) x.M := .inr ⟨1, 0, _, _, rfl, hx.p⟩
  obtain ⟨y, e, hy, hmore, gB⟩ := bind_more hx k lab ms s3 hml hmf
  have hPy : PtrP (obH y.c y.es) (.optr 1 0) y.M := .inr ⟨1, 0, _, _, rfl, hy.p⟩
  obtain ⟨xa, va, ga⟩ := valuesP_ok hx.mok hPx.ptr (fun k pb => value_ok hPx k pb) a (by omega) hfa
  obtain ⟨xb, vb, gb⟩ := valuesP_ok hx.mok hPx.ptr (fun k pb => value_ok hPx k pb) b (by have := hA.len; omega) hfb
  obtain ⟨xc, vc, gc⟩ := valuesP_ok hy.mok hPy.ptr (fun k pb => value_ok hPy k pb) a (by omega) hfa
  have e1 := top_same hA va vb
  subst e1
  exact ⟨nz xa, outZ xa.2.1 xa.2.2, uz xa, nz xc, outZ xc.2.1 xc.2.2, uz xc, y, e, out_range _ _, top_more hmore va vc, fun pb => (ga 0 [] hs0 pb).le le6T, fun pb => (gb 0 [] hs0 pb).le le6T, gB.le le6T, fun pb => (gc 0 [] hs0 pb).le le6T⟩
theorem sums_law (cs : List C) (s1 : List (List LV)) (vs : List Int) (s2 : List (List LV)) (k : NV) (lab : Nat) (ms : List C) (s3 : List (List LV)) (hl : cs.length ≤ 1048576) (hf : ∀ c ∈ cs, c.fine) (hv : vs.length ≤ 1048576) (hml : ms.length ≤ 1048576) (hmf : ∀ c ∈ ms, c.fine) : ∃ ob', Gives envT 593 [sl5 false 0 cs s1, .sl false 0 1 (vs.map zrow) s2, .agg [.int .i64 k.1, .int .i64 k.2, sl5 false lab ms s3]] [] 0 (.bool true, ob') := by
  have hlv : (vs.map zrow).length = vs.length := by simp
  have hnl : (nums vs).length = min 8 vs.length := by unfold nums; rw [List.length_map, List.length_take]
  have hns := nums_small vs
  suffices h : ∃ r ob', r = .bool true ∧ Gives envT 593 [sl5 false 0 cs s1, .sl false 0 1 (vs.map zrow) s2, .agg [.int .i64 k.1, .int .i64 k.2, sl5 false lab ms s3]] [] 0 (r, ob') by
    obtain ⟨r, ob', rfl, hg⟩ := h
    exact ⟨ob', hg⟩
  refine gives_codeQ (Q := fun r _ => r = .bool true) (f := tf593) rfl ?_
  conv => whnf
  refine ⟨_, _, (newP_ok _ _).le le6T, fun e => (nomatch e), ?_⟩
  conv => whnf
  refine loop_x (V := fun i : Nat × Hx => [(8, .val (sl1 true 0 (numsT ((nums vs).take i.1)) [])), (9, .val (.int .i64 i.1))]) (O := fun i => obH i.2.c i.2.es) (m := fun i => (nums vs).length - i.1) (P := fun i => i.1 ≤ (nums vs).length ∧ i.2.Ok ∧ (∀ (j : Nat) (n : Int), j < i.1 → (nums vs)[j]? = some n → i.2.M (0, (j : Int)) = some [cInt n]) ∧ ∀ j : Nat, i.1 ≤ j → i.2.M (0, (j : Int)) = none) ?_ (0, ⟨fun _ => none, 0, []⟩) ⟨Nat.zero_le _, ⟨mok_nil, fun _ => rfl⟩, fun j n h => by omega, fun _ _ => rfl⟩ rfl
  rintro R ⟨i, x⟩ ⟨hi, hx, hM1, hM2⟩ hN hE hR
  dsimp only at hi hx hM1 hM2
  conv => whnf
  refine sel_split (fun h => ?_) (fun h => ?_)
  · conv => whnf
    have h := of_decide_eq_true h
    rw [hlv] at h
    refine sel_split (fun h8 => ?_) (fun h8 => ?_)
    · conv => whnf
      have h8 : (i : Int) < 8 := of_decide_eq_true h8
      have hil : i < (nums vs).length := by rw [hnl]; omega
      obtain ⟨v, hvi⟩ : ∃ v, vs[i]? = some v := ⟨_, List.getElem?_eq_getElem (show i < vs.length by omega)⟩
      have hni : (nums vs)[i]? = some (wh v - 500) := by
        unfold nums
        rw [List.getElem?_map, List.getElem?_take, if_pos (by omega), hvi]; rfl
      have hwr := wh_range v
      have hsm := hns _ (List.mem_of_getElem? hni)
      have e500 : IntKind.i64.wrap (wh v - 500) = wh v - 500 := by rw [wrap64] <;> omega
      have e : IntKind.i64.wrap ((i : Int) + 1) = ((i + 1 : Nat) : Int) := by rw [wrap64] <;> omega
      have gI : ∀ ob pb, Gives envT 9 [.int .i64 (wh v - 500)] ob pb (sl5 true 0 [cInt (wh v - 500)] [], ob) := fun ob pb => ((ofInt_ok (wh v - 500) ob pb true (by simp [okInt hsm])).le le16).le le6T
      have hf1 : ∀ c ∈ [cInt (wh v - 500)], c.fine := by
        intro c hc
        rw [List.mem_singleton] at hc
        rw [hc]; exact fineInt _
      have hA : Acc x.M (0, (i : Int)) [cInt (wh v - 500)] := by
        refine ⟨by show (0 : Int) ≤ 0; omega, okVar i, ⟨right_num hsm, ?_⟩, hM2 i (Nat.le_refl _), ?_⟩
        · intro c hc
          have : c = cInt (wh v - 500) := by simpa using hc
          rw [this]; exact fun h => (nomatch h.1)
        · intro c r e hk
          injection e with e1 e2
          rw [← e1] at hk; cases hk
      have gB := (bindP_yes hx.p (0, (i : Int)) 0 [cInt (wh v - 500)] [] (by show 1 ≤ _; omega) hf1 hA 0 (Nat.le_refl _)).le le6T
      refine ⟨_, ⟨by omega, idx_z hvi⟩, ?_⟩
      conv => whnf
      refine ⟨_, _, which_ok v _ _, fun _ => rfl, ?_⟩
      conv => whnf
      rw [e500]
      refine ⟨_, _, gI _ _, fun _ => noRef5 _ _ _ _, ?_⟩
      conv => whnf
      refine ⟨_, _, gB, fun e => (nomatch e), ?_⟩
      conv => whnf
      refine ⟨_, _, gI _ _, fun _ => noRef5 _ _ _ _, ?_⟩
      conv => whnf
      refine ⟨(numsT ((nums vs).take (i + 1))).map T1.row, ⟨.inl rfl, ?_, ?_⟩, ?_⟩
      · show (((numsT ((nums vs).take i)).map T1.row).length + 1) * 24 ≤ _
        simp only [numsT, List.length_map, List.length_take]; omega
      · unfold numsT
        rw [List.take_add_one, hni, List.map_append, List.map_append]; rfl
      conv => whnf
      refine hN (i + 1, ⟨upd x.M (0, (i : Int)) [cInt (wh v - 500)], ck x.es (0, (i : Int)) x.c, pt x.es (0, (i : Int)) (sl5 false 0 [cInt (wh v - 500)] []) x.c⟩) _ ⟨by dsimp only; omega, hx.put hA hf1, ?_, ?_⟩ (by dsimp only; omega) ?_
      · intro j n hj hn
        dsimp only at hj ⊢
        unfold upd
        by_cases hji : j = i
        · subst hji
          rw [hni] at hn; cases hn
          rw [if_pos rfl]
        · rw [if_neg (by intro e; injection e with _ e; omega)]
          exact hM1 j n (by omega) hn
      · intro j hj
        dsimp only at hj ⊢
        unfold upd
        rw [if_neg (by intro e; injection e with _ e; omega)]
        exact hM2 j (by omega)
      · dsimp only
        rw [← e]; rfl
    · conv => whnf
      have h8 : ¬ (i : Int) < 8 := of_decide_eq_false h8
      have hil : i = (nums vs).length := by rw [hnl] at hi ⊢; omega
      subst hil
      refine hE _ _ ?_
      rw [List.take_length]
      conv => whnf
      have hlN : ((numsT (nums vs)).map T1.row).length = (nums vs).length := by simp [numsT]
      have gV : ∀ (j : Nat) ob pb, Gives envT 14 [nm 0 j] ob pb (sl5 true 0 [cVar 0 j] [], ob) := fun j ob pb => ((ofVar_ok 0 j ob pb true (by simp [okVar j])).le le16).le le6T
      have hMa : ∀ (i : Nat) (n : Int), (nums vs)[i]? = some n → x.M (0, (i : Int)) = some [cInt n] := fun i n h => hM1 i n (List.getElem?_eq_some_iff.1 h).1 h
      have hput := put_rel hns hMa cs
      have gPa : ∀ ob pb, Gives envT 20 [sl5 false 0 cs s1, sl1 false 0 (varsN (nums vs).length) []] ob pb (makeV (putR cs (varsN (nums vs).length)), ob) := fun ob pb => ((put_ok 0 0 cs s1 _ [] (by omega) hf (by simp only [varsN, List.length_map, List.length_range]; omega) (fine_var _) ob pb).le le16).le le6T
      have gPb : ∀ ob pb, Gives envT 20 [sl5 false 0 cs s1, sl1 false 0 (numsT (nums vs)) []] ob pb (makeV (putR cs (numsT (nums vs))), ob) := fun ob pb => ((put_ok 0 0 cs s1 _ [] (by omega) hf (by simp only [numsT, List.length_map]; omega) (fine_num _) ob pb).le le16).le le6T
      have hfa := sub_fine (fine_var (nums vs).length) hf
      have hfb := sub_fine (fine_num (nums vs)) hf
      have hna : ∀ n, (makeV (putR cs (varsN (nums vs).length))).noRef n = true := fun n => by simp only [makeV, LV.noRef, LV.noRefs, noRef_rows, LV.noRefss, Bool.and_self]
      have hnb : ∀ n, (makeV (putR cs (numsT (nums vs)))).noRef n = true := fun n => by simp only [makeV, LV.noRef, LV.noRefs, noRef_rows, LV.noRefss, Bool.and_self]
      generalize putR cs (varsN (nums vs).length) = ra at gPa hput hfa hna
      generalize putR cs (numsT (nums vs)) = rb at gPb hput hfb hnb
      obtain ⟨a, ea⟩ := ra
      obtain ⟨b, eb⟩ := rb
      unfold makeV at gPa gPb hna hnb
      dsimp only at gPa gPb hput hfa hfb hna hnb
      obtain ⟨hab, hrel⟩ := hput
      have hPP : PtrP (obH x.c x.es) (.optr 1 0) x.M := .inr ⟨1, 0, _, _, rfl, hx.p⟩
      have hs0 : spOk [] := fun n => by simp [LV.noRefss]
      have hfin : eb = 0 → ∃ (n o : Int) (u : List NV) (n' o' : Int) (u' : List NV) (y : Hx) (e : Int), (1 ≤ o ∧ o ≤ 3) ∧ (o = 3 ∨ (o' = o ∧ n' = n)) ∧ (∀ pb, Gives envT 217 [.optr 1 0, sl5 false 0 a []] (obH x.c x.es) pb (valV n o u, obH x.c x.es)) ∧ (∀ pb, Gives envT 217 [.optr 1 0, sl5 false 0 b []] (obH x.c x.es) pb (valV n o u, obH x.c x.es)) ∧ Gives envT 236 [.optr 1 0, nm k.1 k.2, sl5 false lab ms s3] (obH x.c x.es) 0 (.int .i64 e, obH y.c y.es) ∧ (∀ pb, Gives envT 217 [.optr 1 0, sl5 false 0 a []] (obH y.c y.es) pb (valV n' o' u', obH y.c y.es)) := fun h0 => fin_ok hx (hrel h0).1 (hrel h0).2 hfa hfb k lab ms s3 hml hmf
      refine loop_v (V := fun i : Nat => [(11, sl1 true 0 (varsN i) []), (12, .int .i64 i)]) (O := fun _ => obH x.c x.es) (m := fun i => (nums vs).length - i) (P := fun i => i ≤ (nums vs).length) ?_ 0 (Nat.zero_le _) rfl
      intro R2 j hj hN2 hE2 hR2
      conv => whnf
      refine sel_split (fun h9 => ?_) (fun h9 => ?_)
      · conv => whnf
        have h9 := of_decide_eq_true h9
        rw [hlN] at h9
        have e : IntKind.i64.wrap ((j : Int) + 1) = ((j + 1 : Nat) : Int) := by rw [wrap64] <;> omega
        refine ⟨_, _, gV j _ _, fun _ => noRef5 _ _ _ _, ?_⟩
        conv => whnf
        refine ⟨(varsN (j + 1)).map T1.row, ⟨.inl rfl, ?_, ?_⟩, ?_⟩
        · show (((varsN j).map T1.row).length + 1) * 24 ≤ _
          simp only [varsN, List.length_map, List.length_range]; omega
        · unfold varsN
          rw [List.range_succ, List.map_append, List.map_append]; rfl
        conv => whnf
        refine hN2 (j + 1) _ (by omega) (by omega) ?_
        rw [← e]; rfl
      · conv => whnf
        have h9 := of_decide_eq_false h9
        rw [hlN] at h9
        have : j = (nums vs).length := by omega
        subst this
        refine hE2 _ _ ?_
        conv => whnf
        refine ⟨_, _, gPa _ _, fun _ => hna _, ?_⟩
        conv => whnf
        refine ⟨_, _, gPb _ _, fun _ => hnb _, ?_⟩
        conv => whnf
        refine sel_split (fun h10 => ?_) (fun h10 => ?_)
        · conv => whnf
          refine ⟨rfl, ?_⟩
          show LV.bool (decide (ea = eb)) = _
          rw [hab]; simp
        · conv => whnf
          refine sel_split (fun h11 => ?_) (fun h11 => ?_)
          · conv => whnf
            refine ⟨rfl, ?_⟩
            show LV.bool (decide (ea = eb)) = _
            rw [hab]; simp
          · conv => whnf
            have h11 : eb = 0 := by simpa using h11
            obtain ⟨n, o, u, n', o', u', y, e, ho, hs, g1, g2, g3, g4⟩ := hfin h11
            unfold valV at g1 g2 g4
            refine ⟨_, _, g1 _, fun _ => valV_noRef n o u _, ?_⟩
            conv => whnf
            refine ⟨_, _, g2 _, fun _ => valV_noRef n o u _, ?_⟩
            conv => whnf
            repeat' first
              | (refine sel_f (by simp; omega) ?_; conv => whnf)
              | (refine sel_f (by simp) ?_; conv => whnf)
            refine ⟨_, _, g3, fun e => (nomatch e), ?_⟩
            conv => whnf
            refine ⟨_, _, g4 _, fun _ => valV_noRef n' o' u' _, ?_⟩
            conv => whnf
            refine sel_split (fun h12 => ?_) (fun h12 => ?_)
            · conv => whnf
              exact ⟨rfl, rfl⟩
            · conv => whnf
              have h12 : o ≠ 3 := by simpa using h12
              obtain ⟨rfl, rfl⟩ := hs.resolve_left h12
              refine sel_t (by simp) ?_
              conv => whnf
              refine ⟨rfl, ?_⟩
              simp [tupE]
  · conv => whnf
    have h := of_decide_eq_false h
    rw [hlv] at h
    have hil : i = (nums vs).length := by rw [hnl] at hi ⊢; omega
    subst hil
    refine hE _ _ ?_
    rw [List.take_length]
    conv => whnf
    have hlN : ((numsT (nums vs)).map T1.row).length = (nums vs).length := by simp [numsT]
    have gV : ∀ (j : Nat) ob pb, Gives envT 14 [nm 0 j] ob pb (sl5 true 0 [cVar 0 j] [], ob) := fun j ob pb => ((ofVar_ok 0 j ob pb true (by simp [okVar j])).le le16).le le6T
    have hMa : ∀ (i : Nat) (n : Int), (nums vs)[i]? = some n → x.M (0, (i : Int)) = some [cInt n] := fun i n h => hM1 i n (List.getElem?_eq_some_iff.1 h).1 h
    have hput := put_rel hns hMa cs
    have gPa : ∀ ob pb, Gives envT 20 [sl5 false 0 cs s1, sl1 false 0 (varsN (nums vs).length) []] ob pb (makeV (putR cs (varsN (nums vs).length)), ob) := fun ob pb => ((put_ok 0 0 cs s1 _ [] (by omega) hf (by simp only [varsN, List.length_map, List.length_range]; omega) (fine_var _) ob pb).le le16).le le6T
    have gPb : ∀ ob pb, Gives envT 20 [sl5 false 0 cs s1, sl1 false 0 (numsT (nums vs)) []] ob pb (makeV (putR cs (numsT (nums vs))), ob) := fun ob pb => ((put_ok 0 0 cs s1 _ [] (by omega) hf (by simp only [numsT, List.length_map]; omega) (fine_num _) ob pb).le le16).le le6T
    have hfa := sub_fine (fine_var (nums vs).length) hf
    have hfb := sub_fine (fine_num (nums vs)) hf
    have hna : ∀ n, (makeV (putR cs (varsN (nums vs).length))).noRef n = true := fun n => by simp only [makeV, LV.noRef, LV.noRefs, noRef_rows, LV.noRefss, Bool.and_self]
    have hnb : ∀ n, (makeV (putR cs (numsT (nums vs)))).noRef n = true := fun n => by simp only [makeV, LV.noRef, LV.noRefs, noRef_rows, LV.noRefss, Bool.and_self]
    generalize putR cs (varsN (nums vs).length) = ra at gPa hput hfa hna
    generalize putR cs (numsT (nums vs)) = rb at gPb hput hfb hnb
    obtain ⟨a, ea⟩ := ra
    obtain ⟨b, eb⟩ := rb
    unfold makeV at gPa gPb hna hnb
    dsimp only at gPa gPb hput hfa hfb hna hnb
    obtain ⟨hab, hrel⟩ := hput
    have hPP : PtrP (obH x.c x.es) (.optr 1 0) x.M := .inr ⟨1, 0, _, _, rfl, hx.p⟩
    have hs0 : spOk [] := fun n => by simp [LV.noRefss]
    have hfin : eb = 0 → ∃ (n o : Int) (u : List NV) (n' o' : Int) (u' : List NV) (y : Hx) (e : Int), (1 ≤ o ∧ o ≤ 3) ∧ (o = 3 ∨ (o' = o ∧ n' = n)) ∧ (∀ pb, Gives envT 217 [.optr 1 0, sl5 false 0 a []] (obH x.c x.es) pb (valV n o u, obH x.c x.es)) ∧ (∀ pb, Gives envT 217 [.optr 1 0, sl5 false 0 b []] (obH x.c x.es) pb (valV n o u, obH x.c x.es)) ∧ Gives envT 236 [.optr 1 0, nm k.1 k.2, sl5 false lab ms s3] (obH x.c x.es) 0 (.int .i64 e, obH y.c y.es) ∧ (∀ pb, Gives envT 217 [.optr 1 0, sl5 false 0 a []] (obH y.c y.es) pb (valV n' o' u', obH y.c y.es)) := fun h0 => fin_ok hx (hrel h0).1 (hrel h0).2 hfa hfb k lab ms s3 hml hmf
    refine loop_v (V := fun i : Nat => [(11, sl1 true 0 (varsN i) []), (12, .int .i64 i)]) (O := fun _ => obH x.c x.es) (m := fun i => (nums vs).length - i) (P := fun i => i ≤ (nums vs).length) ?_ 0 (Nat.zero_le _) rfl
    intro R2 j hj hN2 hE2 hR2
    conv => whnf
    refine sel_split (fun h9 => ?_) (fun h9 => ?_)
    · conv => whnf
      have h9 := of_decide_eq_true h9
      rw [hlN] at h9
      have e : IntKind.i64.wrap ((j : Int) + 1) = ((j + 1 : Nat) : Int) := by rw [wrap64] <;> omega
      refine ⟨_, _, gV j _ _, fun _ => noRef5 _ _ _ _, ?_⟩
      conv => whnf
      refine ⟨(varsN (j + 1)).map T1.row, ⟨.inl rfl, ?_, ?_⟩, ?_⟩
      · show (((varsN j).map T1.row).length + 1) * 24 ≤ _
        simp only [varsN, List.length_map, List.length_range]; omega
      · unfold varsN
        rw [List.range_succ, List.map_append, List.map_append]; rfl
      conv => whnf
      refine hN2 (j + 1) _ (by omega) (by omega) ?_
      rw [← e]; rfl
    · conv => whnf
      have h9 := of_decide_eq_false h9
      rw [hlN] at h9
      have : j = (nums vs).length := by omega
      subst this
      refine hE2 _ _ ?_
      conv => whnf
      refine ⟨_, _, gPa _ _, fun _ => hna _, ?_⟩
      conv => whnf
      refine ⟨_, _, gPb _ _, fun _ => hnb _, ?_⟩
      conv => whnf
      refine sel_split (fun h10 => ?_) (fun h10 => ?_)
      · conv => whnf
        refine ⟨rfl, ?_⟩
        show LV.bool (decide (ea = eb)) = _
        rw [hab]; simp
      · conv => whnf
        refine sel_split (fun h11 => ?_) (fun h11 => ?_)
        · conv => whnf
          refine ⟨rfl, ?_⟩
          show LV.bool (decide (ea = eb)) = _
          rw [hab]; simp
        · conv => whnf
          have h11 : eb = 0 := by simpa using h11
          obtain ⟨n, o, u, n', o', u', y, e, ho, hs, g1, g2, g3, g4⟩ := hfin h11
          unfold valV at g1 g2 g4
          refine ⟨_, _, g1 _, fun _ => valV_noRef n o u _, ?_⟩
          conv => whnf
          refine ⟨_, _, g2 _, fun _ => valV_noRef n o u _, ?_⟩
          conv => whnf
          repeat' first
            | (refine sel_f (by simp; omega) ?_; conv => whnf)
            | (refine sel_f (by simp) ?_; conv => whnf)
          refine ⟨_, _, g3, fun e => (nomatch e), ?_⟩
          conv => whnf
          refine ⟨_, _, g4 _, fun _ => valV_noRef n' o' u' _, ?_⟩
          conv => whnf
          refine sel_split (fun h12 => ?_) (fun h12 => ?_)
          · conv => whnf
            exact ⟨rfl, rfl⟩
          · conv => whnf
            have h12 : o ≠ 3 := by simpa using h12
            obtain ⟨rfl, rfl⟩ := hs.resolve_left h12
            refine sel_t (by simp) ?_
            conv => whnf
            refine ⟨rfl, ?_⟩
            simp [tupE]
end Tree.HT
