/- Layer 1: terms in the places of a clause's variables, what E answers (the program's and the document's). -/
import Derived.Test.YtfcmmgldkanliaaDoorL1Vars
set_option autoImplicit false
set_option linter.unusedVariables false
set_option linter.unusedSimpArgs false
namespace Tree
open Go
set_option maxHeartbeats 4000000
set_option maxRecDepth 100000
def locC (c : C) : Prop := c.k = 4 ∧ c.node = -1
def wrongT (t : T1) : Prop := t.cs ≠ [] ∧ ¬ RightP t.cs
theorem wrong_ok (t : T1) (hf : t.fine) (ob : Obs) (pb : Nat) (r : Bool) (hr : r = true ↔ wrongT t) : Gives env1 41 t.row ob pb (.bool r, ob) := by
  have hlen : (t.cs.map C.row).length = t.cs.length := by simp
  obtain ⟨q, hq⟩ := boolOf (RightP t.cs)
  refine gives_code (f := tf41) rfl ?_
  conv => whnf
  refine sel_split (fun h => ?_) (fun h => ?_)
  · conv => whnf
    have h := of_decide_eq_true h
    rw [hlen] at h
    refine ⟨_, _, right_ok t.lab t.cs t.sp hf.1 hf.2 ob _ q hq, fun _ => rfl, ?_⟩
    conv => whnf
    refine ⟨rfl, bool_of hr ?_, rfl⟩
    unfold wrongT
    rw [← hq]
    have hne : t.cs ≠ [] := fun e => by rw [e] at h; simp at h
    simp [hne]
  · conv => whnf
    have h := of_decide_eq_false h
    rw [hlen] at h
    refine ⟨rfl, bool_of hr ⟨fun e => (nomatch e), fun hw => absurd (List.length_eq_zero_iff.1 (by omega)) hw.1⟩, rfl⟩
theorem loc_ok (c : C) (ob : Obs) (pb : Nat) (r : Bool) (hr : r = true ↔ locC c) : Gives env1 44 [c.lv] ob pb (.bool r, ob) := by
  refine gives_code (f := tf44) rfl ?_
  conv => whnf
  refine sel_split (fun h => ?_) (fun h => ?_)
  · conv => whnf
    refine ⟨rfl, bool_of hr ?_, rfl⟩
    unfold locC; simp at h; simp [h]
  · conv => whnf
    refine ⟨rfl, bool_of hr ?_, rfl⟩
    unfold locC; simp at h; simp [h]
def GlobalP (cs : List C) : Prop := RightP cs ∧ ∀ c ∈ cs, ¬ locC c
theorem global_ok (lab : Nat) (cs : List C) (sp : List (List LV)) (hl : cs.length ≤ 4611686018427387904) (hf : ∀ c ∈ cs, c.fine) (ob : Obs) (pb : Nat) (r : Bool) (hr : r = true ↔ GlobalP cs) : Gives env1 25 [sl5 false lab cs sp] ob pb (.bool r, ob) := by
  obtain ⟨q, hq⟩ := boolOf (RightP cs)
  obtain ⟨g, hg⟩ := boolOf (∃ c ∈ cs, locC c)
  refine gives_code (f := tf25) rfl ?_
  conv => whnf
  refine ⟨_, _, right_ok lab cs sp hl hf ob _ q hq, fun _ => rfl, ?_⟩
  conv => whnf
  refine sel_split (fun h => ?_) (fun h => ?_)
  · conv => whnf
    refine ⟨_, _, anyFn_ok 44 lab cs sp locC hl (fun c hc ob pb r hr => loc_ok c ob pb r hr) ob _ g hg, fun _ => rfl, ?_⟩
    conv => whnf
    refine ⟨rfl, bool_of hr ?_, rfl⟩
    have : (!g) = true ↔ ∀ c ∈ cs, ¬ locC c := by
      rw [Bool.not_eq_true', ← Bool.not_eq_true, hg]
      constructor
      · intro h c hc hn; exact h ⟨c, hc, hn⟩
      · rintro h ⟨c, hc, hn⟩; exact h c hc hn
    rw [this]
    exact ⟨fun h2 => ⟨hq.1 h, h2⟩, fun h2 => h2.2⟩
  · conv => whnf
    refine ⟨rfl, bool_of hr ⟨fun e => (nomatch e), fun hw => by rw [hq.2 hw.1] at h; cases h⟩, rfl⟩
def S26 (v : LV) (i : Int) (ob : Obs) : WSt := ⟨.val v :: .val .undef :: .val .undef :: .val (.int .i64 i) :: List.replicate 24 (.val .undef), ob, []⟩
theorem refGlobal_ok (lab : Nat) (cs : List C) (sp : List (List LV)) (hl : cs.length ≤ 4611686018427387904) (hf : ∀ c ∈ cs, c.fine) (ob : Obs) (pb : Nat) (r : Bool) (hr : r = true ↔ GlobalP cs) : Gives env1 26 [sl5 false lab cs sp] ob pb (.bool r, ob) := by
  have hlen : (cs.map C.row).length = cs.length := by simp
  obtain ⟨q, hq⟩ := boolOf (RightP cs)
  have no : ¬ GlobalP cs → LV.bool false = LV.bool r := fun h => bool_of hr ⟨fun e => (nomatch e), fun e => absurd e h⟩
  refine gives_code (f := tf26) rfl ?_
  conv => whnf
  refine ⟨_, _, refRight_ok lab cs sp hl hf ob _ q hq, fun _ => rfl, ?_⟩
  conv => whnf
  refine sel_split (fun h => ?_) (fun h => ?_)
  · conv => whnf
    exact ⟨rfl, no (fun hw => by rw [hq.2 hw.1] at h; cases h), rfl⟩
  · conv => whnf
    have hR := hq.1 (by simpa using h)
    refine loop_abs (S := fun i : Nat => S26 (sl5 false lab cs sp) i ob) (m := fun i => cs.length - i) (P := fun i => i ≤ cs.length ∧ ∀ k d, k < i → cs[k]? = some d → ¬ locC d) ?_ 0 ⟨Nat.zero_le _, fun k s h => by omega⟩ rfl
    rintro R i ⟨hi, hP⟩ hN hE hRt
    conv => whnf
    refine sel_split (fun h => ?_) (fun h => ?_)
    · conv => whnf
      have h := of_decide_eq_true h
      rw [hlen] at h
      obtain ⟨c, hc⟩ : ∃ c, cs[i]? = some c := ⟨_, List.getElem?_eq_getElem (show i < cs.length by omega)⟩
      have hcm := List.mem_of_getElem? hc
      have hok := hR.2.2.2 c hcm
      have e : IntKind.i64.wrap ((i : Int) + 1) = ((i + 1 : Nat) : Int) := by rw [wrap64] <;> omega
      have next : ¬ locC c → ∀ k d, k < i + 1 → cs[k]? = some d → ¬ locC d := by
        intro hn k d hk hd
        by_cases hki : k = i
        · subst hki; rw [hc] at hd; cases hd; exact hn
        · exact hP k d (by omega) hd
      refine ⟨_, ⟨by omega, idx_row hc⟩, ?_⟩
      conv => whnf
      refine sel_split (fun h2 => ?_) (fun h2 => ?_)
      · conv => whnf
        have h2 : c.k = 4 := by simpa using h2
        refine ⟨_, ⟨by omega, idx_row hc⟩, ?_⟩
        conv => whnf
        refine sel_split (fun h3 => ?_) (fun h3 => ?_)
        · conv => whnf
          have h3 := of_decide_eq_true h3
          refine hRt _ ?_
          conv => whnf
          refine ⟨rfl, no (fun hw => hw.2 c hcm ⟨h2, ?_⟩), rfl⟩
          rcases hok with g | g | g | g <;> omega
        · conv => whnf
          have h3 := of_decide_eq_false h3
          refine hN (i + 1) _ ⟨by omega, next (fun hn => by have := hn.2; omega)⟩ (by omega) ?_
          rw [← e]; rfl
      · conv => whnf
        have h2 : c.k ≠ 4 := by simpa using h2
        refine hN (i + 1) _ ⟨by omega, next (fun hn => h2 hn.1)⟩ (by omega) ?_
        rw [← e]; rfl
    · conv => whnf
      have h := of_decide_eq_false h
      rw [hlen] at h
      refine hE _ _ ?_
      conv => whnf
      refine ⟨rfl, bool_of hr ⟨fun _ => ⟨hR, fun c hc => ?_⟩, fun _ => rfl⟩, rfl⟩
      obtain ⟨k, hk, e⟩ := List.getElem_of_mem hc
      exact hP k c (by omega) (by rw [List.getElem?_eq_getElem hk, e])
/-! ### Put -/
def missN (ts : List T1) (n : Int) : Prop := n ≥ ts.length ∨ ∃ t, ts[n.toNat]? = some t ∧ t.cs = []
def missC (ts : List T1) (c : C) : Prop := locC c ∧ missN ts c.num
open Classical in
noncomputable def subC (ts : List T1) (c : C) : List C := if locC c then (match ts[c.num.toNat]? with | some t => t.cs | none => []) else [c]
open Classical in
noncomputable def putR (cs : List C) (ts : List T1) : List C × Int :=
  if ¬ RightP cs ∨ ∃ t ∈ ts, wrongT t then ([], 6)
  else if ∃ c ∈ cs, missC ts c then ([], 4)
  else if (cs.flatMap (subC ts)).length > 256 then ([], 5) else (cs.flatMap (subC ts), 0)
theorem subC_len (ts : List T1) (hw : ∀ t ∈ ts, ¬ wrongT t) (c : C) : (subC ts c).length ≤ 256 := by
  unfold subC
  split
  · split
    · rename_i t ht
      by_cases h0 : t.cs = []
      · simp [h0]
      · exact (Classical.byContradiction fun hn => hw t (List.mem_of_getElem? ht) ⟨h0, hn⟩ : RightP t.cs).2.1
    · simp
  · simp
noncomputable def subN (ts : List T1) (cs : List C) (i : Nat) : List C := (cs.take i).flatMap (subC ts)
theorem subN_succ {ts : List T1} {cs : List C} {i : Nat} {c : C} (h : cs[i]? = some c) : subN ts cs (i + 1) = subN ts cs i ++ subC ts c := by
  unfold subN; rw [List.take_add_one, h]; simp
theorem subN_len (ts : List T1) (hw : ∀ t ∈ ts, ¬ wrongT t) : ∀ (l : List C), (l.flatMap (subC ts)).length ≤ 256 * l.length
  | [] => by simp
  | c :: l => by
    have h1 := subC_len ts hw c
    have h2 := subN_len ts hw l
    rw [List.flatMap_cons, List.length_append, List.length_cons]; omega
theorem mem_varsC : ∀ (cs : List C) (acc : List NV) (v : NV), v ∈ varsC acc cs ↔ v ∈ acc ∨ ∃ c ∈ cs, c.k = 4 ∧ (c.node, c.num) = v
  | [], acc, v => by simp [varsC]
  | c :: cs, acc, v => by
    have ih := mem_varsC cs (varC acc c) v
    have e : varsC acc (c :: cs) = varsC (varC acc c) cs := rfl
    rw [e, ih]
    have h1 : v ∈ varC acc c ↔ v ∈ acc ∨ (c.k = 4 ∧ (c.node, c.num) = v) := by
      unfold varC addN
      by_cases hk : c.k = 4
      · rw [if_pos hk]
        split
        · rename_i hm
          constructor
          · exact .inl
          · rintro (h | ⟨_, rfl⟩)
            · exact h
            · exact hm
        · rw [List.mem_append, List.mem_singleton]
          constructor
          · rintro (h | rfl)
            · exact .inl h
            · exact .inr ⟨hk, rfl⟩
          · rintro (h | ⟨_, rfl⟩)
            · exact .inl h
            · exact .inr rfl
      · rw [if_neg hk]
        constructor
        · exact .inl
        · rintro (h | ⟨h, _⟩)
          · exact h
          · exact absurd h hk
    rw [h1]
    constructor
    · rintro ((h | h) | ⟨d, hd, h⟩)
      · exact .inl h
      · exact .inr ⟨c, List.mem_cons_self .., h⟩
      · exact .inr ⟨d, List.mem_cons_of_mem _ hd, h⟩
    · rintro (h | ⟨d, hd, h⟩)
      · exact .inl (.inl h)
      · rcases List.mem_cons.1 hd with rfl | hd
        · exact .inl (.inr h)
        · exact .inr ⟨d, hd, h⟩
def S20 (v l ns : LV) (n : Nat) (i : Int) (ob : Obs) : WSt := ⟨.val v :: .val l :: List.replicate 20 (.val .undef) ++ .val ns :: .val (.int .i64 n) :: .val (.int .i64 i) :: List.replicate 55 (.val .undef), ob, []⟩
def S20b (l o v : LV) (n : Nat) (i : Int) (ob : Obs) : WSt := ⟨.val .undef :: .val l :: List.replicate 7 (.val .undef) ++ .val o :: List.replicate 38 (.val .undef) ++ .val v :: .val (.int .i64 n) :: .val (.int .i64 i) :: List.replicate 29 (.val .undef), ob, []⟩
theorem put_ok (l1 l2 : Nat) (cs : List C) (s1 : List (List LV)) (ts : List T1) (s2 : List (List LV)) (hl : cs.length ≤ 4611686018427387904) (hf : ∀ c ∈ cs, c.fine) (htl : ts.length ≤ 4611686018427387904) (htf : ∀ t ∈ ts, t.fine) (ob : Obs) (pb : Nat) :
    Gives env1 20 [sl5 false l1 cs s1, sl1 false l2 ts s2] ob pb (makeV (putR cs ts), ob) := by
  have hlen : (cs.map C.row).length = cs.length := by simp
  have htlen : (ts.map T1.row).length = ts.length := by simp
  obtain ⟨q, hq⟩ := boolOf (RightP cs)
  obtain ⟨g, hg⟩ := boolOf (∃ t ∈ ts, wrongT t)
  refine gives_code (f := tf20) rfl ?_
  conv => whnf
  refine ⟨_, _, right_ok l1 cs s1 hl hf ob _ q hq, fun _ => rfl, ?_⟩
  conv => whnf
  refine sel_split (fun h1 => ?_) (fun h1 => ?_)
  · conv => whnf
    refine ⟨rfl, ?_, rfl⟩
    have : putR cs ts = ([], 6) := by unfold putR; rw [if_pos (.inl (fun hR => by rw [hq.2 hR] at h1; cases h1))]
    rw [this]; rfl
  · conv => whnf
    have hR := hq.1 (by simpa using h1)
    refine ⟨_, _, hasT_ok 41 l2 ts s2 wrongT htl (fun t ht ob pb r hr => wrong_ok t (htf t ht) ob pb r hr) ob _ g hg, fun _ => rfl, ?_⟩
    conv => whnf
    refine sel_split (fun h2 => ?_) (fun h2 => ?_)
    · conv => whnf
      refine ⟨rfl, ?_, rfl⟩
      have : putR cs ts = ([], 6) := by unfold putR; rw [if_pos (.inr (hg.1 h2))]
      rw [this]; rfl
    · conv => whnf
      have hw : ∀ t ∈ ts, ¬ wrongT t := fun t ht hn => by rw [hg.2 ⟨t, ht, hn⟩] at h2; cases h2
      have hno : ¬ (¬ RightP cs ∨ ∃ t ∈ ts, wrongT t) := by
        rintro (h | ⟨t, ht, h⟩)
        · exact h hR
        · exact hw t ht h
      have hfl : ([⟨l1, cs, s1⟩] : List T1).flatMap T1.cs = cs := by simp
      have hv0 : varsT [] [⟨l1, cs, s1⟩] = varsC [] cs := rfl
      have hvl : (varsC [] cs).length ≤ 256 := by have := varsC_len cs []; have := hR.2.1; simp at *; omega
      refine ⟨_, _, vars_ok 0 [⟨l1, cs, s1⟩] [] (by simp) (by rw [hfl]; have := hR.2.1; omega) ob _, fun _ => noRef2 _ _ _ _, ?_⟩
      rw [hv0]
      have hnlen : ((varsC [] cs).map nrow).length = (varsC [] cs).length := by simp
      conv => whnf
      refine loop_abs (S := fun i : Nat => S20 (sl5 false l1 cs s1) (sl1 false l2 ts s2) (sl2 true 0 (varsC [] cs) []) ((varsC [] cs).map nrow).length i ob) (m := fun i => (varsC [] cs).length - i) (P := fun i => i ≤ (varsC [] cs).length ∧ ∀ k v, k < i → (varsC [] cs)[k]? = some v → ¬ (v.1 = -1 ∧ missN ts v.2)) ?_ 0 ⟨Nat.zero_le _, fun k s h => by omega⟩ rfl
      rintro R i ⟨hi, hP⟩ hN hE hRt
      conv => whnf
      refine sel_split (fun h => ?_) (fun h => ?_)
      · conv => whnf
        have h := of_decide_eq_true h
        rw [hnlen] at h
        obtain ⟨v, hv⟩ : ∃ c, (varsC [] cs)[i]? = some c := ⟨_, List.getElem?_eq_getElem (show i < (varsC [] cs).length by omega)⟩
        have e : IntKind.i64.wrap ((i : Int) + 1) = ((i + 1 : Nat) : Int) := by rw [wrap64] <;> omega
        obtain ⟨c, hcm, hck, hcv⟩ : ∃ c ∈ cs, c.k = 4 ∧ (c.node, c.num) = v := by
          have := (mem_varsC cs [] v).1 (List.mem_of_getElem? hv)
          simpa using this
        have hnum : 0 ≤ v.2 := by
          rw [← hcv]
          rcases hR.2.2.2 c hcm with g | g | g | g
          · omega
          · omega
          · omega
          · exact g.2.2.2.2.2
        have next : ¬ (v.1 = -1 ∧ missN ts v.2) → ∀ k u, k < i + 1 → (varsC [] cs)[k]? = some u → ¬ (u.1 = -1 ∧ missN ts u.2) := by
          intro hn k d hk hd
          by_cases hki : k = i
          · subst hki; rw [hv] at hd; cases hd; exact hn
          · exact hP k d (by omega) hd
        have bad : v.1 = -1 → missN ts v.2 → putR cs ts = ([], 4) := by
          intro e1 e2
          unfold putR
          rw [if_neg hno, if_pos ⟨c, hcm, ⟨hck, by rw [← e1, ← hcv]⟩, by rw [← hcv] at e2; exact e2⟩]
        refine ⟨_, ⟨by omega, idx_n hv⟩, ?_⟩
        conv => whnf
        refine sel_split (fun h3 => ?_) (fun h3 => ?_)
        · conv => whnf
          have h3 : v.1 = -1 := by simpa using h3
          refine sel_split (fun h4 => ?_) (fun h4 => ?_)
          · conv => whnf
            have h4 := of_decide_eq_true h4
            rw [htlen] at h4
            refine hRt _ ?_
            conv => whnf
            refine ⟨rfl, ?_, rfl⟩
            rw [bad h3 (.inl h4)]; rfl
          · conv => whnf
            have h4 := of_decide_eq_false h4
            rw [htlen] at h4
            obtain ⟨t, ht⟩ : ∃ t, ts[v.2.toNat]? = some t := ⟨_, List.getElem?_eq_getElem (show v.2.toNat < ts.length by omega)⟩
            have hclen : (t.cs.map C.row).length = t.cs.length := by simp
            refine ⟨_, ⟨hnum, idx_t ht⟩, ?_⟩
            conv => whnf
            refine sel_split (fun h5 => ?_) (fun h5 => ?_)
            · conv => whnf
              rw [hclen] at h5
              refine hRt _ ?_
              conv => whnf
              refine ⟨rfl, ?_, rfl⟩
              rw [bad h3 (.inr ⟨t, ht, List.length_eq_zero_iff.1 (by simp at h5; simp [h5])⟩)]; rfl
            · conv => whnf
              rw [hclen] at h5
              refine hN (i + 1) _ ⟨by omega, next (fun hn => ?_)⟩ (by omega) ?_
              · rcases hn.2 with g | ⟨u, hu, hu2⟩
                · omega
                · rw [ht] at hu; cases hu; rw [hu2] at h5; simp at h5
              · rw [← e]; rfl
        · conv => whnf
          have h3 : v.1 ≠ -1 := by simpa using h3
          refine hN (i + 1) _ ⟨by omega, next (fun hn => h3 hn.1)⟩ (by omega) ?_
          rw [← e]; rfl
      · conv => whnf
        have h := of_decide_eq_false h
        rw [hnlen] at h
        have hnm : ¬ ∃ c ∈ cs, missC ts c := by
          rintro ⟨c, hc, ⟨hk, hn⟩, hm⟩
          have : (c.node, c.num) ∈ varsC [] cs := (mem_varsC cs [] _).2 (.inr ⟨c, hc, hk, rfl⟩)
          obtain ⟨k, hk', e⟩ := List.getElem_of_mem this
          exact hP k (c.node, c.num) (by omega) (by rw [List.getElem?_eq_getElem hk', e]) ⟨hn, hm⟩
        refine hE _ _ ?_
        conv => whnf
        refine loop_abs (S := fun i : Nat => S20b (sl1 false l2 ts s2) (sl5 true 0 (subN ts cs i) []) (sl5 false l1 cs s1) (cs.map C.row).length i ob) (m := fun i => cs.length - i) (P := fun i => i ≤ cs.length) ?_ 0 (Nat.zero_le _) rfl
        intro R' i hi hN' hE' hR'
        conv => whnf
        refine sel_split (fun h => ?_) (fun h => ?_)
        · conv => whnf
          have h := of_decide_eq_true h
          rw [hlen] at h
          obtain ⟨c, hc⟩ : ∃ c, cs[i]? = some c := ⟨_, List.getElem?_eq_getElem (show i < cs.length by omega)⟩
          have hcm := List.mem_of_getElem? hc
          have e : IntKind.i64.wrap ((i : Int) + 1) = ((i + 1 : Nat) : Int) := by rw [wrap64] <;> omega
          have hsl : (subN ts cs (i + 1)).length ≤ 256 * 256 := by
            have := subN_len ts hw (cs.take (i + 1))
            have h2 : (cs.take (i + 1)).length ≤ cs.length := by rw [List.length_take]; exact Nat.min_le_right _ _
            have := hR.2.1
            unfold subN; omega
          have hss := subN_succ (ts := ts) hc
          refine ⟨_, ⟨by omega, idx_row hc⟩, ?_⟩
          conv => whnf
          refine sel_split (fun h3 => ?_) (fun h3 => ?_)
          · conv => whnf
            have h3 : c.k = 4 := by simpa using h3
            refine sel_split (fun h4 => ?_) (fun h4 => ?_)
            · conv => whnf
              have h4 : c.node = -1 := by simpa using h4
              have hloc : locC c := ⟨h3, h4⟩
              have hlt : ¬ c.num ≥ ts.length := fun hge => hnm ⟨c, hcm, hloc, .inl hge⟩
              have hnum : 0 ≤ c.num := by
                rcases hR.2.2.2 c hcm with g | g | g | g
                · omega
                · omega
                · omega
                · exact g.2.2.2.2.2
              obtain ⟨t, ht⟩ : ∃ t, ts[c.num.toNat]? = some t := ⟨_, List.getElem?_eq_getElem (show c.num.toNat < ts.length by omega)⟩
              have hsub : subC ts c = t.cs := by unfold subC; rw [if_pos hloc, ht]
              rw [hsub] at hss
              refine ⟨_, ⟨hnum, idx_t ht⟩, ?_⟩
              conv => whnf
              refine ⟨(subN ts cs (i + 1)).map C.row, ⟨.inl rfl, ?_, ?_⟩, ?_⟩
              · rw [hss, List.length_append] at hsl
                simp only [List.length_map]; omega
              · rw [hss, List.map_append]
              conv => whnf
              refine hN' (i + 1) _ (by omega) (by omega) ?_
              rw [← e]; rfl
            · conv => whnf
              have h4 : c.node ≠ -1 := by simpa using h4
              have hsub : subC ts c = [c] := by unfold subC; rw [if_neg (fun hn => h4 hn.2)]
              rw [hsub] at hss
              refine ⟨(subN ts cs (i + 1)).map C.row, ⟨.inl rfl, ?_, ?_⟩, ?_⟩
              · rw [hss, List.length_append] at hsl
                show (((subN ts cs i).map C.row).length + 1) * 48 ≤ _
                simp only [List.length_map, List.length_cons, List.length_nil] at hsl ⊢; omega
              · rw [hss, List.map_append]; rfl
              conv => whnf
              refine hN' (i + 1) _ (by omega) (by omega) ?_
              rw [← e]; rfl
          · conv => whnf
            have h3 : c.k ≠ 4 := by simpa using h3
            have hsub : subC ts c = [c] := by unfold subC; rw [if_neg (fun hn => h3 hn.1)]
            rw [hsub] at hss
            refine ⟨(subN ts cs (i + 1)).map C.row, ⟨.inl rfl, ?_, ?_⟩, ?_⟩
            · rw [hss, List.length_append] at hsl
              show (((subN ts cs i).map C.row).length + 1) * 48 ≤ _
              simp only [List.length_map, List.length_cons, List.length_nil] at hsl ⊢; omega
            · rw [hss, List.map_append]; rfl
            conv => whnf
            refine hN' (i + 1) _ (by omega) (by omega) ?_
            rw [← e]; rfl
        · conv => whnf
          have h := of_decide_eq_false h
          rw [hlen] at h
          have : i = cs.length := by omega
          subst this
          have hall : subN ts cs cs.length = cs.flatMap (subC ts) := by unfold subN; rw [List.take_length]
          have holen : ((subN ts cs cs.length).map C.row).length = (cs.flatMap (subC ts)).length := by rw [hall, List.length_map]
          refine hE' _ _ ?_
          conv => whnf
          refine sel_split (fun h3 => ?_) (fun h3 => ?_)
          · conv => whnf
            rw [holen] at h3
            have h3 := of_decide_eq_true h3
            refine ⟨rfl, ?_, rfl⟩
            have : putR cs ts = ([], 5) := by unfold putR; rw [if_neg hno, if_neg hnm, if_pos (by omega)]
            rw [this]; rfl
          · conv => whnf
            rw [holen] at h3
            have h3 := of_decide_eq_false h3
            refine ⟨rfl, ?_, rfl⟩
            have : putR cs ts = (cs.flatMap (subC ts), 0) := by unfold putR; rw [if_neg hno, if_neg hnm, if_neg (by omega)]
            rw [this, hall]; rfl
end Tree
