/- Layer 4: the predicates that goals lead to. -/
import Derived.Test.YtpjoppajohmmnaaDoorL4Prog
set_option autoImplicit false
set_option linter.unusedVariables false
set_option linter.unusedSimpArgs false
namespace Tree
open Go
set_option maxHeartbeats 4000000
set_option maxRecDepth 100000
noncomputable def addL (o ds : List PV) : List PV := ds.foldl addP o
noncomputable def kids (p : List Cl) (q : PV) : List PV := (clausesC p q).flatMap (callsAt p)
noncomputable def reachF (p : List Cl) : Nat → List PV → Nat → List PV
  | 0, o, _ => o
  | f + 1, o, i => match o[i]? with
    | none => o
    | some q => reachF p f (addL o (kids p q)) (i + 1)
theorem mem_addP {o : List PV} {v x : PV} : x ∈ addP o v ↔ x ∈ o ∨ x = v := by
  unfold addP; split
  · rename_i h
    constructor
    · exact .inl
    · rintro (h1 | rfl)
      · exact h1
      · exact h
  · simp
theorem mem_addL : ∀ (ds o : List PV) (x : PV), x ∈ addL o ds ↔ x ∈ o ∨ x ∈ ds
  | [], o, x => by simp [addL]
  | d :: ds, o, x => by
    have e : addL o (d :: ds) = addL (addP o d) ds := rfl
    rw [e, mem_addL ds, mem_addP, List.mem_cons, or_assoc]
theorem nodup_addP {o : List PV} {v : PV} (h : o.Nodup) : (addP o v).Nodup := by
  unfold addP; split
  · exact h
  · rename_i hn
    rw [List.nodup_append]
    refine ⟨h, by simp, ?_⟩
    intro a ha b hb e
    simp at hb; subst hb; subst e; exact hn ha
theorem nodup_addL : ∀ (ds o : List PV), o.Nodup → (addL o ds).Nodup
  | [], o, h => h
  | d :: ds, o, h => nodup_addL ds _ (nodup_addP h)
theorem pre_addP (o : List PV) (v : PV) : ∃ e, addP o v = o ++ e := by
  unfold addP; split
  · exact ⟨[], by simp⟩
  · exact ⟨[v], rfl⟩
theorem pre_addL : ∀ (ds o : List PV), ∃ e, addL o ds = o ++ e
  | [], o => ⟨[], by simp [addL]⟩
  | d :: ds, o => by
    obtain ⟨e, h⟩ := pre_addP o d
    obtain ⟨e', h'⟩ := pre_addL ds (addP o d)
    exact ⟨e ++ e', by rw [← List.append_assoc, ← h, ← h']; rfl⟩
theorem addL_append (o a b : List PV) : addL o (a ++ b) = addL (addL o a) b := by simp [addL]
theorem addL_take {ds : List PV} {j : Nat} {v : PV} (h : ds[j]? = some v) (o : List PV) : addL o (ds.take (j + 1)) = addP (addL o (ds.take j)) v := by
  rw [List.take_add_one, h]; simp [addL]
theorem callsC_addL : ∀ (ts : List T1) (acc : List PV), callsC acc ts = addL acc (ts.filterMap fun t => callC t.cs)
  | [], acc => rfl
  | t :: ts, acc => by
    have e : callsC acc (t :: ts) = callsC (addO acc (callC t.cs)) ts := rfl
    rw [e, callsC_addL ts]
    rcases h : callC t.cs with _ | q
    · rw [List.filterMap_cons, h]; rfl
    · rw [List.filterMap_cons, h]; rfl
theorem mem_callsC {ts : List T1} {x : PV} : x ∈ callsC [] ts ↔ ∃ t ∈ ts, callC t.cs = some x := by
  rw [callsC_addL, mem_addL]; simp
/-- All that may ever be reached. -/
noncomputable def allOf (p : List Cl) (base : List PV) : List PV := base ++ p.flatMap fun c => callsC [] c.body
theorem callsAt_all {p : List Cl} {base : List PV} {k : Nat} {x : PV} (h : x ∈ callsAt p k) : x ∈ allOf p base := by
  unfold callsAt at h
  split at h
  · rename_i c hc
    exact List.mem_append_right _ (List.mem_flatMap.2 ⟨c, List.mem_of_getElem? hc, h⟩)
  · cases h
theorem kids_all {p : List Cl} {base : List PV} {q x : PV} (h : x ∈ kids p q) : x ∈ allOf p base := by
  obtain ⟨k, _, h2⟩ := List.mem_flatMap.1 h
  exact callsAt_all h2
structure Good (p : List Cl) (base o : List PV) (i : Nat) : Prop where
  le : i ≤ o.length
  nd : o.Nodup
  sub : ∀ x ∈ o, x ∈ allOf p base
  bs : ∀ x ∈ base, x ∈ o
  cl : ∀ (j : Nat) q, j < i → o[j]? = some q → ∀ d ∈ kids p q, d ∈ o
  mn : ∀ X : List PV, (∀ x ∈ base, x ∈ X) → (∀ q ∈ X, ∀ d ∈ kids p q, d ∈ X) → ∀ x ∈ o, x ∈ X
theorem Good.len {p : List Cl} {base o : List PV} {i : Nat} (h : Good p base o i) : o.length ≤ (allOf p base).length := h.nd.length_le_of_subset fun x hx => h.sub x hx
theorem Good.step {p : List Cl} {base o : List PV} {i : Nat} {q : PV} (h : Good p base o i) (hq : o[i]? = some q) : Good p base (addL o (kids p q)) (i + 1) := by
  obtain ⟨e, he⟩ := pre_addL (kids p q) o
  have hi : i < o.length := (List.getElem?_eq_some_iff.1 hq).1
  refine ⟨?_, nodup_addL _ _ h.nd, fun x hx => ?_, fun x hx => (mem_addL _ _ _).2 (.inl (h.bs x hx)), fun j q' hj hq' d hd => ?_, fun X h1 h2 x hx => ?_⟩
  · rw [he, List.length_append]; omega
  · rcases (mem_addL _ _ _).1 hx with g | g
    · exact h.sub x g
    · exact kids_all g
  · have hlt : j < o.length := by omega
    rw [he, List.getElem?_append_left hlt] at hq'
    rcases Nat.lt_or_ge j i with hji | hji
    · exact (mem_addL _ _ _).2 (.inl (h.cl j q' hji hq' d hd))
    · have : j = i := by omega
      subst this
      rw [hq] at hq'; cases hq'
      exact (mem_addL _ _ _).2 (.inr hd)
  · rcases (mem_addL _ _ _).1 hx with g | g
    · exact h.mn X h1 h2 x g
    · exact h2 q (h.mn X h1 h2 q (List.mem_of_getElem? hq)) x g
theorem good_start (p : List Cl) (ts : List T1) : Good p (callsC [] ts) (callsC [] ts) 0 := by
  refine ⟨Nat.zero_le _, ?_, fun x hx => List.mem_append_left _ hx, fun x hx => hx, fun j q hj => by omega, fun X h1 _ x hx => h1 x hx⟩
  rw [callsC_addL]; exact nodup_addL _ _ (by simp)
/-- What is reached: closed, no more than that. -/
structure Reach (p : List Cl) (base o : List PV) : Prop where
  bs : ∀ x ∈ base, x ∈ o
  cl : ∀ q ∈ o, ∀ d ∈ kids p q, d ∈ o
  mn : ∀ X : List PV, (∀ x ∈ base, x ∈ X) → (∀ q ∈ X, ∀ d ∈ kids p q, d ∈ X) → ∀ x ∈ o, x ∈ X
theorem reachF_good {p : List Cl} {base : List PV} : ∀ (f : Nat) (o : List PV) (i : Nat), Good p base o i → (allOf p base).length < f + i → Reach p base (reachF p f o i) ∧ (reachF p f o i).length ≤ (allOf p base).length
  | 0, o, i, h, hf => by have := h.len; have := h.le; omega
  | f + 1, o, i, h, hf => by
    rw [reachF]
    rcases hq : o[i]? with _ | q
    · simp only []
      refine ⟨⟨h.bs, fun q hq' d hd => ?_, h.mn⟩, h.len⟩
      obtain ⟨j, hj, e⟩ := List.getElem_of_mem hq'
      have : o.length ≤ i := List.getElem?_eq_none_iff.1 hq
      exact h.cl j q (by omega) (by rw [List.getElem?_eq_getElem hj, e]) d hd
    · simp only []
      exact reachF_good f _ _ (h.step hq) (by omega)
noncomputable def reachC (p : List Cl) (ts : List T1) : List PV := reachF p ((allOf p (callsC [] ts)).length + 1) (callsC [] ts) 0
theorem reachC_ok (p : List Cl) (ts : List T1) : Reach p (callsC [] ts) (reachC p ts) ∧ (reachC p ts).length ≤ (allOf p (callsC [] ts)).length := reachF_good _ _ _ (good_start p ts) (by omega)
theorem allOf_len (p : List Cl) (ts : List T1) : (allOf p (callsC [] ts)).length ≤ ts.length + (p.flatMap Cl.body).length := by
  unfold allOf
  rw [List.length_append]
  have h1 := callsC_len ts []
  have h2 : (p.flatMap fun c => callsC [] c.body).length ≤ (p.flatMap Cl.body).length := by
    induction p with
    | nil => simp
    | cons c p ih =>
      simp only [List.flatMap_cons, List.length_append]
      have := callsC_len c.body []
      simp only [List.length_nil, Nat.zero_add] at this
      omega
  simp only [List.length_nil, Nat.zero_add] at h1
  omega
theorem reach_closed {p : List Cl} {base o : List PV} (h : Reach p base o) {q : PV} (hq : q ∈ o) {k : Nat} (hk : k ∈ clausesC p q) {d : PV} (hd : d ∈ callsAt p k) : d ∈ o :=
  h.cl q hq d (List.mem_flatMap.2 ⟨k, hk, hd⟩)
theorem reach_more {p : List Cl} {ts us : List T1} (h : ∀ t ∈ ts, ∃ u ∈ us, u.cs = t.cs) : ∀ x ∈ reachC p ts, x ∈ reachC p us := by
  obtain ⟨h1, _⟩ := reachC_ok p ts
  obtain ⟨h2, _⟩ := reachC_ok p us
  refine h1.mn _ (fun x hx => h2.bs x ?_) h2.cl
  obtain ⟨t, ht, e⟩ := mem_callsC.1 hx
  obtain ⟨u, hu, e'⟩ := h t ht
  exact mem_callsC.2 ⟨u, hu, by rw [e', e]⟩
def S288a (v o : LV) (i : Int) (ob : Obs) : WSt := ⟨.val v :: List.replicate 4 (.val .undef) ++ .val o :: .val (.int .i64 i) :: List.replicate 48 (.val .undef), ob, []⟩
def S288b (v o : LV) (i : Int) (w : LV) (n : Nat) (k : Int) (ob : Obs) : WSt := ⟨.val v :: List.replicate 4 (.val .undef) ++ .val o :: .val (.int .i64 i) :: List.replicate 23 (.val .undef) ++ .val w :: .val (.int .i64 n) :: .val (.int .i64 k) :: List.replicate 22 (.val .undef), ob, []⟩
def S288c (v o : LV) (i : Int) (w : LV) (n : Nat) (k : Int) (u : LV) (m : Nat) (j : Int) (ob : Obs) : WSt := ⟨.val v :: List.replicate 4 (.val .undef) ++ .val o :: .val (.int .i64 i) :: List.replicate 23 (.val .undef) ++ .val w :: .val (.int .i64 n) :: .val (.int .i64 k) :: List.replicate 5 (.val .undef) ++ .val u :: .val (.int .i64 m) :: .val (.int .i64 j) :: List.replicate 14 (.val .undef), ob, []⟩
theorem reached_ok (lab : Nat) (p : List Cl) (sp : List (List LV)) (l2 : Nat) (ts : List T1) (s2 : List (List LV)) (hl : p.length ≤ 1048576) (hf : ∀ c ∈ p, c.fine) (htl' : ts.length ≤ 1048576) (htf : ∀ t ∈ ts, t.fine) (hb : (p.flatMap Cl.body).length ≤ 1048576) (ob : Obs) (pb : Nat) :
    Gives env4 288 [slC false lab p sp, sl1 false l2 ts s2] ob pb (slP true 0 (reachC p ts) [], ob) := by
  have hall := allOf_len p ts
  obtain ⟨base, hbase⟩ : ∃ base, base = callsC [] ts := ⟨_, rfl⟩
  have hgood := good_start p ts
  rw [← hbase] at hall hgood
  have hres : reachC p ts = reachF p ((allOf p base).length + 1) base 0 := by rw [hbase]; rfl
  refine gives_code (f := tf288) rfl ?_
  conv => whnf
  refine ⟨_, _, calls_ok l2 ts s2 htl' htf ob _, fun _ => noRefP _ _ _ _, ?_⟩
  rw [← hbase]
  conv => whnf
  refine loop_abs (ι := List PV × Nat) (S := fun x => S288a (slC false lab p sp) (slP true 0 x.1 []) x.2 ob) (m := fun x => (allOf p base).length + 1 - x.2)
    (P := fun x => Good p base x.1 x.2 ∧ reachF p ((allOf p base).length + 1 - x.2) x.1 x.2 = reachC p ts) ?_ (base, 0) ⟨hgood, hres.symm⟩ rfl
  rintro R ⟨o, i⟩ ⟨hG, hr⟩ hN hE hR
  simp only at hG hr
  have ho := hG.len
  have hol : (o.map prow).length = o.length := by simp
  conv => whnf
  refine sel_split (fun h => ?_) (fun h => ?_)
  · conv => whnf
    have h := of_decide_eq_true h
    rw [hol] at h
    obtain ⟨q, hq⟩ : ∃ q, o[i]? = some q := ⟨_, List.getElem?_eq_getElem (show i < o.length by omega)⟩
    have e : IntKind.i64.wrap ((i : Int) + 1) = ((i + 1 : Nat) : Int) := by rw [wrap64] <;> omega
    have hG' := hG.step hq
    have hr' : reachF p ((allOf p base).length + 1 - (i + 1)) (addL o (kids p q)) (i + 1) = reachC p ts := by
      rw [← hr]
      have : (allOf p base).length + 1 - i = ((allOf p base).length + 1 - (i + 1)) + 1 := by omega
      rw [this, reachF, hq]
    have hq1 : ∃ cs, (0 ≤ (i : Int) ∧ (o.map prow)[(i : Int).toNat]? = some cs) ∧ cs = [.str q.1, .int .i64 q.2] := ⟨_, ⟨by omega, idx_p hq⟩, rfl⟩
    refine ⟨_, ⟨by omega, idx_p hq⟩, ?_⟩
    conv => whnf
    refine ⟨_, ⟨by omega, idx_p hq⟩, ?_⟩
    conv => whnf
    refine ⟨_, _, clauses_ok lab p sp q hl hf ob _, fun _ => noRefN _ _ _ _, ?_⟩
    conv => whnf
    obtain ⟨ks, hks⟩ : ∃ ks, ks = clausesC p q := ⟨_, rfl⟩
    have hkids : kids p q = ks.flatMap (callsAt p) := by rw [hks]; rfl
    rw [← hks]
    have hkl : ks.length ≤ p.length := by rw [hks]; exact clausesN_len p q _
    have hksl : (ks.map irow).length = ks.length := by simp
    have hbig : ∀ (a : Nat) (ds : List PV), (∀ x ∈ ds, x ∈ allOf p base) → (addL (addL o ((ks.take a).flatMap (callsAt p))) ds).length ≤ (allOf p base).length := fun a ds hds => by
      refine (nodup_addL _ _ (nodup_addL _ _ hG.nd)).length_le_of_subset fun x hx => ?_
      rcases (mem_addL _ _ _).1 hx with g | g
      · rcases (mem_addL _ _ _).1 g with g | g
        · exact hG.sub x g
        · obtain ⟨k, _, g⟩ := List.mem_flatMap.1 g
          exact callsAt_all g
      · exact hds x g
    refine loop_abs (S := fun a : Nat => S288b (slC false lab p sp) (slP true 0 (addL o ((ks.take a).flatMap (callsAt p))) []) i (slN true 0 ks []) (ks.map irow).length a ob) (m := fun a => ks.length - a) (P := fun a => a ≤ ks.length) ?_ 0 (Nat.zero_le _) rfl
    intro R2 a ha hN2 hE2 hR2
    conv => whnf
    refine sel_split (fun h2 => ?_) (fun h2 => ?_)
    · conv => whnf
      have h2 := of_decide_eq_true h2
      rw [hksl] at h2
      obtain ⟨k, hk⟩ : ∃ k, ks[a]? = some k := ⟨_, List.getElem?_eq_getElem (show a < ks.length by omega)⟩
      have ea : IntKind.i64.wrap ((a : Int) + 1) = ((a + 1 : Nat) : Int) := by rw [wrap64] <;> omega
      have hst : addL o ((ks.take (a + 1)).flatMap (callsAt p)) = addL (addL o ((ks.take a).flatMap (callsAt p))) (callsAt p k) := by
        rw [List.take_add_one, hk, List.flatMap_append, addL_append]; simp
      refine ⟨_, ⟨by omega, idx_i hk⟩, ?_⟩
      conv => whnf
      refine ⟨_, _, callsAt_ok lab p sp k hf ob _, fun _ => noRefP _ _ _ _, ?_⟩
      conv => whnf
      obtain ⟨ds, hds⟩ : ∃ ds, ds = callsAt p k := ⟨_, rfl⟩
      rw [← hds] at hst ⊢
      have hdall : ∀ x ∈ ds, x ∈ allOf p base := fun x hx => callsAt_all (by rw [← hds]; exact hx)
      have hdl : (ds.map prow).length = ds.length := by simp
      have hdn : ds.length ≤ 1048576 := by
        rw [hds]; unfold callsAt; split
        · rename_i c hc
          have h1 := callsC_len c.body []
          have h2 := (hf c (List.mem_of_getElem? hc)).bl
          simp only [List.length_nil, Nat.zero_add] at h1
          omega
        · exact Nat.zero_le _
      refine loop_abs (S := fun j : Nat => S288c (slC false lab p sp) (slP true 0 (addL (addL o ((ks.take a).flatMap (callsAt p))) (ds.take j)) []) i (slN true 0 ks []) (ks.map irow).length a (slP true 0 ds []) (ds.map prow).length j ob) (m := fun j => ds.length - j) (P := fun j => j ≤ ds.length) ?_ 0 (Nat.zero_le _) rfl
      intro R3 j hj hN3 hE3 hR3
      conv => whnf
      refine sel_split (fun h3 => ?_) (fun h3 => ?_)
      · conv => whnf
        have h3 := of_decide_eq_true h3
        rw [hdl] at h3
        obtain ⟨v, hv⟩ : ∃ v, ds[j]? = some v := ⟨_, List.getElem?_eq_getElem (show j < ds.length by omega)⟩
        have ej : IntKind.i64.wrap ((j : Int) + 1) = ((j + 1 : Nat) : Int) := by rw [wrap64] <;> omega
        have hb1 := hbig a (ds.take j) (fun x hx => hdall x (List.mem_of_mem_take hx))
        have htk := addL_take hv (addL o ((ks.take a).flatMap (callsAt p)))
        obtain ⟨cur, hcur⟩ : ∃ cur, cur = addL (addL o ((ks.take a).flatMap (callsAt p))) (ds.take j) := ⟨_, rfl⟩
        rw [← hcur] at hb1 htk ⊢
        refine ⟨_, ⟨by omega, idx_p hv⟩, ?_⟩
        conv => whnf
        obtain ⟨b, hb'⟩ := boolOf (v ∈ cur)
        refine ⟨_, _, hasPred_ok 0 cur [] v (by omega) ob _ b hb', fun _ => rfl, ?_⟩
        conv => whnf
        refine sel_split (fun h4 => ?_) (fun h4 => ?_)
        · conv => whnf
          have h4 : b = false := by simpa using h4
          have hnew : addL (addL o ((ks.take a).flatMap (callsAt p))) (ds.take (j + 1)) = cur ++ [v] := by
            rw [htk]; unfold addP; rw [if_neg (fun hm => by rw [hb'.2 hm] at h4; cases h4)]
          refine ⟨(addL (addL o ((ks.take a).flatMap (callsAt p))) (ds.take (j + 1))).map prow, ⟨.inl rfl, ?_, ?_⟩, ?_⟩
          · show ((cur.map prow).length + 1) * 24 ≤ _
            rw [List.length_map]; omega
          · rw [hnew, List.map_append]; rfl
          conv => whnf
          refine hN3 (j + 1) _ (by omega) (by omega) ?_
          rw [← ej]; rfl
        · conv => whnf
          have h4 : b = true := by simpa using h4
          have hnew : addL (addL o ((ks.take a).flatMap (callsAt p))) (ds.take (j + 1)) = cur := by
            rw [htk]; unfold addP; rw [if_pos (hb'.1 h4)]
          refine hN3 (j + 1) _ (by omega) (by omega) ?_
          rw [← ej, hnew]; rfl
      · conv => whnf
        have h3 := of_decide_eq_false h3
        rw [hdl] at h3
        have : j = ds.length := by omega
        subst this
        refine hE3 _ _ ?_
        conv => whnf
        refine hN2 (a + 1) _ (by omega) (by omega) ?_
        rw [← ea, hst, List.take_length]; rfl
    · conv => whnf
      have h2 := of_decide_eq_false h2
      rw [hksl] at h2
      have : a = ks.length := by omega
      subst this
      refine hE2 _ _ ?_
      conv => whnf
      refine hN (addL o (kids p q), i + 1) _ ⟨hG', hr'⟩ (by show (allOf p base).length + 1 - (i + 1) < (allOf p base).length + 1 - i; omega) ?_
      rw [hkids]
      show _ = S288a _ _ ((i + 1 : Nat) : Int) ob
      rw [← e, List.take_length]; rfl
  · conv => whnf
    have h := of_decide_eq_false h
    rw [hol] at h
    refine hE _ _ ?_
    conv => whnf
    refine ⟨rfl, ?_, rfl⟩
    rw [← hr]
    have h1 := hG.le
    have : (allOf p base).length + 1 - i = ((allOf p base).length - i) + 1 := by omega
    rw [this, reachF, List.getElem?_eq_none (by omega)]
    rfl
end Tree
