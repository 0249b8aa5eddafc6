/- Layer 4: the law CheckOrder, what E answers. -/
import Derived.Test.YtpjoppajohmmnaaDoorL4Where
set_option autoImplicit false
set_option linter.unusedVariables false
set_option linter.unusedSimpArgs false
namespace Tree
open Go
set_option maxHeartbeats 4000000
set_option maxRecDepth 100000
theorem gives_same {E : Env} {g g' : Nat} {f : TFn} {args : List LV} {ob : Obs} {pb : Nat} {r : LV × Obs} (h : E.fns g = some (.code f)) (h' : E.fns g' = some (.code f)) (hg : Gives E g args ob pb r) : Gives E g' args ob pb r := by
  obtain ⟨n, hn⟩ := hg
  refine ⟨n, ?_⟩
  cases n with
  | zero => simp [call] at hn
  | succ n => rw [call, h] at hn; rw [call, h']; exact hn
theorem refIs_ok (lab : Nat) (cs : List C) (sp : List (List LV)) (s : ByteArray) (n : Int) (ob : Obs) (pb : Nat) (r : Bool) (hr : r = true ↔ IsP cs s n) : Gives env4 256 [sl5 false lab cs sp, .str s, .int .i64 n] ob pb (.bool r, ob) :=
  gives_same (g := 312) (f := tf312) rfl rfl (is_ok lab cs sp s n ob pb r hr)
theorem mem_addO {o : List PV} {v : Option PV} {x : PV} : x ∈ addO o v ↔ x ∈ o ∨ v = some x := by
  cases v with
  | none => simp [addO]
  | some v => simp only [addO, mem_addP, Option.some.injEq]; constructor <;> (rintro (h | h); exact .inl h; exact .inr h.symm)
theorem mem_predsC : ∀ {p : List Cl} {o : List PV} {x : PV}, x ∈ predsC o p ↔ x ∈ o ∨ ∃ c ∈ p, predC c.head = some x
  | [], o, x => by simp [predsC]
  | c :: p, o, x => by
    have e : predsC o (c :: p) = predsC (addO o (predC c.head)) p := rfl
    rw [e, mem_predsC, mem_addO]
    simp only [List.mem_cons, exists_eq_or_imp, or_assoc]
theorem predC_is {cs : List C} {q : PV} (h : predC cs = some q) : IsP cs q.1 q.2 := by
  cases cs with
  | nil => cases h
  | cons c r =>
    simp only [predC] at h
    split at h
    · split at h
      · rename_i h2; cases h; exact ⟨c, r, rfl, rfl, .inr ⟨rfl, h2⟩⟩
      · split at h
        · rename_i h3; cases h; exact ⟨c, r, rfl, rfl, .inl ⟨h3, rfl⟩⟩
        · cases h
    · cases h
theorem look_same {a b : List PV} (h : ∀ x, x ∈ a ↔ x ∈ b) (k : Nat) (c : Cl) : LookW a k c ↔ LookW b k c := by
  unfold LookW
  split <;> try exact Iff.rfl
  unfold PredW
  simp only [h]
theorem look_low {a b : List PV} {k : Nat} (hk : k < 5) (c : Cl) : LookW a k c ↔ LookW b k c := by
  have : k = 0 ∨ k = 1 ∨ k = 2 ∨ k = 3 ∨ k = 4 := by omega
  rcases this with rfl | rfl | rfl | rfl | rfl <;> exact Iff.rfl
theorem where_err {p q : List Cl} {j e j' e' : Int} (h : WhereR p j e) (h' : WhereR q j' e') (hl : p.length = q.length) (hm : ∀ c, c ∈ p ↔ c ∈ q) : e = e' := by
  have hp : ∀ x, x ∈ predsC [] p ↔ x ∈ predsC [] q := fun x => by
    rw [mem_predsC, mem_predsC]; simp only [hm]
  rcases h with ⟨h1, _, rfl⟩ | ⟨h1, h⟩ <;> rcases h' with ⟨h2, _, rfl⟩ | ⟨h2, h'⟩
  · rfl
  · omega
  · omega
  · rcases h with ⟨k, i, c, g1, rfl, _, g4, g5, _, g7⟩ | ⟨_, rfl, g⟩ <;> rcases h' with ⟨k', i', c', g1', rfl, _, g4', g5', _, g7'⟩ | ⟨_, rfl, g'⟩
    · have c1 := List.mem_of_getElem? g4
      have c2 := List.mem_of_getElem? g4'
      rcases Nat.lt_trichotomy k k' with q | q | q
      · exact absurd ((look_same hp k c).1 g5) (g7' k q c ((hm c).1 c1))
      · rw [q]
      · exact absurd ((look_same hp k' c').2 g5') (g7 k' q c' ((hm c').2 c2))
    · exact absurd ((look_same hp k c).1 g5) (g' k g1 c ((hm c).1 (List.mem_of_getElem? g4)))
    · exact absurd ((look_same hp k' c').2 g5') (g k' g1' c' ((hm c').2 (List.mem_of_getElem? g4')))
    · rfl
theorem err_ne {k : Nat} : errAt k ≠ 0 := by
  unfold errAt; split <;> decide
theorem where_ok0 {p : List Cl} {j : Int} (h : WhereR p j 0) : p.length ≤ 64 ∧ Passed (predsC [] p) p 6 := by
  rcases h with ⟨_, _, h⟩ | ⟨h1, h⟩
  · cases h
  · rcases h with ⟨k, i, c, _, h, _⟩ | ⟨_, _, h⟩
    · exact absurd h.symm err_ne
    · exact ⟨h1, h⟩
theorem wrapU {n : Int} (h0 : 0 ≤ n) (h1 : n < 18446744073709551616) : IntKind.u64.wrap n = n := by
  simp only [IntKind.wrap, IntKind.bits, IntKind.signed]
  have e : (2 : Int) ^ 64 = 18446744073709551616 := by decide
  simp only [e]
  rw [if_neg (by simp)]
  exact Int.emod_eq_of_lt h0 h1
theorem wrapU_nonneg (n : Int) : 0 ≤ IntKind.u64.wrap n := by
  simp only [IntKind.wrap, IntKind.bits, IntKind.signed]
  have e : (2 : Int) ^ 64 = 18446744073709551616 := by decide
  simp only [e]
  rw [if_neg (by simp)]
  exact Int.emod_nonneg _ (by decide)
open Classical in
noncomputable def lessC (p : List Cl) (q : PV) : List Cl := p.filter fun c => decide (¬ IsP c.head q.1 q.2)
theorem lessC_take_yes {p : List Cl} {q : PV} {i : Nat} {c : Cl} (h : p[i]? = some c) (hn : IsP c.head q.1 q.2) : lessC (p.take (i + 1)) q = lessC (p.take i) q := by
  unfold lessC; rw [List.take_add_one, h]; simp [hn]
theorem lessC_take_no {p : List Cl} {q : PV} {i : Nat} {c : Cl} (h : p[i]? = some c) (hn : ¬ IsP c.head q.1 q.2) : lessC (p.take (i + 1)) q = lessC (p.take i) q ++ [c] := by
  unfold lessC; rw [List.take_add_one, h]; simp [hn]
theorem lessC_len (p : List Cl) (q : PV) : (lessC p q).length ≤ p.length := List.length_filter_le ..
theorem mem_lessC {p : List Cl} {q : PV} {c : Cl} : c ∈ lessC p q ↔ c ∈ p ∧ ¬ IsP c.head q.1 q.2 := by simp [lessC]
/-- Without the clauses of a predicate that one of the others calls. -/
theorem less_err {p : List Cl} {q : PV} {c : Cl} (hl : p.length ≤ 64) (hP : Passed (predsC [] p) p 6) (hc : c ∈ lessC p q) (hq : q ∈ callsC [] c.body) {j e : Int} (h : WhereR (lessC p q) j e) : e = 43 := by
  have hll := lessC_len p q
  have hnq : q ∉ predsC [] (lessC p q) := fun hm => by
    rcases mem_predsC.1 hm with h | ⟨d, h1, h2⟩
    · cases h
    · exact (mem_lessC.1 h1).2 (predC_is h2)
  have hw : LookW (predsC [] (lessC p q)) 5 c := ⟨q, hq, hnq⟩
  rcases h with ⟨h, _⟩ | ⟨_, h⟩
  · omega
  · rcases h with ⟨k, i, d, h1, rfl, _, h4, h5, _, h7⟩ | ⟨_, _, h⟩
    · by_cases hk : k < 5
      · have hd := (mem_lessC.1 (List.mem_of_getElem? h4)).1
        exact absurd ((look_low hk d).1 h5) (hP k (by omega) d hd)
      · have : k = 5 := by omega
        subst this; rfl
    · exact absurd hw (h 5 (by omega) c hc)
theorem checkOrder_ok (live : Gives env4 275 [] [] 0 (.bool true, [])) (p : List Cl) (sp : List (List LV)) (k : Int) (hl : p.length ≤ 1048576) (hf : ∀ c ∈ p, c.fine) :
    Gives env4 571 [slC false 0 p sp, .int .i64 k] [] 0 (.bool true, []) := by
  have hlen : (p.map Cl.row).length = p.length := by simp
  refine gives_code (f := tf571) rfl ?_
  conv => whnf
  refine ⟨_, _, live, fun _ => rfl, ?_⟩
  conv => whnf
  refine sel_split (fun h => ?_) (fun h => ?_)
  · conv => whnf
    refine ⟨_, _, live, fun _ => rfl, ?_⟩
    conv => whnf
    exact ⟨rfl, rfl, rfl⟩
  · have h0 : p.length ≠ 0 := by
      intro e; rw [hlen, e] at h; simp at h
    obtain ⟨i, hi, hil⟩ : ∃ i : Nat, IntKind.i64.wrap ((IntKind.u64.wrap k).tmod (IntKind.u64.wrap ((p.map Cl.row).length : Int))) = (i : Int) ∧ i < p.length := by
      rw [hlen, wrapU (n := (p.length : Int)) (by omega) (by omega)]
      have h1 := wrapU_nonneg k
      have h2 := Int.tmod_nonneg (p.length : Int) h1
      have h3 := Int.tmod_lt_of_pos (IntKind.u64.wrap k) (show 0 < (p.length : Int) by omega)
      refine ⟨((IntKind.u64.wrap k).tmod (p.length : Int)).toNat, ?_, by omega⟩
      have h4 : (IntKind.u64.wrap k).tmod (p.length : Int) < (p.length : Int) := h3
      generalize (IntKind.u64.wrap k).tmod (p.length : Int) = z at h2 h4 ⊢
      rw [wrap64] <;> omega
    have hne : ¬ IntKind.u64.wrap ((p.map Cl.row).length : Int) = 0 := by
      rw [hlen, wrapU (by omega) (by omega)]; omega
    have htk : (p.map Cl.row).take i = (p.take i).map Cl.row := by rw [List.map_take]
    have hdr : (p.map Cl.row).drop i = (p.drop i).map Cl.row := by rw [List.map_drop]
    obtain ⟨turned, hturn⟩ : ∃ t, t = p.drop i ++ p.take i := ⟨_, rfl⟩
    have htl : turned.length = p.length := by rw [hturn]; simp; omega
    have htm : ∀ c, c ∈ turned ↔ c ∈ p := fun c => by
      rw [hturn, List.mem_append]
      constructor
      · rintro (h | h)
        · exact List.mem_of_mem_drop h
        · exact List.mem_of_mem_take h
      · intro h
        rw [← List.take_append_drop i p, List.mem_append] at h
        exact h.symm
    obtain ⟨j1, e1, w1, g1⟩ := where_ok 0 turned [] (by omega) (fun c hc => hf c ((htm c).1 hc))
    obtain ⟨j2, e2, w2, g2⟩ := where_ok 0 p sp hl hf
    have hee : e1 = e2 := where_err w1 w2 htl htm
    obtain ⟨c, hc⟩ : ∃ c, p[i]? = some c := ⟨_, List.getElem?_eq_getElem hil⟩
    conv => whnf
    refine ⟨hne, ?_⟩
    conv => whnf
    rw [hi]
    refine ⟨(p.drop i).map Cl.row, sp, ⟨⟨by omega, by rw [hlen]; omega, by rw [List.length_append, hlen]; omega⟩, ?_, ?_⟩, ?_⟩
    · rw [← hdr]; simp
    · simp
    conv => whnf
    refine ⟨(p.drop i).map Cl.row, ⟨.inl rfl, ?_, by simp⟩, ?_⟩
    · show (0 + ((p.drop i).map Cl.row).length) * 80 ≤ _
      rw [List.length_map, List.length_drop]; omega
    conv => whnf
    refine ⟨(p.take i).map Cl.row, (p.drop i).map Cl.row ++ sp, ⟨⟨by omega, by omega, by rw [List.length_append, hlen]; omega⟩, ?_, ?_⟩, ?_⟩
    · rw [← htk]
      have : (i : Int).toNat = i := by omega
      rw [this, List.take_append_of_le_length (by rw [hlen]; omega)]; simp
    · rw [← hdr]
      have : (i : Int).toNat = i := by omega
      rw [this, List.drop_append_of_le_length (by rw [hlen]; omega)]
    conv => whnf
    refine ⟨turned.map Cl.row, ⟨.inl rfl, ?_, ?_⟩, ?_⟩
    · show (((p.drop i).map Cl.row).length + ((p.take i).map Cl.row).length) * 80 ≤ _
      rw [List.length_map, List.length_map, List.length_drop, List.length_take]; omega
    · rw [hturn, List.map_append]
    conv => whnf
    refine ⟨_, _, program_ok 0 turned [] e1 j1 g1 [] _, fun _ => rfl, ?_⟩
    conv => whnf
    refine ⟨_, _, program_ok 0 p sp e2 j2 g2 [] _, fun _ => rfl, ?_⟩
    conv => whnf
    refine sel_f (by simp [hee]) ?_
    conv => whnf
    refine ⟨_, _, program_ok 0 p sp e2 j2 g2 [] _, fun _ => rfl, ?_⟩
    conv => whnf
    refine sel_split (fun h2 => ?_) (fun h2 => ?_)
    · conv => whnf
      exact ⟨rfl, rfl, rfl⟩
    · conv => whnf
      have h2 : e2 = 0 := by simpa using h2
      subst h2
      obtain ⟨h64, hP⟩ := where_ok0 w2
      refine ⟨_, _, callsAt_ok 0 p sp i hf [] _, fun _ => noRefP _ _ _ _, ?_⟩
      have hca : callsAt p i = callsC [] c.body := by unfold callsAt; rw [hc]
      rw [hca]
      have hcl := callsC_len c.body []
      have hbl := (hf c (List.mem_of_getElem? hc)).bl
      simp only [List.length_nil, Nat.zero_add] at hcl
      obtain ⟨l, hl2⟩ : ∃ l, l = callsC [] c.body := ⟨_, rfl⟩
      rw [← hl2] at hcl ⊢
      have hll : (l.map prow).length = l.length := by simp
      conv => whnf
      refine sel_split (fun h3 => ?_) (fun h3 => ?_)
      · conv => whnf
        exact ⟨rfl, rfl, rfl⟩
      · conv => whnf
        have hl0 : l ≠ [] := by
          intro e; rw [hll, e] at h3; simp at h3
        obtain ⟨q, l', rfl⟩ := List.exists_cons_of_ne_nil hl0
        have hq : q ∈ callsC [] c.body := by rw [← hl2]; exact List.mem_cons_self ..
        obtain ⟨own, hown⟩ : ∃ own : Nat → Bool, ∀ k, own k = true ↔ i < k ∧ IsP c.head q.1 q.2 := by
          refine ⟨fun k => (boolOf (i < k ∧ IsP c.head q.1 q.2)).choose, fun k => (boolOf (i < k ∧ IsP c.head q.1 q.2)).choose_spec⟩
        have hlc := fun k => lessC_len (p.take k) q
        refine loop_v (V := fun k : Nat => [(8, slC true 0 (lessC (p.take k) q) []), (9, .bool (own k)), (10, .int .i64 k)]) (O := fun _ => []) (m := fun k => p.length - k) (P := fun k => k ≤ p.length) ?_ 0 (Nat.zero_le _) ?_
        · intro R k hk hN hE hR
          conv => whnf
          refine sel_split (fun h4 => ?_) (fun h4 => ?_)
          · conv => whnf
            have h4 := of_decide_eq_true h4
            rw [hlen] at h4
            obtain ⟨d, hd⟩ : ∃ d, p[k]? = some d := ⟨_, List.getElem?_eq_getElem (show k < p.length by omega)⟩
            have e : IntKind.i64.wrap ((k : Int) + 1) = ((k + 1 : Nat) : Int) := by rw [wrap64] <;> omega
            have hown' : own k = false → IsP d.head q.1 q.2 → own (k + 1) = (((k : Nat) : Int) == ((i : Nat) : Int)) := fun ho hd' => by
              cases hb : own (k + 1) with
              | true =>
                have := (hown (k + 1)).1 hb
                have : k = i := by
                  by_cases hki : i < k
                  · rw [(hown k).2 ⟨hki, this.2⟩] at ho; cases ho
                  · omega
                subst this; simp
              | false =>
                symm; simp only [beq_eq_false_iff_ne, ne_eq]
                intro e
                have e : k = i := by omega
                subst e
                rw [hc] at hd; cases hd
                rw [(hown (k + 1)).2 ⟨by omega, hd'⟩] at hb; cases hb
            have hownt : own k = true → own (k + 1) = true := fun ho => (hown (k + 1)).2 ⟨by have := (hown k).1 ho; omega, ((hown k).1 ho).2⟩
            have hownn : ¬ IsP d.head q.1 q.2 → own (k + 1) = own k := fun hn => by
              cases hb : own k with
              | true => exact hownt hb
              | false =>
                cases hb2 : own (k + 1) with
                | false => rfl
                | true =>
                  have := (hown (k + 1)).1 hb2
                  have hki : k = i := by
                    by_cases hki : i < k
                    · rw [(hown k).2 ⟨hki, this.2⟩] at hb; cases hb
                    · omega
                  subst hki
                  rw [hc] at hd; cases hd
                  exact absurd this.2 hn
            have hyes := lessC_take_yes (q := q) hd
            have hno := lessC_take_no (q := q) hd
            have hlk := hlc k
            rw [List.length_take] at hlk
            refine ⟨_, ⟨by omega, idx_c hd⟩, ?_⟩
            conv => whnf
            refine ⟨_, ⟨by omega, rfl⟩, ?_⟩
            conv => whnf
            refine ⟨_, ⟨by omega, rfl⟩, ?_⟩
            conv => whnf
            obtain ⟨b, hb⟩ := boolOf (IsP d.head q.1 q.2)
            refine ⟨_, _, refIs_ok d.hlab d.head d.hsp q.1 q.2 [] _ b hb, fun _ => rfl, ?_⟩
            conv => whnf
            refine sel_split (fun h5 => ?_) (fun h5 => ?_)
            · conv => whnf
              have h5 := hb.1 h5
              refine sel_split (fun h6 => ?_) (fun h6 => ?_)
              · conv => whnf
                refine hN (k + 1) _ (by omega) (by omega) ?_
                rw [← e, hyes h5, hownt h6]; rfl
              · conv => whnf
                refine hN (k + 1) _ (by omega) (by omega) ?_
                rw [← e, hyes h5, hown' h6 h5]; rfl
            · conv => whnf
              have h5 : ¬ IsP d.head q.1 q.2 := fun hn => by rw [hb.2 hn] at h5; cases h5
              refine ⟨_, ⟨by omega, idx_c hd⟩, ?_⟩
              conv => whnf
              refine ⟨(lessC (p.take (k + 1)) q).map Cl.row, ⟨.inl rfl, ?_, ?_⟩, ?_⟩
              · show (((lessC (p.take k) q).map Cl.row).length + 1) * 80 ≤ _
                rw [List.length_map]; omega
              · rw [hno h5, List.map_append]; rfl
              conv => whnf
              refine hN (k + 1) _ (by omega) (by omega) ?_
              rw [← e, hownn h5]; rfl
          · conv => whnf
            have h4 := of_decide_eq_false h4
            rw [hlen] at h4
            have : k = p.length := by omega
            subst this
            refine hE _ _ ?_
            rw [List.take_length]
            conv => whnf
            have hll := lessC_len p q
            obtain ⟨j3, e3, w3, g3⟩ := where_ok 0 (lessC p q) [] (by omega) (fun d hd => hf d (mem_lessC.1 hd).1)
            refine sel_split (fun h6 => ?_) (fun h6 => ?_)
            · conv => whnf
              exact ⟨rfl, rfl, rfl⟩
            · conv => whnf
              refine ⟨_, _, program_ok 0 (lessC p q) [] e3 j3 g3 [] _, fun _ => rfl, ?_⟩
              conv => whnf
              have hn : ¬ IsP c.head q.1 q.2 := fun h => by rw [(hown p.length).2 ⟨hil, h⟩] at h6; cases h6
              have he3 := less_err h64 hP (mem_lessC.2 ⟨List.mem_of_getElem? hc, hn⟩) hq w3
              subst he3
              exact ⟨rfl, rfl, rfl⟩
        · have : own 0 = false := by
            cases hb : own 0 with
            | false => rfl
            | true => have := (hown 0).1 hb; omega
          rw [this]; rfl
end Tree
