/- Layer 4: the law CheckCalls, what E answers. -/
import Derived.Test.YtpjoppajohmmnaaDoorTLd
set_option autoImplicit false
set_option linter.unusedVariables false
set_option linter.unusedSimpArgs false
namespace Tree
open Go
set_option maxHeartbeats 4000000
set_option maxRecDepth 100000
theorem filter_or {α : Type} (p q : α → Bool) (hd : ∀ x, p x = true → q x = false) : ∀ l : List α, (l.filter fun x => p x || q x).length = (l.filter p).length + (l.filter q).length
  | [] => rfl
  | x :: l => by
    have ih := filter_or p q hd l
    have := hd x
    cases hp : p x <;> cases hq : q x <;> simp [List.filter_cons, hp, hq, ih] at this ⊢ <;> first | omega | (simp_all)
open Classical in
theorem sum_clauses (p : List Cl) : ∀ all : List PV, all.Nodup → (all.map fun q => (clausesC p q).length).sum = ((List.range p.length).filter fun j => decide (∃ q ∈ all, ∃ c, p[j]? = some c ∧ predC c.head = some q)).length
  | [], _ => by
    simp only [List.map_nil, List.sum_nil]
    symm
    rw [List.length_eq_zero_iff, List.filter_eq_nil_iff]
    simp
  | q :: all, hn => by
    obtain ⟨h1, h2⟩ := List.nodup_cons.1 hn
    rw [List.map_cons, List.sum_cons, sum_clauses p all h2]
    have := filter_or (fun j => decide (∃ c, p[j]? = some c ∧ predC c.head = some q)) (fun j => decide (∃ q ∈ all, ∃ c, p[j]? = some c ∧ predC c.head = some q)) (fun j h => by
      simp only [decide_eq_true_eq, decide_eq_false_iff_not] at h ⊢
      rintro ⟨q', m, c', e1, e2⟩
      obtain ⟨c, g1, g2⟩ := h
      rw [g1] at e1; cases e1
      rw [g2] at e2; cases e2
      exact h1 m) (List.range p.length)
    unfold clausesC clausesN
    rw [← this]
    congr 1
    apply List.filter_congr
    intro j _
    rw [Bool.eq_iff_iff]
    simp only [decide_eq_true_eq, Bool.or_eq_true, List.mem_cons, exists_eq_or_imp]
theorem nodup_predsC : ∀ (p : List Cl) (o : List PV), o.Nodup → (predsC o p).Nodup
  | [], o, h => h
  | c :: p, o, h => by
    refine nodup_predsC p _ ?_
    unfold addH addO
    split
    · exact nodup_addP h
    · exact h
theorem checkCalls_ok (live : Gives env4 275 [] [] 0 (.bool true, [])) (p : List Cl) (sp : List (List LV)) (hl : p.length ≤ 1048576) (hf : ∀ c ∈ p, c.fine) : Gives env4 572 [slC false 0 p sp] [] 0 (.bool true, []) := by
  have hlen : (p.map Cl.row).length = p.length := by simp
  obtain ⟨j, e, hw, hg⟩ := where_ok 0 p sp hl hf
  refine gives_code (f := tf572) rfl ?_
  conv => whnf
  refine ⟨_, _, live, fun _ => rfl, ?_⟩
  conv => whnf
  refine ⟨_, _, program_ok 0 p sp e j hg [] _, fun _ => rfl, ?_⟩
  conv => whnf
  refine sel_split (fun h => ?_) (fun h => ?_)
  · conv => whnf
    refine ⟨_, _, refProgram_ok 0 p sp hl hf j e hw [] _, fun _ => rfl, ?_⟩
    conv => whnf
    exact ⟨rfl, by rw [h]; rfl, rfl⟩
  · have h : e = 0 := by simpa using h
    subst h
    obtain ⟨h64, hP⟩ := where_ok0 hw
    obtain ⟨all, hall⟩ : ∃ all, all = predsC [] p := ⟨_, rfl⟩
    have hnd : all.Nodup := by rw [hall]; exact nodup_predsC p [] List.nodup_nil
    have hal := predsC_len p []
    simp only [List.length_nil] at hal
    rw [← hall] at hal
    have hsum : (all.map fun q => (clausesC p q).length).sum = p.length := by
      have key : ∀ j ∈ List.range p.length, ∃ q ∈ all, ∃ c, p[j]? = some c ∧ predC c.head = some q := by
        intro i hi
        have hi := List.mem_range.1 hi
        have hm : p[i] ∈ p := List.getElem_mem hi
        have h1 : ¬ HeadW p[i] := hP 2 (by omega) _ hm
        obtain ⟨hR, _, _⟩ := hP.right (by omega) hm
        have hC : CalP p[i].head := Classical.byContradiction fun hn => h1 (.inl hn)
        obtain ⟨c, t, hh⟩ := right_cons hR
        rw [hh] at hC hR
        obtain ⟨k1, _, _⟩ := right_kinds hR
        have hC' := call_cons.1 hC
        obtain ⟨q, hq⟩ : ∃ q, predC p[i].head = some q := by
          rw [hh]
          simp only [predC, if_pos hC'.2.2]
          rcases k1 with g | g | g | g
          · exact absurd g hC'.1
          · exact ⟨_, if_pos g⟩
          · exact ⟨(c.text, c.n), by rw [if_neg (by omega), if_pos g]⟩
          · exact absurd g hC'.2.1
        exact ⟨q, by rw [hall]; exact mem_predsC.2 (.inr ⟨p[i], hm, hq⟩), p[i], List.getElem?_eq_getElem hi, hq⟩
      rw [sum_clauses p all hnd, List.filter_eq_self.2 (fun i hi => decide_eq_true (key i hi)), List.length_range]
    have hpart : ∀ i, ((all.take i).map fun q => (clausesC p q).length).sum ≤ p.length := fun i => by
      rw [← hsum]
      conv => rhs; rw [← List.take_append_drop i all, List.map_append, List.sum_append]
      omega
    have hanl : (all.map prow).length = all.length := by simp
    conv => whnf
    refine ⟨_, _, preds_ok 0 0 p sp [] hl hf [] _, fun _ => noRefP _ _ _ _, ?_⟩
    rw [← hall]
    conv => whnf
    refine loop_v (V := fun i : Nat => [(4, .int .i64 (((all.take i).map fun q => (clausesC p q).length).sum : Nat)), (5, .int .i64 i)]) (O := fun _ => []) (m := fun i => all.length - i) (P := fun i => i ≤ all.length) ?_ 0 (Nat.zero_le _) rfl
    intro R i hi hN hE hR
    conv => whnf
    refine sel_split (fun h => ?_) (fun h => ?_)
    · have h := of_decide_eq_true h
      rw [hanl] at h
      obtain ⟨q, hq⟩ : ∃ q, all[i]? = some q := ⟨_, List.getElem?_eq_getElem (show i < all.length by omega)⟩
      have ei : IntKind.i64.wrap ((i : Int) + 1) = ((i + 1 : Nat) : Int) := by rw [wrap64] <;> omega
      have hst : ((all.take (i + 1)).map fun q => (clausesC p q).length).sum = ((all.take i).map fun q => (clausesC p q).length).sum + (clausesC p q).length := by
        rw [List.take_add_one, hq, List.map_append, List.sum_append]; simp
      have hp1 := hpart (i + 1)
      rw [hst] at hp1
      conv => whnf
      refine ⟨_, ⟨by omega, idx_p hq⟩, ?_⟩
      conv => whnf
      refine ⟨_, ⟨by omega, idx_p hq⟩, ?_⟩
      conv => whnf
      refine ⟨_, _, clauses_ok 0 p sp q hl hf [] _, fun _ => noRefN _ _ _ _, ?_⟩
      have hks : ∀ k ∈ clausesC p q, k < p.length ∧ ∃ c, p[k]? = some c ∧ IsP c.head q.1 q.2 := fun k hk => by
        obtain ⟨h1, c, h2, h3⟩ := clausesN_mem.1 hk
        exact ⟨h1, c, h2, predC_is h3⟩
      generalize clausesC p q = ks at hst hp1 hks ⊢
      have hkl : (ks.map irow).length = ks.length := by simp
      have es : IntKind.i64.wrap (((((all.take i).map fun q => (clausesC p q).length).sum : Nat) : Int) + ((ks.map irow).length : Int)) = ((((all.take (i + 1)).map fun q => (clausesC p q).length).sum : Nat) : Int) := by
        rw [hst, hkl, wrap64] <;> omega
      conv => whnf
      rw [es]
      refine loop_v (V := fun k : Nat => [(7, .int .i64 k)]) (O := fun _ => []) (m := fun k => ks.length - k) (P := fun k => k ≤ ks.length) ?_ 0 (Nat.zero_le _) rfl
      intro R2 k hk hN2 hE2 hR2
      conv => whnf
      refine sel_split (fun h2 => ?_) (fun h2 => ?_)
      · have h2 := of_decide_eq_true h2
        rw [hkl] at h2
        obtain ⟨n, hn⟩ : ∃ q, ks[k]? = some q := ⟨_, List.getElem?_eq_getElem (show k < ks.length by omega)⟩
        have ek : IntKind.i64.wrap ((k : Int) + 1) = ((k + 1 : Nat) : Int) := by rw [wrap64] <;> omega
        obtain ⟨h3, c, h4, h5⟩ := hks n (List.mem_of_getElem? hn)
        conv => whnf
        refine ⟨_, ⟨by omega, idx_i hn⟩, ?_⟩
        conv => whnf
        refine ⟨_, ⟨by omega, idx_i hn⟩, ?_⟩
        conv => whnf
        refine sel_split (fun h7 => ?_) (fun h7 => ?_)
        · exfalso; have h7 := of_decide_eq_true h7; rw [hlen] at h7; omega
        conv => whnf
        refine ⟨_, ⟨by omega, idx_i hn⟩, ?_⟩
        conv => whnf
        refine ⟨_, ⟨by omega, idx_c h4⟩, ?_⟩
        conv => whnf
        refine ⟨_, ⟨by omega, idx_p hq⟩, ?_⟩
        conv => whnf
        refine ⟨_, ⟨by omega, idx_p hq⟩, ?_⟩
        conv => whnf
        refine ⟨_, _, refIs_ok c.hlab c.head c.hsp q.1 q.2 [] _ true ⟨fun _ => h5, fun _ => rfl⟩, fun _ => rfl, ?_⟩
        conv => whnf
        refine hN2 (k + 1) _ (by omega) (by omega) ?_
        rw [← ek]; rfl
      · conv => whnf
        refine hE2 _ _ ?_
        conv => whnf
        refine hN (i + 1) _ (by omega) (by omega) ?_
        rw [← ei]; rfl
    · have h := of_decide_eq_false h
      rw [hanl] at h
      have : i = all.length := by omega
      subst this
      conv => whnf
      refine hE _ _ ?_
      rw [List.take_length, hsum]
      conv => whnf
      clear hN hE hR R
      refine loop_v (V := fun i : Nat => [(8, .int .i64 i)]) (O := fun _ => []) (m := fun i => p.length - i) (P := fun i => i ≤ p.length) ?_ 0 (Nat.zero_le _) rfl
      intro R i hi hN hE hR
      conv => whnf
      refine sel_split (fun h => ?_) (fun h => ?_)
      · have h := of_decide_eq_true h
        rw [hlen] at h
        obtain ⟨c, hc⟩ : ∃ q, p[i]? = some q := ⟨_, List.getElem?_eq_getElem (show i < p.length by omega)⟩
        have ei : IntKind.i64.wrap ((i : Int) + 1) = ((i + 1 : Nat) : Int) := by rw [wrap64] <;> omega
        have hnw : ¬ PredW (predsC [] p) c := hP 5 (by omega) c (List.mem_of_getElem? hc)
        have hca : callsAt p i = callsC [] c.body := by unfold callsAt; rw [hc]
        have hcl := callsC_len c.body []
        have hbl := (hf c (List.mem_of_getElem? hc)).bl
        simp only [List.length_nil, Nat.zero_add] at hcl
        conv => whnf
        refine ⟨_, _, callsAt_ok 0 p sp i hf [] _, fun _ => noRefP _ _ _ _, ?_⟩
        rw [hca]
        unfold PredW at hnw
        generalize callsC [] c.body = ns at hcl hnw ⊢
        have hnl : (ns.map prow).length = ns.length := by simp
        conv => whnf
        refine loop_v (V := fun k : Nat => [(10, .int .i64 k)]) (O := fun _ => []) (m := fun k => ns.length - k) (P := fun k => k ≤ ns.length) ?_ 0 (Nat.zero_le _) rfl
        intro R2 k hk hN2 hE2 hR2
        conv => whnf
        refine sel_split (fun h2 => ?_) (fun h2 => ?_)
        · have h2 := of_decide_eq_true h2
          rw [hnl] at h2
          obtain ⟨q, hq⟩ : ∃ q, ns[k]? = some q := ⟨_, List.getElem?_eq_getElem (show k < ns.length by omega)⟩
          have ek : IntKind.i64.wrap ((k : Int) + 1) = ((k + 1 : Nat) : Int) := by rw [wrap64] <;> omega
          have hqp : q ∈ predsC [] p := Classical.byContradiction fun hn => hnw ⟨q, List.mem_of_getElem? hq, hn⟩
          have hne : clausesC p q ≠ [] := fun e => (clausesC_nil.1 e) hqp
          conv => whnf
          refine ⟨_, ⟨by omega, idx_p hq⟩, ?_⟩
          conv => whnf
          refine ⟨_, ⟨by omega, idx_p hq⟩, ?_⟩
          conv => whnf
          refine ⟨_, _, clauses_ok 0 p sp q hl hf [] _, fun _ => noRefN _ _ _ _, ?_⟩
          generalize clausesC p q = ks at hne ⊢
          conv => whnf
          refine sel_split (fun h6 => ?_) (fun h6 => ?_)
          · exfalso; simp at h6; exact hne h6
          conv => whnf
          refine hN2 (k + 1) _ (by omega) (by omega) ?_
          rw [← ek]; rfl
        · conv => whnf
          refine hE2 _ _ ?_
          conv => whnf
          refine hN (i + 1) _ (by omega) (by omega) ?_
          rw [← ei]; rfl
      · conv => whnf
        refine hE _ _ ?_
        conv => whnf
        refine ⟨rfl, ?_, rfl⟩
        show LV.bool _ = LV.bool true
        rw [hlen]; simp
end Tree
