/- Layer 4: the first clause that is wrong, and how. -/
import Derived.Test.YtpjoppajohmmnaaDoorL4Looks2
import Derived.Test.YtpjoppajohmmnaaDoorLoopV
set_option autoImplicit false
set_option linter.unusedVariables false
set_option linter.unusedSimpArgs false
namespace Tree
open Go
set_option maxHeartbeats 4000000
set_option maxRecDepth 100000
noncomputable def addH (o : List PV) (c : Cl) : List PV := addO o (predC c.head)
noncomputable def predsC (o : List PV) (p : List Cl) : List PV := p.foldl addH o
theorem predsC_take {p : List Cl} {i : Nat} {c : Cl} (h : p[i]? = some c) (o : List PV) : predsC o (p.take (i + 1)) = addH (predsC o (p.take i)) c := by
  rw [List.take_add_one, h]; simp [predsC]
theorem predsC_len : ∀ (p : List Cl) (o : List PV), (predsC o p).length ≤ o.length + p.length
  | [], o => by simp [predsC]
  | c :: p, o => by
    have h1 := predsC_len p (addH o c)
    have h2 := addO_len o (predC c.head)
    have e : predsC o (c :: p) = predsC (addH o c) p := rfl
    rw [e, List.length_cons]; unfold addH at h1 ⊢; omega
theorem preds_ok (l1 lab : Nat) (p : List Cl) (sp s1 : List (List LV)) (hl : p.length ≤ 1048576) (hf : ∀ c ∈ p, c.fine) (ob : Obs) (pb : Nat) : Gives env4 286 [.sl false l1 1 [[slC false lab p sp]] s1] ob pb (slP true 0 (predsC [] p) [], ob) := by
  have hlen : (p.map Cl.row).length = p.length := by simp
  refine gives_code (f := tf286) rfl ?_
  conv => whnf
  refine loop_v (V := fun i : Nat => [(3, slP true 0 (predsC [] (if i = 0 then [] else p)) []), (12, .int .i64 i)]) (O := fun _ => ob) (m := fun i => 1 - i) (P := fun i => i ≤ 1) ?_ 0 (Nat.zero_le _) rfl
  intro R i hi hN hE hR
  conv => whnf
  refine sel_split (fun h => ?_) (fun h => ?_)
  · have hi0 : i = 0 := by
      have h := of_decide_eq_true h
      simp at h; omega
    subst hi0
    conv => whnf
    refine ⟨_, ⟨by omega, rfl⟩, ?_⟩
    conv => whnf
    refine loop_v (V := fun k : Nat => [(3, slP true 0 (predsC [] (p.take k)) []), (18, .int .i64 k)]) (O := fun _ => ob) (m := fun k => p.length - k) (P := fun k => k ≤ p.length) ?_ 0 (Nat.zero_le _) rfl
    intro R2 k hk hN2 hE2 hR2
    conv => whnf
    refine sel_split (fun h2 => ?_) (fun h2 => ?_)
    · conv => whnf
      have h2 := of_decide_eq_true h2
      rw [hlen] at h2
      obtain ⟨c, hc⟩ : ∃ c, p[k]? = some c := ⟨_, List.getElem?_eq_getElem (show k < p.length by omega)⟩
      have e : IntKind.i64.wrap ((k : Int) + 1) = ((k + 1 : Nat) : Int) := by rw [wrap64] <;> omega
      have hcf := hf c (List.mem_of_getElem? hc)
      have hst := predsC_take hc []
      have hln := predsC_len (p.take k) []
      rw [List.length_take] at hln
      obtain ⟨cur, hcur⟩ : ∃ cur, cur = predsC [] (p.take k) := ⟨_, rfl⟩
      rw [← hcur] at hst hln ⊢
      refine ⟨_, ⟨by omega, idx_c hc⟩, ?_⟩
      conv => whnf
      refine ⟨_, _, predOf_ok c.hlab c.head c.hsp (by have := hcf.hl; omega) hcf.hf ob _, fun _ => noRefPV _ _, ?_⟩
      unfold addH at hst
      rcases hp : predC c.head with _ | x
      · rw [hp] at hst
        conv => whnf
        refine hN2 (k + 1) _ (by omega) (by omega) ?_
        rw [← e, hst]; rfl
      · rw [hp] at hst
        conv => whnf
        obtain ⟨q, hq⟩ := boolOf (x ∈ cur)
        refine ⟨_, _, hasPred_ok 0 cur [] x (by simp only [List.length_nil] at hln; omega) ob _ q hq, fun _ => rfl, ?_⟩
        conv => whnf
        refine sel_split (fun h3 => ?_) (fun h3 => ?_)
        · conv => whnf
          have h3 : q = false := by simpa using h3
          have hnew : addO cur (some x) = cur ++ [x] := by
            show addP cur x = _
            unfold addP; rw [if_neg (fun hm => by rw [hq.2 hm] at h3; cases h3)]
          rw [hnew] at hst
          refine ⟨(predsC [] (p.take (k + 1))).map prow, ⟨.inl rfl, ?_, ?_⟩, ?_⟩
          · show ((cur.map prow).length + 1) * 24 ≤ _
            rw [List.length_map]; simp only [List.length_nil] at hln; omega
          · rw [hst, List.map_append]; rfl
          conv => whnf
          refine hN2 (k + 1) _ (by omega) (by omega) ?_
          rw [← e]; rfl
        · conv => whnf
          have h3 : q = true := by simpa using h3
          have hnew : addO cur (some x) = cur := by
            show addP cur x = _
            unfold addP; rw [if_pos (hq.1 h3)]
          rw [hnew] at hst
          refine hN2 (k + 1) _ (by omega) (by omega) ?_
          rw [← e, hst]; rfl
    · conv => whnf
      have h2 := of_decide_eq_false h2
      rw [hlen] at h2
      have : k = p.length := by omega
      subst this
      refine hE2 _ _ ?_
      conv => whnf
      refine hN 1 _ (by omega) (by omega) ?_
      rw [List.take_length]; rfl
  · conv => whnf
    have hi1 : i = 1 := by
      have h := of_decide_eq_false h
      simp at h; omega
    subst hi1
    refine hE _ _ ?_
    conv => whnf
    exact ⟨rfl, rfl, rfl⟩
def LookW (there : List PV) : Nat → Cl → Prop
  | 0, c => LongW c
  | 1, c => FormW c
  | 2, c => HeadW c
  | 3, c => GuardW c
  | 4, c => BodyW c
  | 5, c => PredW there c
  | _, _ => False
def errAt : Nat → Int
  | 0 => 5
  | 1 => 6
  | 2 => 40
  | 3 => 41
  | 4 => 42
  | _ => 43
def lookFn (there : List PV) : Nat → LV
  | 0 => .fn 291 []
  | 1 => .fn 292 []
  | 2 => .fn 293 []
  | 3 => .fn 294 []
  | 4 => .fn 295 []
  | _ => .fn 290 [.iptr 0 [slP false 0 there []] 0]
/-- All looks before the k-th have passed. -/
def Passed (there : List PV) (p : List Cl) (k : Nat) : Prop := ∀ k', k' < k → ∀ c ∈ p, ¬ LookW there k' c
theorem Passed.right {there : List PV} {p : List Cl} {k : Nat} (h : Passed there p k) (hk : 2 ≤ k) {c : Cl} (hc : c ∈ p) : RightP c.head ∧ (∀ g ∈ c.guards, RightP g.cs) ∧ ∀ g ∈ c.body, RightP g.cs := by
  have h1 : ¬ FormW c := h 1 (by omega) c hc
  have h2 : ∀ t ∈ termsOf c, RightP t.cs := fun t ht => Classical.byContradiction fun hn => h1 (.inr (.inl ⟨t, ht, hn⟩))
  have e : termsOf c = (⟨c.hlab, c.head, c.hsp⟩ : T1) :: (c.guards ++ c.body) := rfl
  rw [e] at h2
  refine ⟨h2 ⟨c.hlab, c.head, c.hsp⟩ (List.mem_cons_self ..), fun g hg => h2 g (List.mem_cons_of_mem _ (List.mem_append_left _ hg)), fun g hg => h2 g (List.mem_cons_of_mem _ (List.mem_append_right _ hg))⟩
theorem look_call (there : List PV) (htl : there.length ≤ 1048576) (lab : Nat) (p : List Cl) (sp : List (List LV)) (hl : p.length ≤ 1048576) (hf : ∀ c ∈ p, c.fine) (k : Nat) (hk : k < 6) (hP : Passed there p k) (ob : Obs) (pb : Nat) :
    ∃ j : Int, FirstJ p (LookW there k) j ∧ Gives env4 296 [slC false lab p sp, lookFn there k] ob pb (.int .i64 j, ob) := by
  have hl' : p.length ≤ 4611686018427387904 := by omega
  have : k = 0 ∨ k = 1 ∨ k = 2 ∨ k = 3 ∨ k = 4 ∨ k = 5 := by omega
  rcases this with rfl | rfl | rfl | rfl | rfl | rfl
  · exact idx296_ok 291 lab p sp _ hl' (fun c hc ob pb r hr => long_ok c ob pb r hr) ob pb
  · exact idx296_ok 292 lab p sp _ hl' (fun c hc ob pb r hr => form_ok c (hf c hc) (hP 0 (by omega) c hc) ob pb r hr) ob pb
  · exact idx296_ok 293 lab p sp _ hl' (fun c hc ob pb r hr => head_ok c (hf c hc) (hP.right (by omega) hc).1 ob pb r hr) ob pb
  · exact idx296_ok 294 lab p sp _ hl' (fun c hc ob pb r hr => guard_ok c (hf c hc) (hP.right (by omega) hc).1 (hP.right (by omega) hc).2.1 ob pb r hr) ob pb
  · exact idx296_ok 295 lab p sp _ hl' (fun c hc ob pb r hr => body_ok c (hf c hc) (hP.right (by omega) hc).2.2 ob pb r hr) ob pb
  · exact idx296p_ok 290 0 0 lab _ p sp _ hl' (fun c hc ob pb r hr => callLook_ok c (hf c hc) there htl 0 ob pb r hr) ob pb
def Found (p : List Cl) (j e : Int) : Prop := ∃ (k i : Nat) (c : Cl), k < 6 ∧ e = errAt k ∧ j = i ∧ p[i]? = some c ∧ LookW (predsC [] p) k c ∧ (∀ (i' : Nat) c', i' < i → p[i']? = some c' → ¬ LookW (predsC [] p) k c') ∧ Passed (predsC [] p) p k
def WhereR (p : List Cl) (j e : Int) : Prop := (p.length > 64 ∧ j = 0 ∧ e = 5) ∨ (p.length ≤ 64 ∧ (Found p j e ∨ (j = 0 ∧ e = 0 ∧ Passed (predsC [] p) p 6)))
theorem where_ok (lab : Nat) (p : List Cl) (sp : List (List LV)) (hl : p.length ≤ 1048576) (hf : ∀ c ∈ p, c.fine) : ∃ j e, WhereR p j e ∧ ∀ (ob : Obs) (pb : Nat), Gives env4 273 [slC false lab p sp] ob pb (.tup [.int .i64 j, .int .i64 e], ob) := by
  have hlen : (p.map Cl.row).length = p.length := by simp
  have hpl := predsC_len p []
  have hpl : (predsC [] p).length ≤ 1048576 := by simp only [List.length_nil] at hpl; omega
  have ex : ∃ j e, WhereR p j e := by
    by_cases h64 : p.length > 64
    · exact ⟨0, 5, .inl ⟨h64, rfl, rfl⟩⟩
    · by_cases hP : Passed (predsC [] p) p 6
      · exact ⟨0, 0, .inr ⟨by omega, .inr ⟨rfl, rfl, hP⟩⟩⟩
      · have step : ∀ k, k ≤ 6 → Passed (predsC [] p) p k ∨ ∃ j e, Found p j e := by
          intro k
          induction k with
          | zero => intro _; exact .inl fun k' h => by omega
          | succ k ih =>
            intro hk
            rcases ih (by omega) with h | h
            · obtain ⟨j, hj⟩ := firstJ p (LookW (predsC [] p) k)
              rcases hj with ⟨i, c, rfl, h1, h2, h3⟩ | ⟨rfl, h1⟩
              · exact .inr ⟨i, errAt k, k, i, c, by omega, rfl, rfl, h1, h2, h3, h⟩
              · refine .inl fun k' hk' c hc => ?_
                by_cases e : k' = k
                · subst e; exact h1 c hc
                · exact h k' (by omega) c hc
            · exact .inr h
        rcases step 6 (by omega) with h | ⟨j, e, h⟩
        · exact absurd h hP
        · exact ⟨j, e, .inr ⟨by omega, .inl h⟩⟩
  obtain ⟨j, e, hw⟩ := ex
  refine ⟨j, e, hw, fun ob pb => ?_⟩
  refine gives_code (f := tf273) rfl ?_
  conv => whnf
  refine sel_split (fun h => ?_) (fun h => ?_)
  · conv => whnf
    have h := of_decide_eq_true h
    rw [hlen] at h
    refine ⟨rfl, ?_, rfl⟩
    rcases hw with ⟨_, rfl, rfl⟩ | ⟨h1, _⟩
    · rfl
    · omega
  · conv => whnf
    have h := of_decide_eq_false h
    rw [hlen] at h
    refine ⟨_, _, preds_ok 0 lab p sp [] hl hf ob _, fun _ => noRefP _ _ _ _, ?_⟩
    obtain ⟨there, hth⟩ : ∃ there, there = predsC [] p := ⟨_, rfl⟩
    have hw : Found p j e ∨ (j = 0 ∧ e = 0 ∧ Passed (predsC [] p) p 6) := by
      rcases hw with ⟨h1, _⟩ | ⟨_, h1⟩
      · omega
      · exact h1
    unfold Found at hw
    rw [← hth] at hw hpl ⊢
    conv => whnf
    refine loop_v (V := fun k : Nat => [(27, .int .i64 k)]) (O := fun _ => ob) (m := fun k => 6 - k) (P := fun k => k ≤ 6 ∧ Passed there p k) ?_ 0 ⟨Nat.zero_le _, fun k' h => by omega⟩ rfl
    rintro R k ⟨hk, hP⟩ hN hE hR
    conv => whnf
    refine sel_split (fun h2 => ?_) (fun h2 => ?_)
    · have h2 := of_decide_eq_true h2
      have hk5 : k < 6 := by
        have h2 : (k : Int) < 6 := h2
        omega
      obtain ⟨jj, hj, hg⟩ := look_call there hpl lab p sp hl hf k hk5 hP ob (max pb ob.length)
      have hnext : (∀ x ∈ p, ¬ LookW there k x) → Passed there p (k + 1) := fun hn k' hk' c hc => by
        by_cases e : k' = k
        · subst e; exact hn c hc
        · exact hP k' (by omega) c hc
      have hres : jj ≥ 0 → jj = j ∧ errAt k = e := fun hge => by
        rcases hj with ⟨i, c, rfl, h1, h2, h3⟩ | ⟨rfl, _⟩
        · rcases hw with ⟨k', i', c', g1, g2, g3, g4, g5, g6, g7⟩ | ⟨_, _, g⟩
          · have hkk : k' = k := by
              rcases Nat.lt_trichotomy k' k with q | q | q
              · exact absurd g5 (hP k' q c' (List.mem_of_getElem? g4))
              · exact q
              · exact absurd h2 (g7 k q c (List.mem_of_getElem? h1))
            subst hkk
            have hii : i' = i := by
              rcases Nat.lt_trichotomy i' i with q | q | q
              · exact absurd g5 (h3 i' c' q g4)
              · exact q
              · exact absurd h2 (g6 i c q h1)
            subst hii
            exact ⟨g3.symm, g2.symm⟩
          · exact absurd h2 (g k hk5 c (List.mem_of_getElem? h1))
        · omega
      have hno : ¬ jj ≥ 0 → ∀ x ∈ p, ¬ LookW there k x := fun hn x hx hp => hn (hj.ge.2 ⟨x, hx, hp⟩)
      have : k = 0 ∨ k = 1 ∨ k = 2 ∨ k = 3 ∨ k = 4 ∨ k = 5 := by omega
      rcases this with rfl | rfl | rfl | rfl | rfl | rfl
      all_goals
        conv => whnf
        refine ⟨_, ⟨by omega, rfl⟩, ?_⟩
        conv => whnf
        refine ⟨_, _, hg, fun _ => rfl, ?_⟩
        conv => whnf
        refine sel_split (fun h3 => ?_) (fun h3 => ?_)
        · conv => whnf
          obtain ⟨rfl, rfl⟩ := hres (of_decide_eq_true h3)
          refine hR _ ?_
          conv => whnf
          exact ⟨rfl, rfl, rfl⟩
        · conv => whnf
          exact hN _ _ ⟨by omega, hnext (hno (of_decide_eq_false h3))⟩ (by omega) rfl
    · conv => whnf
      have h2 := of_decide_eq_false h2
      have hk6 : k = 6 := by
        have h2 : ¬ (k : Int) < 6 := h2
        omega
      subst hk6
      refine hE _ _ ?_
      conv => whnf
      refine ⟨rfl, ?_, rfl⟩
      rcases hw with ⟨k', i', c', g1, g2, g3, g4, g5, g6, g7⟩ | ⟨rfl, rfl, _⟩
      · exact absurd g5 (hP k' g1 c' (List.mem_of_getElem? g4))
      · rfl
theorem program_ok (lab : Nat) (p : List Cl) (sp : List (List LV)) (e j : Int) (hg : ∀ (ob : Obs) (pb : Nat), Gives env4 273 [slC false lab p sp] ob pb (.tup [.int .i64 j, .int .i64 e], ob)) (ob : Obs) (pb : Nat) : Gives env4 276 [slC false lab p sp] ob pb (.int .i64 e, ob) := by
  refine gives_code (f := tf276) rfl ?_
  conv => whnf
  refine ⟨_, _, hg ob _, fun _ => rfl, ?_⟩
  conv => whnf
  exact ⟨rfl, rfl, rfl⟩
end Tree
