/- Layer 6: sums by the program alone. -/
import Derived.Test.YtphdgjglofapbaaDoorL6H8
import Derived.Test.YtphdgjglofapbaaDoorL6Top
set_option autoImplicit false
set_option linter.unusedVariables false
set_option linter.unusedSimpArgs false
namespace Tree.H6
open Go
set_option maxHeartbeats 8000000
set_option maxRecDepth 100000
section
variable {ob : Obs} {M : Mp} (hM : MOk M) {p : LV} (hp : isPtr p) (hv : ∀ (k : NV) (pb : Nat), Gives env6 253 [p, nm k.1 k.2] ob pb (.tup [nv (M k), .bool (M k).isSome], ob))
include hM hp hv
theorem sumsP_ok : ∀ (n : Nat) (cs : List C), cs.length ≤ n → RightP cs → (∀ c ∈ cs, c.fine) → ∃ x : Rz, Sm M cs x ∧ x.2.2.length ≤ cs.length ∧ (∀ (lab : Nat) (sp : List (List LV)), spOk sp → ∀ pb, Gives env6 238 [p, sl5 false lab cs sp] ob pb (Rz.lv x, ob))
  | 0, cs, hn, hR, _ => absurd (List.length_eq_zero_iff.1 (by omega)) hR.1
  | n + 1, [], hn, hR, _ => absurd rfl hR.1
  | n + 1, c :: t, hn, hR, hf => by
    obtain ⟨k1, k2, k3⟩ := right_kinds hR
    have hl : (c :: t).length ≤ 1048576 := by have := hR.2.1; omega
    by_cases h1 : c.k = 1
    · refine ⟨(c.n, false, []), .int h1, Nat.zero_le _, fun lab sp hs pb => ?_⟩
      rcases hp with rfl | ⟨id, rfl⟩
      all_goals
        refine gives_code (f := tf238) rfl ?_
        conv => whnf
        refine ⟨_, ⟨by omega, idx_row (cs := c :: t) (i := 0) rfl⟩, ?_⟩
        conv => whnf
        refine sel_t (by simp; omega) ?_
        conv => whnf
        exact ⟨rfl, rfl, rfl⟩
    by_cases h4 : c.k = 4
    · obtain ⟨fin, hd⟩ := dr_ex hM (c :: t)
      obtain ⟨g1, g2⟩ := dr_good hM hd ⟨hR, hf⟩
      obtain ⟨d, r, rfl⟩ := right_cons g1
      have gP := fun lab sp (hs : spOk sp) => derefP_ok hp hv hM lab (c :: t) (d :: r) sp hs hl hd
      obtain ⟨x, hx⟩ : ∃ x : Rz, x = leafZ d := ⟨_, rfl⟩
      have hxs : Sm M (c :: t) x := by rw [hx]; exact .var h4 hd
      unfold leafZ at hx
      refine ⟨x, hxs, ?_, fun lab sp hs pb => ?_⟩
      · rw [hx]; split
        · exact Nat.zero_le _
        · split
          · simp
          · exact Nat.zero_le _
      · clear hv hd hxs
        rcases hp with rfl | ⟨id, rfl⟩
        all_goals
          refine gives_code (f := tf238) rfl ?_
          conv => whnf
          refine ⟨_, ⟨by omega, idx_row (cs := c :: t) (i := 0) rfl⟩, ?_⟩
          conv => whnf
          refine sel_f (by simp; omega) ?_
          conv => whnf
          refine sel_t (by simp; omega) ?_
          conv => whnf
          refine ⟨_, _, gP lab sp hs _, fun _ => noRef5 _ _ _ _, ?_⟩
          conv => whnf
          refine ⟨_, ⟨by omega, idx_row (cs := d :: r) (i := 0) rfl⟩, ?_⟩
          conv => whnf
          refine sel_split (fun h => ?_) (fun h => ?_)
          · conv => whnf
            refine ⟨_, ⟨by omega, idx_row (cs := d :: r) (i := 0) rfl⟩, ?_⟩
            have h : d.k = 1 := by simpa using h
            rw [if_pos h] at hx
            subst hx
            conv => whnf
            exact ⟨rfl, rfl, rfl⟩
          · conv => whnf
            have h : d.k ≠ 1 := by simpa using h
            rw [if_neg h] at hx
            refine sel_split (fun h => ?_) (fun h => ?_)
            · conv => whnf
              have h : d.k = 4 := by simpa using h
              rw [if_pos h] at hx
              refine ⟨_, ⟨by omega, idx_row (cs := d :: r) (i := 0) rfl⟩, ?_⟩
              subst hx
              conv => whnf
              exact ⟨rfl, rfl, rfl⟩
            · conv => whnf
              have h : d.k ≠ 4 := by simpa using h
              rw [if_neg h] at hx
              subst hx
              exact ⟨rfl, rfl, rfl⟩
    by_cases h3 : c.k = 3 ∧ SumOp c
    · obtain ⟨hk, ho⟩ := h3
      obtain ⟨rs, r1, r2⟩ := exists_list (P := fun (a : List C) (x : Rz) => Sm M a x ∧ x.2.2.length ≤ a.length ∧ (∀ (lab : Nat) (sp : List (List LV)), spOk sp → ∀ pb, Gives env6 238 [p, sl5 false lab a sp] ob pb (Rz.lv x, ob))) (argsR (c :: t)) (fun a ha => by
        obtain ⟨s1, s2, s3⟩ := args_small hR hk ha
        exact sumsP_ok n a (by omega) s2 fun d hd => hf d (s3 d hd))
      have hfl := (args_facts hR hk).2.2.1
      have hsum := sum_le rs _ r1 fun i a x ha hx => (r2 i a x ha hx).2.1
      rw [hfl] at hsum
      have h256 := hR.2.1
      simp only [List.length_cons] at h256
      have hw := wz_len rs
      have hs0 : spOk [] := fun n => by simp [LV.noRefss]
      refine ⟨opZ c.text rs, .op hk ho r1 (fun i a x ha hx => (r2 i a x ha hx).1), ?_, fun lab sp hs pb => reckon_op hR hf hk ho r1 (by omega) hp (fun i a x ha hx pb => (r2 i a x ha hx).2.2 0 [] hs0 pb) lab sp pb _ rfl⟩
      unfold opZ
      split
      · simp only [List.length_cons]; omega
      · exact Nat.zero_le _
    · refine ⟨(0, true, []), .bad h1 h4 h3, Nat.zero_le _, fun lab sp hs pb => ?_⟩
      have gO := fun ob pb => isOp_ok c ob pb false (by simp [h3])
      rcases hp with rfl | ⟨id, rfl⟩
      all_goals
        refine gives_code (f := tf238) rfl ?_
        conv => whnf
        refine ⟨_, ⟨by omega, idx_row (cs := c :: t) (i := 0) rfl⟩, ?_⟩
        conv => whnf
        refine sel_f (by simp; omega) ?_
        conv => whnf
        refine sel_f (by simp; omega) ?_
        conv => whnf
        refine ⟨_, _, gO _ _, fun _ => rfl, ?_⟩
        conv => whnf
        exact ⟨rfl, rfl, rfl⟩
theorem valuesP_ok (cs : List C) (hl : cs.length ≤ 1048576) (hf : ∀ c ∈ cs, c.fine) : ∃ x : Rz, ValR M cs x ∧ (∀ (lab : Nat) (sp : List (List LV)), spOk sp → ∀ pb, Gives env6 217 [p, sl5 false lab cs sp] ob pb (Rz.out x, ob)) := by
  obtain ⟨r, hr⟩ := boolOf (RightP cs)
  have g1 := fun lab sp ob pb => (right_ok lab cs sp (by omega) hf ob pb r hr).le le16
  unfold ValR
  cases r with
  | false =>
    refine ⟨(0, true, []), by rw [if_neg (fun h => by have := hr.2 h; cases this)], fun lab sp hs pb => ?_⟩
    rcases hp with rfl | ⟨id, rfl⟩
    all_goals
      refine gives_code (f := tf217) rfl ?_
      conv => whnf
      refine ⟨_, _, g1 lab sp _ _, fun _ => rfl, ?_⟩
      conv => whnf
      exact ⟨rfl, rfl, rfl⟩
  | true =>
    obtain ⟨x, hsx, hx, gP⟩ := sumsP_ok hM hp hv cs.length cs (Nat.le_refl _) (hr.1 rfl) hf
    refine ⟨x, by rw [if_pos (hr.1 rfl)]; exact hsx, fun lab sp hs pb => ?_⟩
    have gP := gP lab sp hs
    obtain ⟨n, f, w⟩ := x
    have hn : ∀ k, (Rz.lv (n, f, w)).noRef k = true := fun k => by simp only [Rz.lv, sumL, LV.noRef, LV.noRefs, noRefss_n, LV.noRefss, Bool.and_self]
    clear hv hsx
    rcases hp with rfl | ⟨id, rfl⟩
    all_goals
      refine gives_code (f := tf217) rfl ?_
      conv => whnf
      refine ⟨_, _, g1 lab sp _ _, fun _ => rfl, ?_⟩
      conv => whnf
      refine ⟨_, _, gP _, fun _ => hn _, ?_⟩
      conv => whnf
      refine ⟨_, _, outcome_ok n f false w ob _, fun _ => rfl, ?_⟩
      cases f with
      | true =>
        conv => whnf
        exact ⟨rfl, rfl, rfl⟩
      | false =>
        cases w with
        | nil =>
          conv => whnf
          exact ⟨rfl, rfl, rfl⟩
        | cons v w =>
          conv => whnf
          exact ⟨rfl, rfl, rfl⟩
end
end Tree.H6
