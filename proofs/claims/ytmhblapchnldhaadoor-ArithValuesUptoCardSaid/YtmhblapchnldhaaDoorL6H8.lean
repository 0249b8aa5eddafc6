/- Layer 6: sums, by the program and by the document: every term. -/
import Derived.Test.YtmhblapchnldhaaDoorL6H7
set_option autoImplicit false
set_option linter.unusedVariables false
set_option linter.unusedSimpArgs false
namespace Tree.H6
open Go
set_option maxHeartbeats 8000000
set_option maxRecDepth 100000
def spOk (sp : List (List LV)) : Prop := ∀ n, LV.noRefss n sp = true
theorem exists_list {α β : Type} {P : α → β → Prop} : ∀ l : List α, (∀ a ∈ l, ∃ x, P a x) → ∃ xs : List β, xs.length = l.length ∧ ∀ (i : Nat) a x, l[i]? = some a → xs[i]? = some x → P a x
  | [], _ => ⟨[], rfl, fun i a x h => by cases h⟩
  | a :: l, h => by
    obtain ⟨x, hx⟩ := h a (List.mem_cons_self ..)
    obtain ⟨xs, h1, h2⟩ := exists_list l fun b hb => h b (List.mem_cons_of_mem _ hb)
    refine ⟨x :: xs, by simp [h1], fun i b y hb hy => ?_⟩
    cases i with
    | zero => cases hb; cases hy; exact hx
    | succ i => exact h2 i b y hb hy
theorem sum_le (xs : List Rz) : ∀ l : List (List C), xs.length = l.length → (∀ (i : Nat) a x, l[i]? = some a → xs[i]? = some x → x.2.2.length ≤ a.length) → (xs.map fun x => x.2.2.length).sum ≤ l.flatten.length := by
  induction xs with
  | nil => intro l _ _; simp
  | cons x xs ih =>
    intro l h1 h2
    cases l with
    | nil => simp at h1
    | cons a l =>
      have h3 := ih l (by simpa using h1) fun i b y hb hy => h2 (i + 1) b y hb hy
      have h4 := h2 0 a x rfl rfl
      simp only [List.map_cons, List.sum_cons, List.flatten_cons, List.length_append]
      omega
section
variable {ob : Obs} {M : Mp} (hM : MOk M) {p q : LV} (hp : isPtr p) (hv : ∀ (k : NV) (pb : Nat), Gives env6 253 [p, nm k.1 k.2] ob pb (.tup [nv (M k), .bool (M k).isSome], ob)) (hq : isPtr q) (hu : ∀ (k : NV) (pb : Nat), Gives env6 268 [q, nm k.1 k.2] ob pb (.tup [nv (M k), .bool (M k).isSome], ob)) (hch : ∀ cs, ∃ l, Ch M cs l ∧ l.length ≤ 4294967296)
include hM hp hv hq hu hch
theorem sums_ok : ∀ (n : Nat) (cs : List C), cs.length ≤ n → RightP cs → (∀ c ∈ cs, c.fine) → ∃ x : Rz, x.2.2.length ≤ cs.length ∧ (∀ (lab : Nat) (sp : List (List LV)), spOk sp → ∀ pb, Gives env6 238 [p, sl5 false lab cs sp] ob pb (Rz.lv x, ob)) ∧ (∀ (lab : Nat) (sp : List (List LV)), spOk sp → ∀ pb, Gives env6 240 [q, sl5 false lab cs sp] ob pb (Rz.out x, ob))
  | 0, cs, hn, hR, _ => absurd (List.length_eq_zero_iff.1 (by omega)) hR.1
  | n + 1, [], hn, hR, _ => absurd rfl hR.1
  | n + 1, c :: t, hn, hR, hf => by
    obtain ⟨k1, k2, k3⟩ := right_kinds hR
    have hl : (c :: t).length ≤ 1048576 := by have := hR.2.1; omega
    by_cases h1 : c.k = 1
    · refine ⟨(c.n, false, []), Nat.zero_le _, fun lab sp hs pb => ?_, fun lab sp hs pb => ?_⟩
      · rcases hp with rfl | ⟨id, rfl⟩
        all_goals
          refine gives_code (f := tf238) rfl ?_
          conv => whnf
          refine ⟨_, ⟨by omega, idx_row (cs := c :: t) (i := 0) rfl⟩, ?_⟩
          conv => whnf
          refine sel_t (by simp; omega) ?_
          conv => whnf
          exact ⟨rfl, rfl, rfl⟩
      · rcases hq with rfl | ⟨id, rfl⟩
        all_goals
          refine gives_code (f := tf240) rfl ?_
          conv => whnf
          refine ⟨_, ⟨by omega, idx_row (cs := c :: t) (i := 0) rfl⟩, ?_⟩
          conv => whnf
          refine sel_t (by simp; omega) ?_
          conv => whnf
          refine ⟨_, ⟨by omega, idx_row (cs := c :: t) (i := 0) rfl⟩, ?_⟩
          conv => whnf
          exact ⟨rfl, rfl, rfl⟩
    by_cases h4 : c.k = 4
    · obtain ⟨fin, hd⟩ := dr_ex hM (c :: t)
      obtain ⟨l, hc, hcl⟩ := hch (c :: t)
      obtain ⟨g1, g2⟩ := dr_good hM hd ⟨hR, hf⟩
      obtain ⟨d, r, rfl⟩ := right_cons g1
      have gP := fun lab sp (hs : spOk sp) => derefP_ok hp hv hM lab (c :: t) (d :: r) sp hs hl hd
      have gQ := fun lab sp (hs : spOk sp) => derefR_ok hq hu lab (c :: t) (d :: r) sp hs (by simp) hd l hc hcl
      obtain ⟨x, hx⟩ : ∃ x : Rz, x = if d.k = 1 then (d.n, false, []) else if d.k = 4 then (0, false, [(d.node, d.num)]) else (0, true, []) := ⟨_, rfl⟩
      have hr : ∀ lab sp, ∃ lab' sp', (if (nxt M (c :: t)).isSome then sl5 false 0 (d :: r) [] else sl5 false lab (d :: r) sp) = sl5 false lab' (d :: r) sp' ∧ (spOk sp → spOk sp') := by
        intro lab sp
        split
        · exact ⟨0, [], rfl, fun _ n => by simp [LV.noRefss]⟩
        · exact ⟨lab, sp, rfl, id⟩
      refine ⟨x, ?_, fun lab sp hs pb => ?_, fun lab sp hs pb => ?_⟩
      · rw [hx]; split
        · exact Nat.zero_le _
        · split
          · simp
          · exact Nat.zero_le _
      · clear hv hu hch gQ hd hc
        rcases hp with rfl | ⟨id, rfl⟩
        all_goals
          refine gives_code (f := tf238) rfl ?_
          conv => whnf
          refine ⟨_, ⟨by omega, idx_row (cs := c :: t) (i := 0) rfl⟩, ?_⟩
          conv => whnf
          refine sel_f (by simp; omega) ?_
          conv => whnf
          refine sel_t (by simp; omega) ?_
          conv => whnf
          refine ⟨_, _, gP lab sp hs _, fun _ => noRef5 _ _ _ _, ?_⟩
          conv => whnf
          refine ⟨_, ⟨by omega, idx_row (cs := d :: r) (i := 0) rfl⟩, ?_⟩
          conv => whnf
          refine sel_split (fun h => ?_) (fun h => ?_)
          · conv => whnf
            refine ⟨_, ⟨by omega, idx_row (cs := d :: r) (i := 0) rfl⟩, ?_⟩
            have h : d.k = 1 := by simpa using h
            rw [if_pos h] at hx
            subst hx
            conv => whnf
            exact ⟨rfl, rfl, rfl⟩
          · conv => whnf
            have h : d.k ≠ 1 := by simpa using h
            rw [if_neg h] at hx
            refine sel_split (fun h => ?_) (fun h => ?_)
            · conv => whnf
              have h : d.k = 4 := by simpa using h
              rw [if_pos h] at hx
              refine ⟨_, ⟨by omega, idx_row (cs := d :: r) (i := 0) rfl⟩, ?_⟩
              subst hx
              conv => whnf
              exact ⟨rfl, rfl, rfl⟩
            · conv => whnf
              have h : d.k ≠ 4 := by simpa using h
              rw [if_neg h] at hx
              subst hx
              exact ⟨rfl, rfl, rfl⟩
      · obtain ⟨lab', sp', e, hs'⟩ := hr lab sp
        have gQ := gQ lab sp hs
        rw [e] at gQ
        clear hv hu hch gP hd hc
        rcases hq with rfl | ⟨id, rfl⟩
        all_goals
          refine gives_code (f := tf240) rfl ?_
          conv => whnf
          refine ⟨_, ⟨by omega, idx_row (cs := c :: t) (i := 0) rfl⟩, ?_⟩
          conv => whnf
          refine sel_f (by simp; omega) ?_
          conv => whnf
          refine sel_t (by simp; omega) ?_
          conv => whnf
          refine ⟨_, _, gQ _, fun _ => ?_, ?_⟩
          · simp only [LV.noRef, noRef_rows, hs' hs _, Bool.and_self]
          conv => whnf
          refine ⟨_, ⟨by omega, idx_row (cs := d :: r) (i := 0) rfl⟩, ?_⟩
          conv => whnf
          refine sel_split (fun h => ?_) (fun h => ?_)
          · conv => whnf
            refine ⟨_, ⟨by omega, idx_row (cs := d :: r) (i := 0) rfl⟩, ?_⟩
            have h : d.k = 1 := by simpa using h
            rw [if_pos h] at hx
            subst hx
            conv => whnf
            exact ⟨rfl, rfl, rfl⟩
          · conv => whnf
            have h : d.k ≠ 1 := by simpa using h
            rw [if_neg h] at hx
            refine sel_split (fun h => ?_) (fun h => ?_)
            · conv => whnf
              have h : d.k = 4 := by simpa using h
              rw [if_pos h] at hx
              refine ⟨_, ⟨by omega, idx_row (cs := d :: r) (i := 0) rfl⟩, ?_⟩
              subst hx
              conv => whnf
              exact ⟨rfl, rfl, rfl⟩
            · conv => whnf
              have h : d.k ≠ 4 := by simpa using h
              rw [if_neg h] at hx
              subst hx
              exact ⟨rfl, rfl, rfl⟩
    by_cases h3 : c.k = 3 ∧ SumOp c
    · obtain ⟨hk, ho⟩ := h3
      obtain ⟨rs, r1, r2⟩ := exists_list (P := fun (a : List C) (x : Rz) => x.2.2.length ≤ a.length ∧ (∀ (lab : Nat) (sp : List (List LV)), spOk sp → ∀ pb, Gives env6 238 [p, sl5 false lab a sp] ob pb (Rz.lv x, ob)) ∧ (∀ (lab : Nat) (sp : List (List LV)), spOk sp → ∀ pb, Gives env6 240 [q, sl5 false lab a sp] ob pb (Rz.out x, ob))) (argsR (c :: t)) (fun a ha => by
        obtain ⟨s1, s2, s3⟩ := args_small hR hk ha
        exact sums_ok n a (by omega) s2 fun d hd => hf d (s3 d hd))
      have hfl := (args_facts hR hk).2.2.1
      have hsum := sum_le rs _ r1 fun i a x ha hx => (r2 i a x ha hx).1
      rw [hfl] at hsum
      have h256 := hR.2.1
      simp only [List.length_cons] at h256
      have hw := wz_len rs
      have hs0 : spOk [] := fun n => by simp [LV.noRefss]
      refine ⟨_, ?_, fun lab sp hs pb => reckon_op hR hf hk ho r1 (by omega) hp (fun i a x ha hx pb => (r2 i a x ha hx).2.1 0 [] hs0 pb) lab sp pb _ rfl, fun lab sp hs pb => sum_op hR hf hk ho r1 (by omega) hq (fun i a x ha hx pb => (r2 i a x ha hx).2.2 0 [] hs0 pb) lab sp pb _ rfl⟩
      split
      · simp only [List.length_cons]; omega
      · exact Nat.zero_le _
    · refine ⟨(0, true, []), Nat.zero_le _, fun lab sp hs pb => ?_, fun lab sp hs pb => ?_⟩
      · have gO := fun ob pb => isOp_ok c ob pb false (by simp [h3])
        rcases hp with rfl | ⟨id, rfl⟩
        all_goals
          refine gives_code (f := tf238) rfl ?_
          conv => whnf
          refine ⟨_, ⟨by omega, idx_row (cs := c :: t) (i := 0) rfl⟩, ?_⟩
          conv => whnf
          refine sel_f (by simp; omega) ?_
          conv => whnf
          refine sel_f (by simp; omega) ?_
          conv => whnf
          refine ⟨_, _, gO _ _, fun _ => rfl, ?_⟩
          conv => whnf
          exact ⟨rfl, rfl, rfl⟩
      · have gA := fun ob pb => (refArgs_ok lab (c :: t) sp (by omega) hf ob pb).le le16
        have hlen2 : (((argsR (c :: t)).map T1.mk0).map T1.row).length = (argsR (c :: t)).length := by simp
        have gO : c.k = 3 → ∀ ob pb, Gives env6 262 [.str c.text, .int .i64 ((argsR (c :: t)).length : Int)] ob pb (.bool false, ob) := fun hk ob pb => operator_ok c.text _ ob pb false (by
          rw [args_n hR hk]
          have : ¬ SumOp c := fun h => h3 ⟨hk, h⟩
          unfold SumOp at this
          simpa using this)
        rcases hq with rfl | ⟨id, rfl⟩
        all_goals
          refine gives_code (f := tf240) rfl ?_
          conv => whnf
          refine ⟨_, ⟨by omega, idx_row (cs := c :: t) (i := 0) rfl⟩, ?_⟩
          conv => whnf
          refine sel_f (by simp; omega) ?_
          conv => whnf
          refine sel_f (by simp; omega) ?_
          conv => whnf
          refine sel_split (fun h => ?_) (fun h => ?_)
          · conv => whnf
            exact ⟨rfl, rfl, rfl⟩
          · conv => whnf
            have h : c.k ≠ 2 := by simpa using h
            refine ⟨_, _, gA _ _, fun _ => noRefM _ _, ?_⟩
            conv => whnf
            refine ⟨_, ⟨by omega, idx_row (cs := c :: t) (i := 0) rfl⟩, ?_⟩
            conv => whnf
            rw [hlen2]
            refine ⟨_, _, gO (by omega) _ _, fun _ => rfl, ?_⟩
            conv => whnf
            exact ⟨rfl, rfl, rfl⟩
end
end Tree.H6
