/- Layer 4: the looks at a clause's head, guards, body, calls. -/
import Derived.Test.YtpjoppajohmmnaaDoorL4Looks
set_option autoImplicit false
set_option linter.unusedVariables false
set_option linter.unusedSimpArgs false
namespace Tree
open Go
set_option maxHeartbeats 4000000
set_option maxRecDepth 100000
def cntV (cs : List C) : Nat := (cs.filter fun c => c.k == 4).length
theorem cntV_take {cs : List C} {i : Nat} {c : C} (h : cs[i]? = some c) : cntV (cs.take (i + 1)) = cntV (cs.take i) + (if c.k = 4 then 1 else 0) := by
  unfold cntV
  rw [List.take_add_one, h, List.filter_append, List.length_append]
  by_cases hk : c.k = 4
  · simp [hk]
  · simp [hk]
theorem cntV_le (cs : List C) : cntV cs ≤ cs.length := List.length_filter_le ..
def HeadW (c : Cl) : Prop := ¬ CalP c.head ∨ IsP c.head trueS 0 ∨ cntV c.head > (varsC [] c.head).length
def S293 (bx : List LV) (k : Int) (v : LV) (n : Nat) (i : Int) (ob : Obs) : WSt := ⟨.val .undef :: .box bx :: .val .undef :: .val (.int .i64 k) :: List.replicate 3 (.val .undef) ++ .val v :: .val (.int .i64 n) :: .val (.int .i64 i) :: List.replicate 27 (.val .undef), ob, []⟩
theorem head_ok (c : Cl) (hf : c.fine) (hR : RightP c.head) (ob : Obs) (pb : Nat) (r : Bool) (hr : r = true ↔ HeadW c) : Gives env4 293 [.agg c.row] ob pb (.bool r, ob) := by
  have hlen : (c.head.map C.row).length = c.head.length := by simp
  have h256 := hR.2.1
  refine gives_code (f := tf293) rfl ?_
  conv => whnf
  refine loop_abs (S := fun i : Nat => S293 c.row (cntV (c.head.take i) : Nat) (sl5 false c.hlab c.head c.hsp) (c.head.map C.row).length i ob) (m := fun i => c.head.length - i) (P := fun i => i ≤ c.head.length) ?_ 0 (Nat.zero_le _) rfl
  intro R i hi hN hE hR'
  conv => whnf
  refine sel_split (fun h => ?_) (fun h => ?_)
  · conv => whnf
    have h := of_decide_eq_true h
    rw [hlen] at h
    obtain ⟨d, hd⟩ : ∃ d, c.head[i]? = some d := ⟨_, List.getElem?_eq_getElem (show i < c.head.length by omega)⟩
    have e : IntKind.i64.wrap ((i : Int) + 1) = ((i + 1 : Nat) : Int) := by rw [wrap64] <;> omega
    have hct := cntV_take hd
    have hcl := cntV_le (c.head.take i)
    rw [List.length_take] at hcl
    have e2 : IntKind.i64.wrap (((cntV (c.head.take i) : Nat) : Int) + 1) = ((cntV (c.head.take i) + 1 : Nat) : Int) := by rw [wrap64] <;> omega
    refine ⟨_, ⟨by omega, idx_row hd⟩, ?_⟩
    conv => whnf
    refine sel_split (fun h2 => ?_) (fun h2 => ?_)
    · conv => whnf
      have h2 : d.k = 4 := by simpa using h2
      rw [if_pos h2] at hct
      refine hN (i + 1) _ (by omega) (by omega) ?_
      rw [← e, hct, ← e2]; rfl
    · conv => whnf
      have h2 : d.k ≠ 4 := by simpa using h2
      rw [if_neg h2] at hct
      refine hN (i + 1) _ (by omega) (by omega) ?_
      rw [← e, hct]; rfl
  · conv => whnf
    have h := of_decide_eq_false h
    rw [hlen] at h
    have : i = c.head.length := by omega
    subst this
    refine hE _ _ ?_
    rw [List.take_length]
    conv => whnf
    obtain ⟨q, hq⟩ := boolOf (CalP c.head)
    refine ⟨_, _, isCall_ok c.hlab c.head c.hsp hR.1 hf.hf ob _ q hq, fun _ => rfl, ?_⟩
    conv => whnf
    refine sel_split (fun h1 => ?_) (fun h1 => ?_)
    · conv => whnf
      refine ⟨rfl, bool_of hr ⟨fun _ => .inl fun hn => ?_, fun _ => rfl⟩, rfl⟩
      rw [hq.2 hn] at h1; cases h1
    · conv => whnf
      have h1 : CalP c.head := hq.1 (by simpa using h1)
      obtain ⟨q2, hq2⟩ := boolOf (IsP c.head trueS 0)
      refine ⟨_, _, is_ok c.hlab c.head c.hsp trueS 0 ob _ q2 hq2, fun _ => rfl, ?_⟩
      conv => whnf
      refine sel_split (fun h2 => ?_) (fun h2 => ?_)
      · conv => whnf
        exact ⟨rfl, bool_of hr ⟨fun _ => .inr (.inl (hq2.1 h2)), fun _ => rfl⟩, rfl⟩
      · conv => whnf
        have h2 : ¬ IsP c.head trueS 0 := fun hn => by rw [hq2.2 hn] at h2; cases h2
        have hfl : ([⟨c.hlab, c.head, c.hsp⟩] : List T1).flatMap T1.cs = c.head := by simp
        refine ⟨_, _, (vars_ok 0 [⟨c.hlab, c.head, c.hsp⟩] [] (by simp) (by rw [hfl]; omega) ob _).le le14, fun _ => noRef2 _ _ _ _, ?_⟩
        have hv0 : varsT [] [⟨c.hlab, c.head, c.hsp⟩] = varsC [] c.head := rfl
        rw [hv0]
        conv => whnf
        refine ⟨rfl, bool_of hr ?_, rfl⟩
        rw [decide_eq_true_iff, List.length_map]
        constructor
        · intro h; exact .inr (.inr (by omega))
        · rintro (h | h | h)
          · exact absurd h1 h
          · exact absurd h h2
          · omega
def GuardW (c : Cl) : Prop := ∃ g ∈ c.guards, ¬ GuardP g.cs ∨ ∃ v ∈ varsC [] g.cs, v ∉ varsC [] c.head
theorem guard_ok (c : Cl) (hf : c.fine) (hR : RightP c.head) (hG : ∀ g ∈ c.guards, RightP g.cs) (ob : Obs) (pb : Nat) (r : Bool) (hr : r = true ↔ GuardW c) : Gives env4 294 [.agg c.row] ob pb (.bool r, ob) := by
  have h256 := hR.2.1
  have hgl := hf.gl
  have hfl : ∀ t : T1, ([t] : List T1).flatMap T1.cs = t.cs := fun t => by simp
  refine gives_code (f := tf294) rfl ?_
  conv => whnf
  refine ⟨_, _, (vars_ok 0 [⟨c.hlab, c.head, c.hsp⟩] [] (by simp) (by rw [hfl]; show c.head.length ≤ _; omega) ob _).le le14, fun _ => noRef2 _ _ _ _, ?_⟩
  have hv0 : varsT [] [⟨c.hlab, c.head, c.hsp⟩] = varsC [] c.head := rfl
  rw [hv0]
  obtain ⟨vs, hvs⟩ : ∃ vs, vs = varsC [] c.head := ⟨_, rfl⟩
  have hvl := varsC_len c.head []
  unfold GuardW at hr
  rw [← hvs] at hvl hr ⊢
  simp only [List.length_nil, Nat.zero_add] at hvl
  conv => whnf
  refine ⟨_, _, any33p_ok 318 _ _ c.glab _ c.guards c.gsp (fun g => ¬ GuardP g.cs ∨ ∃ v ∈ varsC [] g.cs, v ∉ vs) (by omega) (fun g hg ob pb q hq => ?_) ob _ r hr, fun _ => rfl, ?_⟩
  · have hgR := hG g hg
    have hgf := hf.gf g hg
    have hg256 := hgR.2.1
    refine gives_code (f := tf318) rfl ?_
    conv => whnf
    obtain ⟨q1, hq1⟩ := boolOf (GuardP g.cs)
    refine ⟨_, _, isGuard_ok g.lab g.cs g.sp hgR hgf.2 ob _ q1 hq1, fun _ => rfl, ?_⟩
    conv => whnf
    refine sel_split (fun h1 => ?_) (fun h1 => ?_)
    · conv => whnf
      refine ⟨rfl, bool_of hq ⟨fun _ => .inl fun hn => ?_, fun _ => rfl⟩, rfl⟩
      rw [hq1.2 hn] at h1; cases h1
    · conv => whnf
      have h1 : GuardP g.cs := hq1.1 (by simpa using h1)
      refine ⟨_, _, (vars_ok 0 [g] [] (by simp) (by rw [hfl]; omega) ob _).le le14, fun _ => noRef2 _ _ _ _, ?_⟩
      have hv1 : varsT [] [g] = varsC [] g.cs := rfl
      rw [hv1]
      have hwl := varsC_len g.cs []
      simp only [List.length_nil, Nat.zero_add] at hwl
      conv => whnf
      obtain ⟨q2, hq2⟩ := boolOf (∃ v ∈ varsC [] g.cs, v ∉ vs)
      refine ⟨_, _, any174p_ok 331 _ _ 0 _ (varsC [] g.cs) [] (fun v => v ∉ vs) (by omega) (fun v hv ob pb q hq => ?_) ob _ q2 hq2, fun _ => rfl, ?_⟩
      · obtain ⟨q', hq'⟩ := boolOf (v ∈ vs)
        refine gives_code (f := tf331) rfl ?_
        conv => whnf
        refine ⟨_, _, (hasName_ok 0 vs [] v (by omega) ob _ q' hq').le le14, fun _ => rfl, ?_⟩
        conv => whnf
        refine ⟨rfl, bool_of hq ?_, rfl⟩
        show (!q') = true ↔ v ∉ vs
        rw [← hq']; cases q' <;> simp
      conv => whnf
      refine ⟨rfl, bool_of hq ?_, rfl⟩
      rw [hq2]
      exact ⟨fun h => .inr h, fun h => h.elim (fun g => absurd h1 g) id⟩
  conv => whnf
  exact ⟨rfl, rfl, rfl⟩
def BodyW (c : Cl) : Prop := ∃ g ∈ c.body, ¬ GoalP True g.cs
theorem body_ok (c : Cl) (hf : c.fine) (hG : ∀ g ∈ c.body, RightP g.cs) (ob : Obs) (pb : Nat) (r : Bool) (hr : r = true ↔ BodyW c) : Gives env4 295 [.agg c.row] ob pb (.bool r, ob) := by
  have hbl := hf.bl
  refine gives_code (f := tf295) rfl ?_
  conv => whnf
  refine ⟨_, _, any33_ok 319 c.blab c.body c.bsp (fun g => ¬ GoalP True g.cs) (by omega) (fun g hg ob pb q hq => ?_) ob _ r hr, fun _ => rfl, ?_⟩
  · obtain ⟨q', hq'⟩ := boolOf (GoalP True g.cs)
    refine gives_code (f := tf319) rfl ?_
    conv => whnf
    refine ⟨_, _, isGoal_ok g.lab g.cs g.sp (hG g hg) (hf.bf g hg).2 ob _ q' hq', fun _ => rfl, ?_⟩
    conv => whnf
    refine ⟨rfl, bool_of hq ?_, rfl⟩
    show (!q') = true ↔ ¬ GoalP True g.cs
    rw [← hq']; cases q' <;> simp
  conv => whnf
  exact ⟨rfl, rfl, rfl⟩
def PredW (there : List PV) (c : Cl) : Prop := ∃ q ∈ callsC [] c.body, q ∉ there
theorem callLook_ok (c : Cl) (hf : c.fine) (there : List PV) (htl : there.length ≤ 1048576) (lab : Nat) (ob : Obs) (pb : Nat) (r : Bool) (hr : r = true ↔ PredW there c) : Gives env4 290 [.agg c.row, .iptr lab [slP false 0 there []] 0] ob pb (.bool r, ob) := by
  have hbl := hf.bl
  refine gives_code (f := tf290) rfl ?_
  conv => whnf
  refine ⟨_, _, calls_ok c.blab c.body c.bsp hbl hf.bf ob _, fun _ => noRefP _ _ _ _, ?_⟩
  have hcl := callsC_len c.body []
  simp only [List.length_nil, Nat.zero_add] at hcl
  conv => whnf
  refine ⟨_, _, any310p_ok 309 _ _ 0 _ (callsC [] c.body) [] (fun q => q ∉ there) (by omega) (fun v hv ob pb q hq => ?_) ob _ r hr, fun _ => rfl, ?_⟩
  · obtain ⟨q', hq'⟩ := boolOf (v ∈ there)
    refine gives_code (f := tf309) rfl ?_
    conv => whnf
    refine ⟨_, _, hasPred_ok 0 there [] v (by omega) ob _ q' hq', fun _ => rfl, ?_⟩
    conv => whnf
    refine ⟨rfl, bool_of hq ?_, rfl⟩
    show (!q') = true ↔ v ∉ there
    rw [← hq']; cases q' <;> simp
  conv => whnf
  exact ⟨rfl, rfl, rfl⟩
end Tree
