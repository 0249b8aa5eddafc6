/- Layer 4: the looks at a clause. -/
import Derived.Test.YtpjoppajohmmnaaDoorL4Goal
set_option autoImplicit false
set_option linter.unusedVariables false
set_option linter.unusedSimpArgs false
namespace Tree
open Go
set_option maxHeartbeats 4000000
set_option maxRecDepth 100000
structure G1 where
  lab : Nat
  ts : List T1
  sp : List (List LV)
def G1.row (g : G1) : List LV := [sl1 false g.lab g.ts g.sp]
theorem idx_g {ns : List G1} {i : Nat} {g : G1} (h : ns[i]? = some g) : (ns.map G1.row)[i]? = some [.sl false g.lab 1 (g.ts.map T1.row) g.sp] := by
  rw [List.getElem?_map, h]; rfl
def S330a (v : LV) (s : Int) (n : Nat) (i : Int) (ob : Obs) : WSt := ⟨.val v :: .val .undef :: .val .undef :: .val (.int .i64 s) :: List.replicate 5 (.val .undef) ++ .val v :: .val (.int .i64 n) :: .val (.int .i64 i) :: List.replicate 24 (.val .undef), ob, []⟩
def S330b (o v : LV) (n : Nat) (i : Int) (ob : Obs) : WSt := ⟨List.replicate 6 (.val .undef) ++ .val o :: List.replicate 18 (.val .undef) ++ .val v :: .val (.int .i64 n) :: .val (.int .i64 i) :: List.replicate 8 (.val .undef), ob, []⟩
theorem flat_take {gs : List G1} {i : Nat} {g : G1} (h : gs[i]? = some g) : (gs.take (i + 1)).flatMap G1.ts = (gs.take i).flatMap G1.ts ++ g.ts := by
  rw [List.take_add_one, h]; simp
theorem flat_take_le (gs : List G1) : ∀ i : Nat, ((gs.take i).flatMap G1.ts).length ≤ (gs.flatMap G1.ts).length := fun i => by
  have : gs.flatMap G1.ts = (gs.take i).flatMap G1.ts ++ (gs.drop i).flatMap G1.ts := by
    rw [← List.flatMap_append, List.take_append_drop]
  rw [this, List.length_append]; omega
theorem concat4_ok (lab : Nat) (gs : List G1) (sp : List (List LV)) (hl : gs.length ≤ 1048576) (hb : (gs.flatMap G1.ts).length ≤ 4194304) (ob : Obs) (pb : Nat) : Gives env4 330 [.sl false lab 1 (gs.map G1.row) sp] ob pb (sl1 true 0 (gs.flatMap G1.ts) [], ob) := by
  have hlen : (gs.map G1.row).length = gs.length := by simp
  refine gives_code (f := tf330) rfl ?_
  conv => whnf
  refine loop_abs (S := fun i : Nat => S330a (.sl false lab 1 (gs.map G1.row) sp) ((gs.take i).flatMap G1.ts).length (gs.map G1.row).length i ob) (m := fun i => gs.length - i) (P := fun i => i ≤ gs.length) ?_ 0 (Nat.zero_le _) rfl
  intro R i hi hN hE hR
  conv => whnf
  refine sel_split (fun h => ?_) (fun h => ?_)
  · conv => whnf
    have h := of_decide_eq_true h
    rw [hlen] at h
    obtain ⟨g, hg⟩ : ∃ g, gs[i]? = some g := ⟨_, List.getElem?_eq_getElem (show i < gs.length by omega)⟩
    have e : IntKind.i64.wrap ((i : Int) + 1) = ((i + 1 : Nat) : Int) := by rw [wrap64] <;> omega
    have hft := flat_take hg
    have hle := flat_take_le gs (i + 1)
    have hgl : (g.ts.map T1.row).length = g.ts.length := by simp
    have e2 : IntKind.i64.wrap ((((gs.take i).flatMap G1.ts).length : Int) + ((g.ts.map T1.row).length : Int)) = (((gs.take (i + 1)).flatMap G1.ts).length : Int) := by
      rw [hft, List.length_append] at hle
      rw [hgl, hft, List.length_append, wrap64] <;> omega
    refine ⟨_, ⟨by omega, idx_g hg⟩, ?_⟩
    conv => whnf
    refine sel_f ?_ ?_
    · have : IntKind.i64.wrap ((((gs.take i).flatMap G1.ts).length : Int) + ((g.ts.map T1.row).length : Int)) < 0 ↔ False := by
        rw [e2]; constructor
        · intro h; omega
        · intro h; cases h
      exact decide_eq_false (fun h => this.1 h)
    conv => whnf
    refine hN (i + 1) _ (by omega) (by omega) ?_
    rw [← e, ← e2]; rfl
  · conv => whnf
    have h := of_decide_eq_false h
    rw [hlen] at h
    have : i = gs.length := by omega
    subst this
    refine hE _ _ ?_
    rw [List.take_length]
    conv => whnf
    refine ⟨_, _, gives_ext (F := growF 1 24) (r := .sl true 0 1 [] []) rfl ?_, fun _ => rfl, ?_⟩
    · simp only [growF]
      rw [if_pos ⟨trivial, by omega, by omega, by omega⟩]
    conv => whnf
    refine loop_abs (S := fun i : Nat => S330b (sl1 true 0 ((gs.take i).flatMap G1.ts) []) (.sl false lab 1 (gs.map G1.row) sp) (gs.map G1.row).length i ob) (m := fun i => gs.length - i) (P := fun i => i ≤ gs.length) ?_ 0 (Nat.zero_le _) rfl
    intro R2 i hi2 hN2 hE2 hR2
    conv => whnf
    refine sel_split (fun h => ?_) (fun h => ?_)
    · conv => whnf
      have h := of_decide_eq_true h
      rw [hlen] at h
      obtain ⟨g, hg⟩ : ∃ g, gs[i]? = some g := ⟨_, List.getElem?_eq_getElem (show i < gs.length by omega)⟩
      have e : IntKind.i64.wrap ((i : Int) + 1) = ((i + 1 : Nat) : Int) := by rw [wrap64] <;> omega
      have hft := flat_take hg
      have hle := flat_take_le gs (i + 1)
      rw [hft, List.length_append] at hle
      refine ⟨_, ⟨by omega, idx_g hg⟩, ?_⟩
      conv => whnf
      refine ⟨((gs.take (i + 1)).flatMap G1.ts).map T1.row, ⟨.inl rfl, ?_, ?_⟩, ?_⟩
      · show ((((gs.take i).flatMap G1.ts).map T1.row).length + (g.ts.map T1.row).length) * 24 ≤ _
        rw [List.length_map, List.length_map]; omega
      · rw [hft, List.map_append]
      conv => whnf
      refine hN2 (i + 1) _ (by omega) (by omega) ?_
      rw [← e]; rfl
    · conv => whnf
      have h := of_decide_eq_false h
      rw [hlen] at h
      have : i = gs.length := by omega
      subst this
      refine hE2 _ _ ?_
      rw [List.take_length]
      conv => whnf
      exact ⟨rfl, rfl, rfl⟩
theorem noRefT (n : Nat) (o : Bool) (l : Nat) : ∀ (ts : List T1), (∀ t ∈ ts, LV.noRefss n t.sp = true) → (sl1 o l ts []).noRef n = true := by
  intro ts h
  have : LV.noRefss n (ts.map T1.row) = true := by
    induction ts with
    | nil => simp [LV.noRefss]
    | cons t ts ih =>
      have h1 := h t (List.mem_cons_self ..)
      simp [LV.noRefss, ih (fun u hu => h u (List.mem_cons_of_mem _ hu)), T1.row, LV.noRefs, LV.noRef, noRef_rows, h1]
  simp [LV.noRef, LV.noRefss, this]
def termsOf (c : Cl) : List T1 := ⟨c.hlab, c.head, c.hsp⟩ :: c.guards ++ c.body
theorem terms_ok (c : Cl) (hf : c.fine) (ob : Obs) (pb : Nat) : Gives env4 314 [.agg c.row] ob pb (sl1 true 0 (termsOf c) [], ob) := by
  have h1 := hf.gl
  have h2 := hf.bl
  refine gives_code (f := tf314) rfl ?_
  conv => whnf
  obtain ⟨gs, hgs⟩ : ∃ gs : List G1, gs = [⟨0, [⟨c.hlab, c.head, c.hsp⟩], []⟩, ⟨c.glab, c.guards, c.gsp⟩, ⟨c.blab, c.body, c.bsp⟩] := ⟨_, rfl⟩
  have hfl : gs.flatMap G1.ts = termsOf c := by rw [hgs]; simp [termsOf]
  have := concat4_ok 0 gs [] (by rw [hgs]; simp) (by rw [hfl]; simp [termsOf]; omega) ob (max pb ob.length)
  rw [hfl, hgs] at this
  refine ⟨_, _, this, fun _ => noRefT _ _ _ _ (fun t ht => ?_), ?_⟩
  · rcases List.mem_cons.1 (show t ∈ (⟨c.hlab, c.head, c.hsp⟩ : T1) :: (c.guards ++ c.body) from ht) with rfl | ht
    · exact hf.hn _
    · rcases List.mem_append.1 ht with ht | ht
      · exact hf.gn t ht _
      · exact hf.bn t ht _
  conv => whnf
  exact ⟨rfl, rfl, rfl⟩
def CAll (c : Cl) (p : T1 → Prop) : Prop := ∀ t ∈ termsOf c, p t
theorem termsOf_len (c : Cl) : (termsOf c).length = 1 + c.guards.length + c.body.length := by simp [termsOf]; omega
theorem termsOf_fine {c : Cl} (hf : c.fine) : ∀ t ∈ termsOf c, t.fine := fun t ht => by
  rcases List.mem_cons.1 (show t ∈ (⟨c.hlab, c.head, c.hsp⟩ : T1) :: (c.guards ++ c.body) from ht) with rfl | ht
  · exact ⟨by have := hf.hl; show c.head.length ≤ _; omega, hf.hf⟩
  · rcases List.mem_append.1 ht with ht | ht
    · exact hf.gf t ht
    · exact hf.bf t ht
theorem flat_right : ∀ (ts : List T1), (∀ t ∈ ts, RightP t.cs) → (ts.flatMap T1.cs).length ≤ 256 * ts.length
  | [], _ => by simp
  | t :: ts, h => by
    have h1 := flat_right ts (fun u hu => h u (List.mem_cons_of_mem _ hu))
    have h2 := (h t (List.mem_cons_self ..)).2.1
    simp only [List.flatMap_cons, List.length_append, List.length_cons]; omega
def FormW (c : Cl) : Prop := c.locals < 0 ∨ (∃ t ∈ termsOf c, ¬ RightP t.cs) ∨ ∃ v ∈ varsT [] (termsOf c), v.1 ≠ -1 ∨ v.2 ≥ c.locals
theorem form_ok (c : Cl) (hf : c.fine) (hnl : ¬ LongW c) (ob : Obs) (pb : Nat) (r : Bool) (hr : r = true ↔ FormW c) : Gives env4 292 [.agg c.row] ob pb (.bool r, ob) := by
  have hln : (termsOf c).length ≤ 13 := by
    have h1 : ¬ c.guards.length > 4 := fun h => hnl (.inl h)
    have h2 : ¬ c.body.length > 8 := fun h => hnl (.inr (.inl h))
    rw [termsOf_len]; omega
  have hft := termsOf_fine hf
  refine gives_code (f := tf292) rfl ?_
  conv => whnf
  refine ⟨_, _, terms_ok c hf ob _, fun _ => noRefT _ _ _ _ (fun t ht => ?_), ?_⟩
  · rcases List.mem_cons.1 (show t ∈ (⟨c.hlab, c.head, c.hsp⟩ : T1) :: (c.guards ++ c.body) from ht) with rfl | ht
    · exact hf.hn _
    · rcases List.mem_append.1 ht with ht | ht
      · exact hf.gn t ht _
      · exact hf.bn t ht _
  obtain ⟨ts, hts⟩ : ∃ ts, ts = termsOf c := ⟨_, rfl⟩
  unfold FormW at hr
  rw [← hts] at hln hft hr ⊢
  conv => whnf
  refine sel_split (fun h1 => ?_) (fun h1 => ?_)
  · conv => whnf
    have h1 := of_decide_eq_true h1
    exact ⟨rfl, bool_of hr ⟨fun _ => .inl h1, fun _ => rfl⟩, rfl⟩
  · conv => whnf
    have h1 := of_decide_eq_false h1
    obtain ⟨q, hq⟩ := boolOf (∃ t ∈ ts, ¬ RightP t.cs)
    refine ⟨_, _, any33_ok 315 0 ts [] (fun t => ¬ RightP t.cs) (by omega) (fun t ht ob pb q hq => ?_) ob _ q hq, fun _ => rfl, ?_⟩
    · obtain ⟨q', hq'⟩ := boolOf (RightP t.cs)
      refine gives_code (f := tf315) rfl ?_
      conv => whnf
      refine ⟨_, _, (right_ok t.lab t.cs t.sp (hft t ht).1 (hft t ht).2 ob _ q' hq').le le14, fun _ => rfl, ?_⟩
      conv => whnf
      refine ⟨rfl, bool_of hq ?_, rfl⟩
      show (!q') = true ↔ ¬ RightP t.cs
      rw [← hq']; cases q' <;> simp
    conv => whnf
    refine sel_split (fun h2 => ?_) (fun h2 => ?_)
    · conv => whnf
      exact ⟨rfl, bool_of hr ⟨fun _ => .inr (.inl (hq.1 h2)), fun _ => rfl⟩, rfl⟩
    · conv => whnf
      have hall : ∀ t ∈ ts, RightP t.cs := fun t ht => Classical.byContradiction fun hn => by rw [hq.2 ⟨t, ht, hn⟩] at h2; cases h2
      have hfl := flat_right ts hall
      refine ⟨_, _, (vars_ok 0 ts [] (by omega) (by omega) ob _).le le14, fun _ => noRef2 _ _ _ _, ?_⟩
      conv => whnf
      obtain ⟨q3, hq3⟩ := boolOf (∃ v ∈ varsT [] ts, v.1 ≠ -1 ∨ v.2 ≥ c.locals)
      have hvl := varsT_len ts []
      refine ⟨_, _, any174p_ok 316 _ _ 0 _ (varsT [] ts) [] (fun v => v.1 ≠ -1 ∨ v.2 ≥ c.locals) (by simp only [List.length_nil, Nat.zero_add] at hvl; omega) (fun v hv ob pb q hq => ?_) ob _ q3 hq3, fun _ => rfl, ?_⟩
      · refine gives_code (f := tf316) rfl ?_
        conv => whnf
        refine sel_split (fun g1 => ?_) (fun g1 => ?_)
        · conv => whnf
          have g1 : v.1 ≠ -1 := by simpa using g1
          exact ⟨rfl, bool_of hq ⟨fun _ => .inl g1, fun _ => rfl⟩, rfl⟩
        · conv => whnf
          have g1 : v.1 = -1 := by simpa using g1
          refine ⟨rfl, bool_of hq ⟨fun e => .inr (by simpa using e), fun h => ?_⟩, rfl⟩
          rcases h with h | h
          · exact absurd g1 h
          · simpa using h
      conv => whnf
      refine ⟨rfl, bool_of hr ?_, rfl⟩
      rw [hq3]
      refine ⟨fun h => .inr (.inr h), fun h => ?_⟩
      rcases h with h | ⟨t, ht, hn⟩ | h
      · exact absurd h h1
      · exact absurd (hall t ht) hn
      · exact h
end Tree
