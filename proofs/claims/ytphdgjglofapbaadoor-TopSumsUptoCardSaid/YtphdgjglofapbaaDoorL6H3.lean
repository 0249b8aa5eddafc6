/- Layer 6: heaps, what is put into them. -/
import Derived.Test.YtphdgjglofapbaaDoorL6H2
import Derived.Test.YtphdgjglofapbaaDoorTLd
import Derived.Test.YtphdgjglofapbaaDoorTLa
set_option autoImplicit false
set_option linter.unusedVariables false
set_option linter.unusedSimpArgs false
namespace Tree.H6
open Go
set_option maxHeartbeats 8000000
set_option maxRecDepth 100000
theorem le46 : EnvLe env4 env6 := ⟨rfl, fun g e h => by
  by_cases hg : g = 209 ∨ g = 221 ∨ g = 219
  · have h1 : env4.fns 209 = none := rfl
    have h2 : env4.fns 221 = none := rfl
    have h3 : env4.fns 219 = none := rfl
    rcases hg with rfl | rfl | rfl
    · rw [h1] at h; cases h
    · rw [h2] at h; cases h
    · rw [h3] at h; cases h
  · have : ([209, 221, 219] : List Nat).contains g = false := by
      simp only [not_or] at hg
      simp [hg]
    show (match ([209, 221, 219] : List Nat).contains g with | true => _ | false => env6r.fns g) = _
    rw [this]; exact le46r.fns g e h⟩
theorem le16 : EnvLe env1 env6 := ⟨rfl, fun g e h => le46.fns g e (le14.fns g e h)⟩
/-- A value that is kept. -/
def Acc (M : Mp) (k : NV) (cs : List C) : Prop := 0 ≤ k.1 ∧ okC (cVar k.1 k.2) ∧ GlobalP cs ∧ M k = none ∧ ∀ c r, cs = c :: r → c.k = 4 → lessN (c.node, c.num) k
def upd (M : Mp) (k : NV) (cs : List C) : Mp := fun x => if x = k then some cs else M x
theorem less_iff (a b c d : Int) : (decide (a < c) || decide (a = c) && decide (b < d)) = true ↔ lessN (a, b) (c, d) := by
  simp [lessN]
theorem bindP_no {ob : Obs} {M : Mp} {id w : Nat} {c : Int} {es : List En} (h : HpP ob id w c es M) (k : NV) (lab : Nat) (cs : List C) (sp : List (List LV)) (hl : cs.length ≤ 1048576) (hf : ∀ c ∈ cs, c.fine) (hA : ¬ Acc M k cs) (pb : Nat) : ∃ e : Int, Gives env6 236 [.optr id 0, nm k.1 k.2, sl5 false lab cs sp] ob pb (.int .i64 e, ob) := by
  obtain ⟨r, hr⟩ := boolOf (okC (cVar k.1 k.2))
  obtain ⟨q, hq⟩ := boolOf (GlobalP cs)
  have gO := fun ob pb => (ofVar_ok k.1 k.2 ob pb r hr).le le16
  have gG := fun ob pb => (global_ok lab cs sp (by omega) hf ob pb q hq).le le16
  by_cases h1 : k.1 < 0
  · refine ⟨6, gives_code (f := tf236) rfl ?_⟩
    conv => whnf
    refine sel_t (decide_eq_true h1) ?_
    conv => whnf
    exact ⟨rfl, rfl, rfl⟩
  cases r with
  | false =>
    refine ⟨6, gives_code (f := tf236) rfl ?_⟩
    conv => whnf
    refine sel_f (decide_eq_false h1) ?_
    conv => whnf
    refine ⟨_, _, gO _ _, fun _ => rfl, ?_⟩
    conv => whnf
    exact ⟨rfl, rfl, rfl⟩
  | true =>
  cases q with
  | false =>
    refine ⟨6, gives_code (f := tf236) rfl ?_⟩
    conv => whnf
    refine sel_f (decide_eq_false h1) ?_
    conv => whnf
    refine ⟨_, _, gO _ _, fun _ => rfl, ?_⟩
    conv => whnf
    refine ⟨_, _, gG _ _, fun _ => rfl, ?_⟩
    conv => whnf
    exact ⟨rfl, rfl, rfl⟩
  | true =>
  have hG := hq.1 rfl
  obtain ⟨c0, t0, rfl⟩ := right_cons hG.1
  cases hm : M k with
  | some u =>
    refine ⟨70, gives_code (f := tf236) rfl ?_⟩
    conv => whnf
    refine sel_f (decide_eq_false h1) ?_
    conv => whnf
    refine ⟨_, _, gO _ _, fun _ => rfl, ?_⟩
    conv => whnf
    refine ⟨_, _, gG _ _, fun _ => rfl, ?_⟩
    conv => whnf
    refine ⟨_, _, ⟨h.hid, rfl, rfl⟩, ?_⟩
    conv => whnf
    refine ⟨_, _, look_of h.hw _ k, ?_⟩
    rw [h.hl k, hm]
    conv => whnf
    exact ⟨rfl, rfl, rfl⟩
  | none =>
    have hbad : c0.k = 4 ∧ ¬ lessN (c0.node, c0.num) k := by
      by_cases hk : c0.k = 4
      · refine ⟨hk, fun hn => hA ⟨by omega, hr.1 rfl, hG, hm, fun c r e hk => ?_⟩⟩
        injection e with e1 e2; subst e1; exact hn
      · exact absurd ⟨by omega, hr.1 rfl, hG, hm, fun c r e hk' => by injection e with e1 e2; subst e1; exact absurd hk' hk⟩ hA
    refine ⟨71, gives_code (f := tf236) rfl ?_⟩
    conv => whnf
    refine sel_f (decide_eq_false h1) ?_
    conv => whnf
    refine ⟨_, _, gO _ _, fun _ => rfl, ?_⟩
    conv => whnf
    refine ⟨_, _, gG _ _, fun _ => rfl, ?_⟩
    conv => whnf
    refine ⟨_, _, ⟨h.hid, rfl, rfl⟩, ?_⟩
    conv => whnf
    refine ⟨_, _, look_of h.hw _ k, ?_⟩
    rw [h.hl k, hm]
    conv => whnf
    refine ⟨_, ⟨by omega, idx_row (cs := c0 :: t0) (i := 0) rfl⟩, ?_⟩
    conv => whnf
    refine sel_t (by simpa using hbad.1) ?_
    conv => whnf
    refine ⟨_, ⟨by omega, idx_row (cs := c0 :: t0) (i := 0) rfl⟩, ?_⟩
    conv => whnf
    refine ⟨_, _, (less_ok c0.node c0.num k.1 k.2 ob _).le le16, fun _ => rfl, ?_⟩
    have e : (decide (c0.node < k.1) || decide (c0.node = k.1) && decide (c0.num < k.2)) = false := by
      rw [← Bool.not_eq_true, less_iff]; exact hbad.2
    rw [e]
    conv => whnf
    exact ⟨rfl, rfl, rfl⟩
theorem bindP_yes {ob : Obs} {M : Mp} {id w : Nat} {c : Int} {es : List En} (h : HpP ob id w c es M) (k : NV) (lab : Nat) (cs : List C) (sp : List (List LV)) (hl : cs.length ≤ 1048576) (hf : ∀ c ∈ cs, c.fine) (hA : Acc M k cs) (pb : Nat) (hpb : pb ≤ w) : Gives env6 236 [.optr id 0, nm k.1 k.2, sl5 false lab cs sp] ob pb (.int .i64 0, ob.set w (mE (ck es k c) (pt es k (sl5 false 0 cs []) c))) := by
  obtain ⟨h1, h2, h3, hm, h5⟩ := hA
  have gO := fun ob pb => (ofVar_ok k.1 k.2 ob pb true (by simp [h2])).le le16
  have gG := fun ob pb => (global_ok lab cs sp (by omega) hf ob pb true (by simp [h3])).le le16
  obtain ⟨c0, t0, rfl⟩ := right_cons h3.1
  have hclone : ∀ ob, cloneF 5 48 [sl5 false lab (c0 :: t0) sp] ob = some (sl5 true 0 (c0 :: t0) []) := by
    intro ob
    simp only [cloneF, cloneF0]
    rw [if_pos ⟨trivial, by rw [List.length_map]; unfold maxLen; omega, by rw [List.length_map]; omega⟩]
  refine gives_code (f := tf236) rfl ?_
  conv => whnf
  refine sel_f (decide_eq_false (by omega)) ?_
  conv => whnf
  refine ⟨_, _, gO _ _, fun _ => rfl, ?_⟩
  conv => whnf
  refine ⟨_, _, gG _ _, fun _ => rfl, ?_⟩
  conv => whnf
  refine ⟨_, _, ⟨h.hid, rfl, rfl⟩, ?_⟩
  conv => whnf
  refine ⟨_, _, look_of h.hw _ k, ?_⟩
  rw [h.hl k, hm]
  conv => whnf
  refine ⟨_, ⟨by omega, idx_row (cs := c0 :: t0) (i := 0) rfl⟩, ?_⟩
  conv => whnf
  refine sel_split (fun hk => ?_) (fun hk => ?_)
  · conv => whnf
    have hk : c0.k = 4 := by simpa using hk
    refine ⟨_, ⟨by omega, idx_row (cs := c0 :: t0) (i := 0) rfl⟩, ?_⟩
    conv => whnf
    refine ⟨_, _, (less_ok c0.node c0.num k.1 k.2 ob _).le le16, fun _ => rfl, ?_⟩
    have e : (decide (c0.node < k.1) || decide (c0.node = k.1) && decide (c0.num < k.2)) = true := by
      rw [less_iff]; exact h5 _ _ rfl hk
    rw [e]
    conv => whnf
    refine ⟨_, _, ⟨h.hid, rfl, rfl⟩, ?_⟩
    conv => whnf
    refine ⟨_, _, gives_ext (F := cloneF 5 48) (r := sl5 true 0 (c0 :: t0) []) rfl (hclone _), fun _ => noRef5 _ _ _ _, ?_⟩
    conv => whnf
    refine ⟨_, _, ⟨hpb, h.hw, mapPut_n k (sl5 false 0 (c0 :: t0) []) c es⟩, ?_⟩
    conv => whnf
    exact ⟨rfl, rfl, rfl⟩
  · conv => whnf
    refine ⟨_, _, ⟨h.hid, rfl, rfl⟩, ?_⟩
    conv => whnf
    refine ⟨_, _, gives_ext (F := cloneF 5 48) (r := sl5 true 0 (c0 :: t0) []) rfl (hclone _), fun _ => noRef5 _ _ _ _, ?_⟩
    conv => whnf
    refine ⟨_, _, ⟨hpb, h.hw, mapPut_n k (sl5 false 0 (c0 :: t0) []) c es⟩, ?_⟩
    conv => whnf
    exact ⟨rfl, rfl, rfl⟩
end Tree.H6
