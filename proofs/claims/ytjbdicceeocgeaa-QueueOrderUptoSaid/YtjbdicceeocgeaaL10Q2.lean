/- A part of the interpreter over trees and of its proof. -/
import Derived.Test.YtjbdicceeocgeaaL10Q1
set_option autoImplicit false
set_option linter.unusedVariables false
set_option linter.unusedSimpArgs false
namespace Tree.Q10
open Go
set_option maxHeartbeats 8000000
set_option maxRecDepth 100000
def gl0 : List LV := [.int .i64 0, .int .i64 0, .sl false 0 5 [] []]
def Gl.key (g : Gl) : Int × Int × List C := (g.a, g.b, g.cs)
section
variable {ob : Obs} {id pb : Nat} {rd : List Gl} {wt : List Wt} (hob : ob[id]? = some (qC rd wt))
include hob
theorem peek_some (pb : Nat) (g : Gl) (r : List Gl) (e : rd = g :: r) (hg : g.small) : Gives env10 168 [.optr id 0] ob pb (.tup [.agg g.own.row, .bool true], ob) := by
  subst e
  refine gives_code (f := tf168) rfl ?_
  conv => whnf
  refine ⟨_, _, ⟨hob, rfl, rfl⟩, ?_⟩
  conv => whnf
  refine ⟨_, _, ⟨hob, rfl, rfl⟩, ?_⟩
  conv => whnf
  refine ⟨_, ⟨by omega, rfl⟩, ?_⟩
  conv => whnf
  refine ⟨_, _, copied_ok g hg ob _, fun _ => own1_noRef _ _, ?_⟩
  conv => whnf
  exact ⟨rfl, rfl, rfl⟩
theorem peek_none (pb : Nat) (e : rd = []) : Gives env10 168 [.optr id 0] ob pb (.tup [.agg gl0, .bool false], ob) := by
  subst e
  refine gives_code (f := tf168) rfl ?_
  conv => whnf
  refine ⟨_, _, ⟨hob, rfl, rfl⟩, ?_⟩
  conv => whnf
  exact ⟨rfl, rfl, rfl⟩
theorem next_some (hpb : pb ≤ id) (g : Gl) (r : List Gl) (e : rd = g :: r) (hg : g.small) (hl : r.length ≤ 4294967296) : Gives env10 152 [.optr id 0] ob pb (.tup [.agg g.own.row, .bool true], ob.set id (qC r wt)) := by
  have hp := peek_some hob (max pb ob.length) g r e hg
  subst e
  refine gives_code (f := tf152) rfl ?_
  conv => whnf
  refine ⟨_, _, hp, fun _ => by simp only [LV.noRef, LV.noRefs, Gl.row, Gl.own, noRef_rows, LV.noRefss, Bool.and_self], ?_⟩
  conv => whnf
  refine ⟨_, _, ⟨hob, rfl, rfl⟩, ?_⟩
  conv => whnf
  refine ⟨r.map Gl.row, [], ⟨⟨by decide, by simp; omega, by simp⟩, ?_, ?_⟩, ?_⟩
  · simp only [List.append_nil, List.map_cons]
    rw [Int.toNat_natCast, List.take_of_length_le (by simp)]; rfl
  · simp
  conv => whnf
  refine .inl ⟨_, _, _, _, ⟨hpb, hob, rfl⟩, ?_⟩
  conv => whnf
  refine ⟨_, qC r wt, ⟨hpb, set_at hob, rfl, rfl⟩, ?_⟩
  conv => whnf
  refine ⟨rfl, rfl, ?_⟩
  show (ob.set id _).set id _ = _
  rw [List.set_set]
theorem next_none (e : rd = []) : Gives env10 152 [.optr id 0] ob pb (.tup [.agg gl0, .bool false], ob) := by
  have hp := peek_none hob (max pb ob.length) e
  refine gives_code (f := tf152) rfl ?_
  conv => whnf
  refine ⟨_, _, hp, fun _ => rfl, ?_⟩
  conv => whnf
  exact ⟨rfl, rfl, rfl⟩
theorem ready_ok (pb : Nat) (hl : rd.length ≤ 4294967296) (hg : ∀ g ∈ rd, g.small) : Gives env10 151 [.optr id 0] ob pb (slG true 0 (rd.map Gl.own) [], ob) := by
  refine gives_code (f := tf151) rfl ?_
  conv => whnf
  refine ⟨_, _, ⟨hob, rfl, rfl⟩, ?_⟩
  conv => whnf
  refine ⟨_, _, all_ok 0 rd [] hl hg ob _, fun _ => ownG_noRef _ _ _, ?_⟩
  conv => whnf
  exact ⟨rfl, rfl, rfl⟩
end
theorem sameGoal_ok (g h : Gl) (hg : g.small) (ob : Obs) (pb : Nat) (r : Bool) (hr : r = true ↔ g.key = h.key) : Gives env10 153 [.agg g.row, .agg h.row] ob pb (.bool r, ob) := by
  obtain ⟨q, hq⟩ := boolOf (g.cs = h.cs)
  refine gives_code (f := tf153) rfl ?_
  conv => whnf
  refine sel_split (fun h1 => ?_) (fun h1 => ?_)
  · conv => whnf
    refine ⟨_, _, (equal_ok g.lab h.lab g.cs h.cs g.sp h.sp (by unfold Gl.small at hg; omega) ob _ q hq).le le110, fun _ => rfl, ?_⟩
    conv => whnf
    refine ⟨rfl, bool_of hr ?_, rfl⟩
    rw [hq]
    simp only [Bool.false_eq_true, if_false, Bool.and_true, Bool.and_eq_true, beq_iff_eq, Gl.key, Prod.mk.injEq] at h1 ⊢
    exact ⟨fun h => ⟨h1.1, h1.2, h⟩, fun h => h.2.2⟩
  · conv => whnf
    refine ⟨rfl, bool_of hr ?_, rfl⟩
    have h1 : ¬ (g.a = h.a ∧ g.b = h.b) := by
      intro ⟨a, b⟩
      simp [a, b] at h1
    simp only [Gl.key, Prod.mk.injEq]
    constructor
    · intro h; cases h
    · rintro ⟨a, b, _⟩; exact absurd ⟨a, b⟩ h1
/-- Two rows of the same goals. -/
theorem sameGoals_ok (l1 l2 : Nat) (gs hs : List Gl) (s1 s2 : List (List LV)) (hg : ∀ g ∈ gs, g.small) (hl : gs.length ≤ 4611686018427387904) (e : gs.map Gl.key = hs.map Gl.key) (ob : Obs) (pb : Nat) : Gives env10 150 [slG false l1 gs s1, slG false l2 hs s2] ob pb (.bool true, ob) := by
  have hlen : (gs.map Gl.row).length = gs.length := by simp
  have hle : gs.length = hs.length := by have := congrArg List.length e; simpa using this
  refine gives_code (f := tf150) rfl ?_
  conv => whnf
  refine sel_f (by simp [hle]) ?_
  conv => whnf
  refine loop_v (V := fun i : Nat => [(5, .int .i64 i)]) (O := fun _ => ob) (m := fun i => gs.length - i) (P := fun i => i ≤ gs.length) ?_ 0 (Nat.zero_le _) rfl
  intro R i hi hN hE hR
  conv => whnf
  refine sel_split (fun h => ?_) (fun h => ?_)
  · conv => whnf
    have h := of_decide_eq_true h
    rw [hlen] at h
    obtain ⟨g, hq⟩ : ∃ g, gs[i]? = some g := ⟨_, List.getElem?_eq_getElem (show i < gs.length by omega)⟩
    obtain ⟨k, hk⟩ : ∃ k, hs[i]? = some k := ⟨_, List.getElem?_eq_getElem (show i < hs.length by omega)⟩
    have ew : IntKind.i64.wrap ((i : Int) + 1) = ((i + 1 : Nat) : Int) := by rw [wrap64] <;> omega
    have hkey : g.key = k.key := by
      have := congrArg (·[i]?) e
      simp only [List.getElem?_map, hq, hk, Option.map_some, Option.some.injEq] at this
      exact this
    refine ⟨_, ⟨by omega, idx_g hq⟩, ?_⟩
    conv => whnf
    refine ⟨_, ⟨by omega, idx_g hk⟩, ?_⟩
    conv => whnf
    refine ⟨_, _, sameGoal_ok g k (hg g (List.mem_of_getElem? hq)) ob _ true (by simp [hkey]), fun _ => rfl, ?_⟩
    conv => whnf
    refine hN (i + 1) _ (by omega) (by omega) ?_
    rw [← ew]; rfl
  · conv => whnf
    refine hE _ _ ?_
    conv => whnf
    exact ⟨rfl, rfl, rfl⟩
end Tree.Q10
