/- Layer 10: goals, and the queue's methods, what E answers. -/
import Derived.Test.YtjbdicceeocgeaaL10Live
import Derived.Test.YtjbdicceeocgeaaTLb
import Derived.Test.YtjbdicceeocgeaaTW
set_option autoImplicit false
set_option linter.unusedVariables false
set_option linter.unusedSimpArgs false
namespace Tree.Q10
open Go
set_option maxHeartbeats 8000000
set_option maxRecDepth 100000
structure Gl where
  a : Int
  b : Int
  lab : Nat
  cs : List C
  sp : List (List LV)
def Gl.row (g : Gl) : List LV := [.int .i64 g.a, .int .i64 g.b, sl5 false g.lab g.cs g.sp]
def Gl.own (g : Gl) : Gl := ⟨g.a, g.b, 0, g.cs, []⟩
def Gl.small (g : Gl) : Prop := g.cs.length ≤ 1048576
abbrev slG (o : Bool) (l : Nat) (gs : List Gl) (sp : List (List LV)) : LV := .sl o l 3 (gs.map Gl.row) sp
structure Wt where
  g : Gl
  vs : List NV
def Wt.row (w : Wt) : List LV := [.int .i64 w.g.a, .int .i64 w.g.b, sl5 false w.g.lab w.g.cs w.g.sp, sl2 false 0 w.vs []]
theorem idx_g {gs : List Gl} {i : Nat} {g : Gl} (h : gs[i]? = some g) : (gs.map Gl.row)[i]? = some [.int .i64 g.a, .int .i64 g.b, .sl false g.lab 5 (g.cs.map C.row) g.sp] := by
  rw [List.getElem?_map, h]; rfl
theorem own1_noRef (n : Nat) (g : Gl) : (LV.agg g.own.row).noRef n = true := by
  simp only [LV.noRef, Gl.row, Gl.own, LV.noRefs, noRef_rows, LV.noRefss, Bool.and_self]
theorem copied_ok (g : Gl) (hg : g.small) (ob : Obs) (pb : Nat) : Gives env10 172 [.agg g.row] ob pb (.agg g.own.row, ob) := by
  unfold Gl.small at hg
  refine gives_code (f := tf172) rfl ?_
  conv => whnf
  refine ⟨_, _, gives_ext (F := cloneF 5 48) (r := sl5 true 0 g.cs []) rfl ?_, fun _ => noRef5 _ _ _ _, ?_⟩
  · simp only [cloneF, cloneF0]
    rw [if_pos ⟨trivial, by rw [List.length_map]; unfold maxLen; omega, by rw [List.length_map]; omega⟩]
  conv => whnf
  exact ⟨rfl, rfl, rfl⟩
theorem all_ok (lab : Nat) (gs : List Gl) (sp : List (List LV)) (hl : gs.length ≤ 4294967296) (hg : ∀ g ∈ gs, g.small) (ob : Obs) (pb : Nat) : Gives env10 171 [slG false lab gs sp] ob pb (slG true 0 (gs.map Gl.own) [], ob) := by
  have hlen : (gs.map Gl.row).length = gs.length := by simp
  refine gives_code (f := tf171) rfl ?_
  conv => whnf
  refine loop_v (V := fun i : Nat => [(3, slG true 0 ((gs.take i).map Gl.own) []), (8, .int .i64 i)]) (O := fun _ => ob) (m := fun i => gs.length - i) (P := fun i => i ≤ gs.length) ?_ 0 (Nat.zero_le _) rfl
  intro R i hi hN hE hR
  conv => whnf
  refine sel_split (fun h => ?_) (fun h => ?_)
  · conv => whnf
    have h := of_decide_eq_true h
    rw [hlen] at h
    obtain ⟨g, hq⟩ : ∃ g, gs[i]? = some g := ⟨_, List.getElem?_eq_getElem (show i < gs.length by omega)⟩
    have e : IntKind.i64.wrap ((i : Int) + 1) = ((i + 1 : Nat) : Int) := by rw [wrap64] <;> omega
    refine ⟨_, ⟨by omega, idx_g hq⟩, ?_⟩
    conv => whnf
    refine ⟨_, _, copied_ok g (hg g (List.mem_of_getElem? hq)) ob _, fun _ => own1_noRef _ _, ?_⟩
    conv => whnf
    refine ⟨((gs.take (i + 1)).map Gl.own).map Gl.row, ⟨.inl rfl, ?_, ?_⟩, ?_⟩
    · show ((((gs.take i).map Gl.own).map Gl.row).length + 1) * 40 ≤ _
      rw [List.length_map, List.length_map, List.length_take]; omega
    · rw [List.take_add_one, hq, List.map_append, List.map_append]; rfl
    conv => whnf
    refine hN (i + 1) _ (by omega) (by omega) ?_
    rw [← e]; rfl
  · conv => whnf
    have h := of_decide_eq_false h
    rw [hlen] at h
    have : i = gs.length := by omega
    subst this
    refine hE _ _ ?_
    rw [List.take_length]
    conv => whnf
    exact ⟨rfl, rfl, rfl⟩
/-- What a queue's object holds. -/
def qC (rd : List Gl) (wt : List Wt) : List LV := [slG true 0 rd [], .sl true 0 4 (wt.map Wt.row) []]
section
variable {ob : Obs} {id pb : Nat} {rd : List Gl} {wt : List Wt} (hob : ob[id]? = some (qC rd wt)) (hpb : pb ≤ id)
include hob
include hpb
end
end Tree.Q10
