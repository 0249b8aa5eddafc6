/- Layer 10: goals, and the queue's methods, what E answers. -/
import Derived.Test.YtjbdicceeocgeaaL10Live
import Derived.Test.YtjbdicceeocgeaaTLb
import Derived.Test.YtjbdicceeocgeaaTW
set_option autoImplicit false
set_option linter.unusedVariables false
set_option linter.unusedSimpArgs false
namespace Tree.Q10
open Go
set_option maxHeartbeats 8000000
set_option maxRecDepth 100000
structure Gl where
  a : Int
  b : Int
  lab : Nat
  cs : List C
  sp : List (List LV)
def Gl.row (g : Gl) : List LV := [.int .i64 g.a, .int .i64 g.b, sl5 false g.lab g.cs g.sp]
def Gl.own (g : Gl) : Gl := ⟨g.a, g.b, 0, g.cs, []⟩
def Gl.small (g : Gl) : Prop := g.cs.length ≤ 1048576
abbrev slG (o : Bool) (l : Nat) (gs : List Gl) (sp : List (List LV)) : LV := .sl o l 3 (gs.map Gl.row) sp
structure Wt where
  g : Gl
  vs : List NV
def Wt.row (w : Wt) : List LV := [.int .i64 w.g.a, .int .i64 w.g.b, sl5 false w.g.lab w.g.cs w.g.sp, sl2 false 0 w.vs []]
theorem idx_g {gs : List Gl} {i : Nat} {g : Gl} (h : gs[i]? = some g) : (gs.map Gl.row)[i]? = some [.int .i64 g.a, .int .i64 g.b, .sl false g.lab 5 (g.cs.map C.row) g.sp] := by
  rw [List.getElem?_map, h]; rfl
theorem idx_w {ws : List Wt} {i : Nat} {w : Wt} (h : ws[i]? = some w) : (ws.map Wt.row)[i]? = some [.int .i64 w.g.a, .int .i64 w.g.b, .sl false w.g.lab 5 (w.g.cs.map C.row) w.g.sp, .sl false 0 2 (w.vs.map nrow) []] := by
  rw [List.getElem?_map, h]; rfl
theorem own_noRefss (n : Nat) : ∀ gs : List Gl, LV.noRefss n ((gs.map Gl.own).map Gl.row) = true
  | [] => by simp [LV.noRefss]
  | g :: r => by
    have := own_noRefss n r
    have h2 := noRef5 n false 0 g.cs
    simp only [List.map_cons, LV.noRefss, this, Gl.row, Gl.own, LV.noRefs, LV.noRef, noRef_rows, Bool.and_self]
theorem ownG_noRef (n : Nat) (o : Bool) (gs : List Gl) : (slG o 0 (gs.map Gl.own) []).noRef n = true := by
  simp only [LV.noRef, own_noRefss, LV.noRefss, Bool.and_self]
theorem own1_noRef (n : Nat) (g : Gl) : (LV.agg g.own.row).noRef n = true := by
  simp only [LV.noRef, Gl.row, Gl.own, LV.noRefs, noRef_rows, LV.noRefss, Bool.and_self]
theorem copied_ok (g : Gl) (hg : g.small) (ob : Obs) (pb : Nat) : Gives env10 172 [.agg g.row] ob pb (.agg g.own.row, ob) := by
  unfold Gl.small at hg
  refine gives_code (f := tf172) rfl ?_
  conv => whnf
  refine ⟨_, _, gives_ext (F := cloneF 5 48) (r := sl5 true 0 g.cs []) rfl ?_, fun _ => noRef5 _ _ _ _, ?_⟩
  · simp only [cloneF, cloneF0]
    rw [if_pos ⟨trivial, by rw [List.length_map]; unfold maxLen; omega, by rw [List.length_map]; omega⟩]
  conv => whnf
  exact ⟨rfl, rfl, rfl⟩
theorem all_ok (lab : Nat) (gs : List Gl) (sp : List (List LV)) (hl : gs.length ≤ 4294967296) (hg : ∀ g ∈ gs, g.small) (ob : Obs) (pb : Nat) : Gives env10 171 [slG false lab gs sp] ob pb (slG true 0 (gs.map Gl.own) [], ob) := by
  have hlen : (gs.map Gl.row).length = gs.length := by simp
  refine gives_code (f := tf171) rfl ?_
  conv => whnf
  refine loop_v (V := fun i : Nat => [(3, slG true 0 ((gs.take i).map Gl.own) []), (8, .int .i64 i)]) (O := fun _ => ob) (m := fun i => gs.length - i) (P := fun i => i ≤ gs.length) ?_ 0 (Nat.zero_le _) rfl
  intro R i hi hN hE hR
  conv => whnf
  refine sel_split (fun h => ?_) (fun h => ?_)
  · conv => whnf
    have h := of_decide_eq_true h
    rw [hlen] at h
    obtain ⟨g, hq⟩ : ∃ g, gs[i]? = some g := ⟨_, List.getElem?_eq_getElem (show i < gs.length by omega)⟩
    have e : IntKind.i64.wrap ((i : Int) + 1) = ((i + 1 : Nat) : Int) := by rw [wrap64] <;> omega
    refine ⟨_, ⟨by omega, idx_g hq⟩, ?_⟩
    conv => whnf
    refine ⟨_, _, copied_ok g (hg g (List.mem_of_getElem? hq)) ob _, fun _ => own1_noRef _ _, ?_⟩
    conv => whnf
    refine ⟨((gs.take (i + 1)).map Gl.own).map Gl.row, ⟨.inl rfl, ?_, ?_⟩, ?_⟩
    · show ((((gs.take i).map Gl.own).map Gl.row).length + 1) * 40 ≤ _
      rw [List.length_map, List.length_map, List.length_take]; omega
    · rw [List.take_add_one, hq, List.map_append, List.map_append]; rfl
    conv => whnf
    refine hN (i + 1) _ (by omega) (by omega) ?_
    rw [← e]; rfl
  · conv => whnf
    have h := of_decide_eq_false h
    rw [hlen] at h
    have : i = gs.length := by omega
    subst this
    refine hE _ _ ?_
    rw [List.take_length]
    conv => whnf
    exact ⟨rfl, rfl, rfl⟩
/-- What a queue's object holds. -/
def qC (rd : List Gl) (wt : List Wt) : List LV := [slG true 0 rd [], .sl true 0 4 (wt.map Wt.row) []]
theorem new_ok (ob : Obs) (pb : Nat) : Gives env10 146 [] ob pb (.optr ob.length 0, ob ++ [qC [] []]) := by
  refine gives_code (f := tf146) rfl ?_
  conv => whnf
  exact ⟨rfl, rfl, rfl⟩
section
variable {ob : Obs} {id pb : Nat} {rd : List Gl} {wt : List Wt} (hob : ob[id]? = some (qC rd wt)) (hpb : pb ≤ id)
include hob
theorem set_at {v : List LV} : (ob.set id v)[id]? = some v := by
  have := (List.getElem?_eq_some_iff.1 hob).1
  rw [List.getElem?_set_self this]
include hpb
theorem put_ok (lab : Nat) (gs : List Gl) (sp : List (List LV)) (hl : rd.length + gs.length ≤ 4294967296) (hg : ∀ g ∈ gs, g.small) : Gives env10 147 [.optr id 0, slG false lab gs sp] ob pb (.int .i64 0, ob.set id (qC (rd ++ gs.map Gl.own) wt)) := by
  refine gives_code (f := tf147) rfl ?_
  conv => whnf
  refine ⟨_, _, ⟨hob, rfl, rfl⟩, ?_⟩
  conv => whnf
  refine ⟨_, _, all_ok lab gs sp (by omega) hg ob _, fun _ => ownG_noRef _ _ _, ?_⟩
  conv => whnf
  refine ⟨_, _, _, _, ⟨hpb, hob, rfl⟩, ?_⟩
  conv => whnf
  refine ⟨(rd ++ gs.map Gl.own).map Gl.row, ⟨.inl rfl, ?_, by rw [List.map_append]⟩, ?_⟩
  · show ((rd.map Gl.row).length + ((gs.map Gl.own).map Gl.row).length) * 40 ≤ _
    simp only [List.length_map]; omega
  conv => whnf
  refine ⟨_, qC (rd ++ gs.map Gl.own) wt, ⟨hpb, set_at hob, rfl, rfl⟩, ?_⟩
  conv => whnf
  refine ⟨rfl, rfl, ?_⟩
  show (ob.set id _).set id _ = _
  rw [List.set_set]
end
end Tree.Q10
