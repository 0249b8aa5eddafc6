/- Layer 10: arguments that are goals, names and deeds; what bulk says of them. -/
import Derived.Test.YtjbdicceeocgeaaTY
import Derived.Test.YtjbdicceeocgeaaL10Q2
set_option autoImplicit false
set_option linter.unusedVariables false
namespace Tree.Q10
open Go
structure GoalTy (P : Program) (tc tt tg tn : TypeId) : Prop where
  T : TermTy P tc tt
  sg : shOf P 8 tg = some [.i .i64, .i .i64, .sl tc]
  cg : P.cellsOf tg = 3
  sn : shOf P 8 tn = some [.i .i64, .i .i64]
  cn : P.cellsOf tn = 2
section
variable {P : Program} {tc tt tg tn : TypeId} (Y : GoalTy P tc tt tg tn)
include Y
theorem goals_ofP : ∀ (xs : List (List LV)), (∀ x ∈ xs, ∃ fuel, Typed P fuel tg x) → ∃ gs : List Gl, xs = gs.map Gl.row ∧ ∀ g ∈ gs, (∀ c ∈ g.cs, c.fine) ∧ ∃ ds : List C, g.sp = ds.map C.row
  | [], _ => ⟨[], rfl, fun c hc => by cases hc⟩
  | x :: xs, h => by
    obtain ⟨gs, rfl, hf⟩ := goals_ofP xs (fun y hy => h y (List.mem_cons_of_mem _ hy))
    obtain ⟨fuel, hx⟩ := h x (List.mem_cons_self ..)
    obtain ⟨_, _, rfl, ⟨a, rfl, _⟩, h1⟩ := (sh_ok 8 fuel tg _ x Y.sg hx).cons
    obtain ⟨_, _, rfl, ⟨b, rfl, _⟩, h2⟩ := h1.cons
    obtain ⟨_, _, rfl, w3, h3⟩ := h2.cons
    obtain rfl := h3.nil
    obtain ⟨cs, ds, rfl, a1, a2⟩ := term_ofP Y.T w3
    refine ⟨⟨a, b, 0, cs, ds.map C.row⟩ :: gs, rfl, fun g hg => ?_⟩
    rcases List.mem_cons.1 hg with rfl | hg
    · exact ⟨a1, ds, rfl⟩
    · exact hf g hg
theorem goalsL_ofP {lv : LV} (h : ShOk P (.sl tg) lv) : ∃ (gs hs : List Gl), lv = slG false 0 gs (hs.map Gl.row) ∧ ∀ g ∈ gs, (∀ c ∈ g.cs, c.fine) ∧ ∃ ds : List C, g.sp = ds.map C.row := by
  obtain ⟨xs, sp, rfl, h1, h2⟩ := h
  obtain ⟨gs, rfl, hf⟩ := goals_ofP Y xs (fun x hx => (h1 x (List.mem_append_left _ hx)).2)
  obtain ⟨hs, rfl, _⟩ := goals_ofP Y sp (fun x hx => (h1 x (List.mem_append_right _ hx)).2)
  exact ⟨gs, hs, by rw [Y.cg], hf⟩
end
theorem bulk_goals : ∀ gs : List Gl, gs.length + (gs.flatMap Gl.cs).length ≤ LV.bulkss (gs.map Gl.row)
  | [] => by simp [LV.bulkss]
  | g :: gs => by
    have := bulk_goals gs
    have h := bulk5 false g.lab g.cs g.sp
    simp only [List.map_cons, LV.bulkss, List.length_cons, List.flatMap_cons, List.length_append]
    have e : LV.bulks g.row = (LV.int .i64 g.a).bulk + ((LV.int .i64 g.b).bulk + ((sl5 false g.lab g.cs g.sp).bulk + 0)) := by
      show LV.bulks [_, _, _] = _
      simp only [LV.bulks]
    rw [e]; omega
theorem bulkG (o : Bool) (l : Nat) (gs : List Gl) (sp : List (List LV)) : gs.length + (gs.flatMap Gl.cs).length ≤ (slG o l gs sp).bulk := by
  have := bulk_goals gs
  show _ ≤ LV.bulk (.sl o l 3 (gs.map Gl.row) sp)
  rw [LV.bulk]; omega
theorem mem_flatG {g : Gl} : ∀ {gs : List Gl}, g ∈ gs → g.cs.length ≤ (gs.flatMap Gl.cs).length
  | k :: gs, h => by
    rw [List.flatMap_cons, List.length_append]
    rcases List.mem_cons.1 h with rfl | h
    · omega
    · have := mem_flatG h; omega
theorem small_of {o : Bool} {l : Nat} {gs : List Gl} {sp : List (List LV)} (hb : (slG o l gs sp).bulk ≤ 1048576) : gs.length ≤ 1048576 ∧ ∀ g ∈ gs, g.small := by
  have h := bulkG o l gs sp
  exact ⟨by omega, fun g hg => by have := mem_flatG hg; unfold Gl.small; omega⟩
end Tree.Q10
