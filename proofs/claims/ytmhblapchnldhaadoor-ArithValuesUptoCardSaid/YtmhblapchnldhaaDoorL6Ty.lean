/- Layer 6: arguments that are bindings and terms. -/
import Derived.Test.YtmhblapchnldhaaDoorTY
import Derived.Test.YtmhblapchnldhaaDoorL6Val
import Derived.Test.YtmhblapchnldhaaDoorL6Chk
set_option autoImplicit false
set_option linter.unusedVariables false
namespace Tree.H6
open Go Go.Proofs
theorem ty6 : TermTy tab6.P 59 24 := ⟨by kernel_rfl, by kernel_rfl, by kernel_rfl, by kernel_rfl, by kernel_rfl, by kernel_rfl⟩
theorem sb6 : shOf tab6.P 8 83 = some [.i .i64, .i .i64, .sl 59] := by kernel_rfl
theorem cb6 : tab6.P.cellsOf 83 = 3 := by kernel_rfl
theorem binds_of : ∀ (xs : List (List LV)), (∀ x ∈ xs, ∃ fuel, Typed tab6.P fuel 83 x) → ∃ bs : List Bn, xs = bs.map Bn.row ∧ ∀ b ∈ bs, ∀ c ∈ b.cs, c.fine
  | [], _ => ⟨[], rfl, fun c hc => by cases hc⟩
  | x :: xs, h => by
    obtain ⟨bs, rfl, hf⟩ := binds_of xs (fun y hy => h y (List.mem_cons_of_mem _ hy))
    obtain ⟨fuel, hx⟩ := h x (List.mem_cons_self ..)
    obtain ⟨_, _, rfl, ⟨a, rfl, _⟩, h1⟩ := (sh_ok 8 fuel 83 _ x sb6 hx).cons
    obtain ⟨_, _, rfl, ⟨b, rfl, _⟩, h2⟩ := h1.cons
    obtain ⟨_, _, rfl, w3, h3⟩ := h2.cons
    obtain rfl := h3.nil
    obtain ⟨cs, ds, rfl, a1, a2⟩ := term_ofP ty6 w3
    refine ⟨⟨(a, b), 0, cs, ds.map C.row⟩ :: bs, rfl, fun g hg => ?_⟩
    rcases List.mem_cons.1 hg with rfl | hg
    · exact a1
    · exact hf g hg
theorem bulk_binds : ∀ bs : List Bn, bs.length + (bs.flatMap Bn.cs).length ≤ LV.bulkss (bs.map Bn.row)
  | [] => by simp [LV.bulkss]
  | g :: gs => by
    have := bulk_binds gs
    have h := bulk5 false g.lab g.cs g.sp
    simp only [List.map_cons, LV.bulkss, List.length_cons, List.flatMap_cons, List.length_append]
    have e : LV.bulks g.row = (LV.int .i64 g.k.1).bulk + ((LV.int .i64 g.k.2).bulk + ((sl5 false g.lab g.cs g.sp).bulk + 0)) := by
      show LV.bulks [_, _, _] = _
      simp only [LV.bulks]
    rw [e]; omega
theorem mem_flatB {g : Bn} : ∀ {gs : List Bn}, g ∈ gs → g.cs.length ≤ (gs.flatMap Bn.cs).length
  | k :: gs, h => by
    rw [List.flatMap_cons, List.length_append]
    rcases List.mem_cons.1 h with rfl | h
    · omega
    · have := mem_flatB h; omega
theorem bindsL_of {lv : LV} (h : ShOk tab6.P (.sl 83) lv) (hb : lv.bulk ≤ 1048576) : ∃ (bs : List Bn) (sp : List (List LV)), lv = .sl false 0 3 (bs.map Bn.row) sp ∧ bs.length ≤ 1048576 ∧ ∀ b ∈ bs, b.fine := by
  obtain ⟨xs, sp, rfl, h1, h2⟩ := h
  obtain ⟨bs, rfl, hf⟩ := binds_of xs (fun x hx => (h1 x (List.mem_append_left _ hx)).2)
  rw [cb6] at hb ⊢
  rw [LV.bulk] at hb
  have h3 := bulk_binds bs
  exact ⟨bs, sp, rfl, by omega, fun b hb => ⟨by have := mem_flatB hb; omega, hf b hb⟩⟩
end Tree.H6
