/- A part of the interpreter over trees and of its proof. -/
import Derived.Test.YtfdamolkgfcoiaaTF
import Derived.Laws.AppendOwn
import Derived.Shelf.SlicesE.Clone
import Derived.Shelf.Spec.SlicesGrow
set_option autoImplicit false
set_option linter.unusedVariables false
set_option linter.unusedSimpArgs false
namespace Tree
open Go Go.RowKit
section
variable {T : Tab} {pb : Nat} {m m' : Mem}

theorem ObjsOk.ext {ob : Obs} (h : ObjsOk T ob m) (he : m.ext m') (hn : m'.n = m.n) : ObjsOk T ob m' := by
  have hob : ∀ (id : Nat) (cs : List LV), ob[id]? = some cs → m'.ob id = m.ob id := fun id cs hi => he.le.ob id (by rw [h.n]; exact (List.getElem?_eq_some_iff.1 hi).1)
  refine ⟨hn.trans h.n, fun id cs hi => ?_, fun id i l z xs sp cs hi hc => ?_⟩
  · rw [hob id cs hi]; exact (h.obj id cs hi).ext he
  · obtain ⟨v, h1, h2⟩ := h.own id i l z xs sp cs hi hc
    exact ⟨v, by rw [hob id cs hi]; exact he.cell h1, h2.ext he⟩

/-- Behind a call that made a row of its own: what the kit's contracts tell, in the framework's words. -/
theorem fresh_row {ob : Obs} {w' : World} {e : TypeId} {z : Nat} {v : Value} {xs : List (List LV)} {cells : List Value} (hb : Below m.w.heap.size m.w w') (hown : w'.ownsRow m.w.heap.size e z v xs.length cells) (hz : 0 < z) (hx : ∀ x ∈ xs, x.length = z)
    (hcells : ∀ (j : Nat) (lv : LV), xs.flatten[j]? = some lv → ∃ u, cells[j]? = some u ∧ u.oneCell' = true ∧ Rep T m lv u) (hO : ObjsOk T ob m) :
    ∃ m' : Mem, m'.w = w' ∧ Post pb m m' ∧ ObjsOk T ob m' ∧ Rep T m' (.sl true 0 z xs []) v ∧ Tail m' z v (.res none) := by
  obtain ⟨hlen, hrow⟩ := hown
  let mk : (Nat → Nat → Kd) → Mem := fun c => { w := w', k := fun b o => if b < m.w.heap.size then m.k b o else c b o, ob := m.ob, n := m.n }
  have hext : ∀ c, m.ext (mk c) := by
    intro c
    have hk : ∀ b o, b < m.w.heap.size → (mk c).k b o = m.k b o := fun b o hlt => if_pos hlt
    refine ⟨⟨fun b o l u hc hi => ?_, Nat.le_refl _, fun _ _ => rfl⟩, fun b hlt => hb.block b hlt, hk⟩
    have hlt := cell_lt hc
    refine ⟨by rw [hk b o hlt]; exact hi, ?_⟩
    rw [← hc]; exact World.cell?_of_block (hb.block b hlt)
  have hpost : ∀ c, Post pb m (mk c) := fun c => ⟨hb.os, hb.tape, hb.output, hb.size, fun b hlt => .inl (hb.block b hlt), fun b o hlt _ => if_pos hlt, Nat.le_refl _, fun _ _ => rfl, fun _ h1 h2 => absurd h1 (Nat.not_le.2 h2)⟩
  rcases hrow with ⟨rfl, hn⟩ | ⟨g, cap, cur, rfl, hg, hh, hcap, hmax, hsz, htake⟩
  · have : xs = [] := List.eq_nil_of_length_eq_zero hn
    subst this
    exact ⟨mk (fun _ _ => .other), rfl, hpost _, hO.ext (hext _) rfl, .nil _ _ _, fun b o ht => ht.elim⟩
  · let c : Nat → Nat → Kd := fun b o => if b = g then (if o < xs.length * z then .imm 0 else .res none) else .other
    have hkg : ∀ o, (mk c).k g o = if o < xs.length * z then .imm 0 else .res none := by
      intro o
      show (if g < m.w.heap.size then _ else c g o) = _
      rw [if_neg (by omega)]; simp only [c, if_true]
    have hle := (hext c).le
    have hcur : ∀ (j : Nat) (u : Value), cells[j]? = some u → cur[j]? = some u := by
      intro j u hj
      have hjl : j < xs.length * z := by rw [← hlen]; exact (List.getElem?_eq_some_iff.1 hj).1
      rw [← htake, List.getElem?_take, if_pos hjl, Array.getElem?_toList] at hj
      exact hj
    have key : ∀ (k j : Nat), ∃ u, ∀ (x : List LV) (lv : LV), xs[k]? = some x → x[j]? = some lv → (mk c).k g (0 + k * z + j) = .imm 0 ∧ (mk c).w.cell? ⟨g, 0 + k * z + j, none⟩ = some u ∧ u.oneCell' = true ∧ Rep T (mk c) lv u := by
      intro k j
      by_cases hex : ∃ x lv, xs[k]? = some x ∧ x[j]? = some lv
      · obtain ⟨x, lv, h1, h2⟩ := hex
        have hxl := hx x (List.mem_of_getElem? h1)
        have hjz : j < z := by rw [← hxl]; exact (List.getElem?_eq_some_iff.1 h2).1
        have hfl := flat_get xs hx k j hjz
        rw [h1, Option.bind_some, h2] at hfl
        obtain ⟨u, g1, g2, g3⟩ := hcells _ lv hfl
        refine ⟨u, fun x' lv' h1' h2' => ?_⟩
        rw [h1] at h1'; injection h1' with h1'; subst h1'
        rw [h2] at h2'; injection h2' with h2'; subst h2'
        have hfll := (List.getElem?_eq_some_iff.1 hfl).1
        rw [flat_len xs hx] at hfll
        refine ⟨by rw [hkg, Nat.zero_add, if_pos hfll], ?_, g2, g3.mono hle⟩
        show w'.cell? _ = _
        simp only [World.cell?, hh, Nat.zero_add]
        simpa using hcur _ u g1
      · exact ⟨undef, fun x lv h1 h2 => absurd ⟨x, lv, h1, h2⟩ hex⟩
    refine ⟨mk c, rfl, hpost _, hO.ext (hext _) rfl, ?_, ?_⟩
    · refine Rep.sl true 0 z xs [] g 0 cap (fun k j => Classical.choose (key k j)) (by simpa using hcap) (by simpa using hx) (fun k x j lv hk hj => ?_) (fun k x j lv hk hj => ?_) hmax
      · have := Classical.choose_spec (key k j) x lv (by simpa using hk) hj
        exact ⟨this.1, this.2.1, this.2.2.1⟩
      · exact (Classical.choose_spec (key k j) x lv (by simpa using hk) hj).2.2.2
    · intro b o ht
      simp only [tail] at ht
      obtain ⟨rfl, h1, h2⟩ := ht
      refine ⟨by rw [hkg, if_neg (by omega)], cur, e, hh, by omega⟩
end
end Tree

set_option autoImplicit false
set_option linter.unusedVariables false
set_option linter.unusedSimpArgs false
namespace Tree
open Go Go.RowKit Go.Shelf Go.Proofs
end Tree

set_option autoImplicit false
set_option linter.unusedVariables false
set_option linter.unusedSimpArgs false
namespace Tree
open Go Go.RowKit Go.Shelf Go.Proofs
theorem ObjsOk.ren {T : Tab} {ob : Obs} {m : Mem} (h : ObjsOk T ob m) (f : Kd → Kd) (h1 : ∀ l, f (.imm l) = .imm l) (h2 : ∀ i, f (.obj i) = .obj i) (h3 : ∀ i c, f (.tail ⟨.obj i, c⟩) = .tail ⟨.obj i, c⟩) : ObjsOk T ob (m.ren f) := by
  refine ⟨h.n, fun id cs hi => (h.obj id cs hi).ren f h1 (h2 id), fun id i l z xs sp cs hi hc => ?_⟩
  obtain ⟨v, w1, w2⟩ := h.own id i l z xs sp cs hi hc
  have := w2.ren f
  rw [h3] at this
  exact ⟨v, w1, this⟩
end Tree
