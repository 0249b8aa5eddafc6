/- Layer 6: arguments that are lists of numbers. -/
import Derived.Test.YtphdgjglofapbaaDoorTLf
import Derived.Test.YtphdgjglofapbaaDoorTY
set_option autoImplicit false
set_option linter.unusedVariables false
namespace Tree
open Go
theorem ints_ofP {P : Program} {ti : TypeId} (hs : shOf P 8 ti = some [.i .i64]) : ∀ (xs : List (List LV)), (∀ x ∈ xs, ∃ fuel, Typed P fuel ti x) → ∃ l : List Int, xs = l.map zrow
  | [], _ => ⟨[], rfl⟩
  | x :: xs, h => by
    obtain ⟨l, rfl⟩ := ints_ofP hs xs (fun y hy => h y (List.mem_cons_of_mem _ hy))
    obtain ⟨fuel, hx⟩ := h x (List.mem_cons_self ..)
    obtain ⟨_, _, rfl, ⟨n, rfl, _⟩, h1⟩ := (sh_ok 8 fuel ti _ x hs hx).cons
    obtain rfl := h1.nil
    exact ⟨n :: l, rfl⟩
theorem intsL_ofP {P : Program} {ti : TypeId} (hs : shOf P 8 ti = some [.i .i64]) (hc : P.cellsOf ti = 1) {lv : LV} (h : ShOk P (.sl ti) lv) : ∃ (l u : List Int), lv = zsl false 0 l (u.map zrow) := by
  obtain ⟨xs, sp, rfl, h1, h2⟩ := h
  obtain ⟨l, rfl⟩ := ints_ofP hs xs (fun x hx => (h1 x (List.mem_append_left _ hx)).2)
  obtain ⟨u, rfl⟩ := ints_ofP hs sp (fun x hx => (h1 x (List.mem_append_right _ hx)).2)
  exact ⟨l, u, by rw [hc]; rfl⟩
theorem bulkZ (o : Bool) (lab : Nat) (l : List Int) (sp : List (List LV)) : l.length ≤ (zsl o lab l sp).bulk := by
  have : ∀ l : List Int, l.length ≤ LV.bulkss (l.map zrow) := by
    intro l
    induction l with
    | nil => simp [LV.bulkss]
    | cons a l ih =>
      have e : 1 ≤ LV.bulks (zrow a) := by simp [zrow, LV.bulks, LV.bulk]
      simp only [List.map_cons, LV.bulkss, List.length_cons]
      omega
  have h := this l
  show _ ≤ LV.bulk (.sl o lab 1 (l.map zrow) sp)
  rw [LV.bulk]; omega
end Tree
