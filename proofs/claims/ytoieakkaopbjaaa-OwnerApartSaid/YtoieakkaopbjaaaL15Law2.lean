/- A part of the interpreter over trees and of its proof. -/
import Derived.Test.YtoieakkaopbjaaaL15Law1
set_option autoImplicit false
set_option linter.unusedVariables false
set_option linter.unusedSimpArgs false
namespace Tree.O15
open Go
set_option maxHeartbeats 8000000
set_option maxRecDepth 100000
/-- A deed. -/
structure Dd where
  k : Int
  v : NV
  n : Int
  lab : Nat
  ms : List NV
  sp : List (List LV)
def Dd.row (x : Dd) : List LV := [.int .i64 x.k, .int .i64 x.v.1, .int .i64 x.v.2, .int .i64 x.n, .sl false x.lab 2 (x.ms.map nrow) x.sp]
abbrev slD (l : List Dd) (sp : List (List LV)) : LV := .sl false 0 5 (l.map Dd.row) sp
theorem idx_d {l : List Dd} {i : Nat} {x : Dd} (h : l[i]? = some x) : (l.map Dd.row)[i]? = some [.int .i64 x.k, .int .i64 x.v.1, .int .i64 x.v.2, .int .i64 x.n, .sl false x.lab 2 (x.ms.map nrow) x.sp] := by
  rw [List.getElem?_map, h]; rfl
/-- What a table's waiters are like. -/
structure Inv (W : Wm) (n : Nat) : Prop where
  o : onceW W
  d : ∀ k, (lkW W k).Nodup
  l : ∀ k, (lkW W k).length ≤ n
theorem inv_set {W : Wm} {n : Nat} (h : Inv W n) (k : NV) (x c : Int) (hx : x ∉ lkW W k) : Inv (setW W k (lkW W k ++ [x]) c) (n + 1) where
  o := once_set h.o _ _ _
  d := fun j => by
    rw [lkW_set]
    split
    · rw [List.nodup_append]
      refine ⟨h.d k, by simp, fun a ha b hb e => ?_⟩
      rw [List.mem_singleton] at hb
      subst hb; subst e; exact hx ha
    · exact h.d j
  l := fun j => by
    rw [lkW_set]
    split
    · have := h.l k; simp; omega
    · have := h.l j; omega
theorem inv_del {W : Wm} {n : Nat} (h : Inv W n) (k : NV) : Inv (delW W k) (n + 1) where
  o := once_del h.o k
  d := fun j => by
    rw [lkW_del h.o]
    split
    · simp
    · exact h.d j
  l := fun j => by
    rw [lkW_del h.o]
    split
    · simp
    · have := h.l j; omega
theorem inv_mono {W : Wm} {n : Nat} (h : Inv W n) : Inv W (n + 1) := ⟨h.o, h.d, fun k => by have := h.l k; omega⟩
/-- The look behind a deed: nothing of another variable has changed; no node waits twice. -/
theorem nodup_ne {l : List Int} (h : l.Nodup) {i j : Nat} {x y : Int} (hi : l[i]? = some x) (hj : l[j]? = some y) (hne : j < i) : x ≠ y := by
  obtain ⟨h1, rfl⟩ := List.getElem?_eq_some_iff.1 hi
  obtain ⟨h2, rfl⟩ := List.getElem?_eq_some_iff.1 hj
  exact fun e => List.pairwise_iff_getElem.1 h j i h2 h1 hne e.symm
end Tree.O15
