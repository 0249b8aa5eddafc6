/- Package refs: counts.rows, walked. -/
import Derived.Test.YtfdamolkgfcoiaaTHA
import Derived.Test.YtfdamolkgfcoiaaTE
set_option autoImplicit false
set_option linter.unusedVariables false
set_option linter.unusedSimpArgs false
namespace Tree.TH
open Tree Go Go.RowKit Go.Proofs Go.Shelf Go.Lib Go.Sort
set_option maxRecDepth 100000
set_option maxHeartbeats 1000000
theorem info59 : infoB Try.prog 60 4 32 = true := by decide +kernel
theorem row_ne_it {w : World} {b r : Nat} {es : Array MapEntry} {clock : Nat} {l : List MapEntry} {base : Nat} {e : TypeId} {size : Nat} {v : Value} {m : Nat} {xs : List Value} (h : w.ownsRow base e size v m xs) (hr : Iter w b r es clock l) : some r ≠ v.ownBlock := by
  have hit := hr.it
  rcases h.2 with ⟨rfl, _⟩ | ⟨g, cap, cur, rfl, _, hb, _⟩
  · simp [Value.ownBlock]
  · intro e1
    have : r = g := by simpa [Value.ownBlock] using e1
    subst this
    rw [hit] at hb
    cases hb
theorem cells4_new (w : World) (a b c d : Value) (t : TypeId) : ∀ j u, [a, b, c, d][j]? = some u → (w.alloc (.cells #[a, b, c, d] t)).cell? ((⟨w.heap.size, 0, none⟩ : Addr).add j) = some u := by
  intro j u hj
  have h1 := (MapKept.heap_alloc w (.cells #[a, b, c, d] t)).1
  have key : ∀ k, (w.alloc (.cells #[a, b, c, d] t)).cell? ⟨w.heap.size, k, none⟩ = #[a, b, c, d][k]? := fun k => by simp only [World.cell?, h1, Option.isSome_none, Bool.false_eq_true, if_false]
  have ka : ∀ k, (⟨w.heap.size, 0, none⟩ : Addr).add k = ⟨w.heap.size, k, none⟩ := fun k => by
    unfold Addr.add; split
    · rename_i h; rw [h]
    · simp
  rw [ka, key]
  simpa using hj
theorem rows_loop (b : Nat) (es : Array MapEntry) (clock : Nat) (w : World) (hb : w.heap[b]? = some (.map es clock)) (hk : Shape3 es) (hold : ∀ x ∈ es.toList, x.born < clock) (hn : (es.toList.map (·.born)).Nodup) (hsz : es.size ≤ 1099511627776) (Cs : List Value)
    (hsort : ∀ (l : List MapEntry) (v : Value) (wr : World), l.Perm es.toList → wr.ownsRow w.heap.size 60 4 v l.length (l.flatMap enc3) → Below w.heap.size w wr →
      Calls Try.prog 23 #[v, .func (.func 24) #[] #[]] wr fun e w' => e = .returned (.tuple #[]) ∧ Below w.heap.size w w' ∧ w'.ownsRow w.heap.size 60 4 v es.size Cs) :
    Calls Try.prog 20 #[.map (some b)] w fun e w' => ∃ v, e = .returned v ∧ w'.ownsRow w.heap.size 60 4 v es.size Cs ∧ Below w.heap.size w w' := by
  have hbl : b < w.heap.size := (Array.getElem?_eq_some_iff.1 hb).1
  obtain ⟨i0, z0, hi, hz0, hz1, hz2, hzs⟩ := info_of info59
  go_enter Try.func20, Try.ntmps20
  go_wp2_with (first
    | (at_range; refine wpList_range_raw _ rfl _ 48 rfl 56 3 Try.underlying48 b es clock rfl hb ?_; intro w0 hI0 hg0 hs0)
    | go_in)
  go_frame
  go_loopw [3] (fun v wr => ∃ l : List MapEntry, Iter wr b w.heap.size es clock l ∧ wr.ownsRow w.heap.size 60 4 v l.length (l.flatMap enc3) ∧ l.length + wr.rangeLeft b w.heap.size ≤ es.size ∧ Below w.heap.size w wr)
    (fun _ wr => wr.rangeLeft b w.heap.size)
  case atStart =>
    refine ⟨[], hI0, World.ownsRow_nil w0 w.heap.size 60 4, ?_, (Below.refl _ _).grown hg0 (Nat.le_refl _) (fun j hj => by cases hj)⟩
    rw [hI0.left]
    show 0 + (Array.filter _ es).size ≤ _
    rw [Nat.zero_add]; exact Array.size_filter_le ..
  case round =>
    obtain ⟨l, hI, hrow, hle, hnx⟩ := hrel
    go_wp2_with (first
      | (at_next; refine wpList_next_k3 _ rfl _ rfl b w.heap.size es clock l hk hold hn rfl hI ?_ ?_)
      | go_in)
    · intro hall
      have hperm : l.Perm es.toList := by
        refine (List.perm_ext_iff_of_nodup ?_ ?_).2 (fun x => ⟨fun hx => hI.mem x hx, fun hx => hall x (by simpa using hx)⟩)
        · exact List.Pairwise.of_map (·.born) (fun a b h e => h (by rw [e])) hI.nd
        · exact List.Pairwise.of_map (·.born) (fun a b h e => h (by rw [e])) hn
      have hc := hsort l _ _ hperm hrow hnx
      go_wp2_with (go_at_call 23; refine hc.mono ?_; rintro e w' ⟨rfl, hB, hown⟩)
      go_ret
      exact ⟨_, rfl, hown, hB⟩
    · intro e w2 k1 k2 k3 n hem henc hkey hI2 hlt hg2 hs2 hen
      have hrow2 := hrow.kept hg2 (Or.inr (row_ne_it hrow hI).symm)
      have hcn := cells4_new (w2.alloc (Obj.cells #[Value.int .i64 k1, Value.int .i64 k2, Value.int .i64 k3] 56)) (.int .i64 k1) (.int .i64 k2) (.int .i64 k3) (.int .i64 n) 60
      have hsz2 : (w2.alloc (Obj.cells #[Value.int .i64 k1, Value.int .i64 k2, Value.int .i64 k3] 56)).heap.size = w2.heap.size + 1 := by simp
      rw [hsz2] at hcn
      have hHS : Aside (w2.heap.size = _) := hs2
      have HC : Aside _ := hcn
      clear hs2 hsz2 hcn
      go_wp2_with (first
        | (at_builtin; refine wpList_append_own _ rfl _ _ 37 rfl w.heap.size 60 i0 z0 4 32 Try.underlying37 hi hz0 hz1 hz2 hzs (by decide) _ _ _ rfl ((hrow2.alloc _).alloc _) ⟨w2.heap.size + 1, 0, none⟩ 1 1 [.int .i64 k1, .int .i64 k2, .int .i64 k3, .int .i64 n] rfl rfl HC.out (by simp [Value.oneCell']) (by unfold maxLen; omega) (by omega) (by have := hnx.size; have := hg2.size; simp; omega) ?_; intro v' w3 hown' hg3 hnil3; go_frame)
        | go_in)
      have hI3 := ((hI2.alloc (Obj.cells #[Value.int .i64 k1, Value.int .i64 k2, Value.int .i64 k3] 56)).alloc (Obj.cells #[Value.int .i64 k1, Value.int .i64 k2, Value.int .i64 k3, Value.int .i64 n] 60)).kept hg3 (row_ne_low hrow2 hbl) (row_ne_it hrow2 hI2)
      have hl3 : w3.rangeLeft b w.heap.size = w2.rangeLeft b w.heap.size := by rw [hI3.left, hI2.left]
      have hH := hHS.out
      refine ⟨⟨l ++ [e], hI3, ?_, ?_, ?_⟩, by rw [hl3]; exact hlt⟩
      · rw [List.length_append, List.flatMap_append]
        simpa [henc] using hown'
      · rw [List.length_append, List.length_singleton, hl3]; omega
      · have h1 := hnx.size
        have h2 := hg2.size
        exact (((hnx.grown hg2 hnx.size (fun j hj => by cases hj; exact Nat.le_refl _)).alloc (by omega) _).alloc (by simp; omega) _).grown hg3 (by simp; omega) (fun j hj => (hrow2.lt j hj).1)
end Tree.TH
