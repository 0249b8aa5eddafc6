/- Package refs: Table.Exported, walked. -/
import Derived.Test.YtfdamolkgfcoiaaTHC
set_option autoImplicit false
set_option linter.unusedVariables false
set_option linter.unusedSimpArgs false
namespace Tree.TH
open Tree Go Go.RowKit Go.Proofs Go.Shelf Go.Lib Go.Sort
set_option maxRecDepth 100000
set_option maxHeartbeats 1000000
def isV (x y : Int) (q : K3 × Int) : Bool := q.1.1 == x && q.1.2.1 == y
theorem kv_of {e : MapEntry} {a b c n : Int} (h : enc3 e = [.int .i64 a, .int .i64 b, .int .i64 c, .int .i64 n]) : kvE e = ((a, b, c), n) := by unfold kvE; rw [h]
theorem exported_all (tb b : Nat) (es : Array MapEntry) (clock : Nat) (w : World) (x y : Int) (hc2 : w.cell? ⟨tb, 2, none⟩ = some (.map (some b))) (hb : w.heap[b]? = some (.map es clock)) (hk : Shape3 es) (hold : ∀ x ∈ es.toList, x.born < clock) (hn : (es.toList.map (·.born)).Nodup) :
    Calls Try.prog 10 #[.pointer (some ⟨tb, 0, none⟩), .agg #[.int .i64 x, .int .i64 y]] w fun e w' => e = .returned (.bool ((es.toList.map kvE).any (isV x y))) ∧ Below w.heap.size w w' := by
  have hbl : b < w.heap.size := (Array.getElem?_eq_some_iff.1 hb).1
  have hc2' : (w.alloc (.cells #[.int .i64 x, .int .i64 y] 31)).cell? ⟨tb, 2, none⟩ = some (.map (some b)) := by
    have htl : tb < w.heap.size := by
      unfold World.cell? at hc2
      split at hc2
      · rename_i h; exact (Array.getElem?_eq_some_iff.1 h).1
      · cases hc2
    rw [← hc2]
    exact World.cell?_of_block ((MapKept.heap_alloc w _).2 tb htl)
  have hb' : (w.alloc (.cells #[.int .i64 x, .int .i64 y] 31)).heap[b]? = some (.map es clock) := ((MapKept.heap_alloc w _).2 b hbl).trans hb
  have hn1 : (w.alloc (.cells #[.int .i64 x, .int .i64 y] 31)).heap[w.heap.size]? = some (.cells #[.int .i64 x, .int .i64 y] 31 (0, 0)) := (MapKept.heap_alloc w _).1
  have e1 : (w.alloc (.cells #[.int .i64 x, .int .i64 y] 31)).heap.size = w.heap.size + 1 := by simp
  go_enter Try.func10, Try.ntmps10
  go_wp2_with (first
    | (at_range; refine wpList_range_raw _ rfl _ 48 rfl 56 3 Try.underlying48 b es clock rfl hb' ?_; intro w0 hI0 hg0 hs0)
    | go_in)
  go_frame
  rw [e1] at hI0 hs0 ⊢
  go_loopw [5] (fun _ wr => ∃ l : List MapEntry, Iter wr b (w.heap.size + 1) es clock l ∧ Aside (∀ e ∈ l, isV x y (kvE e) = false) ∧ Aside (wr.heap[w.heap.size]? = some (.cells #[.int .i64 x, .int .i64 y] 31 (0, 0))) ∧ Below w.heap.size w wr)
    (fun _ wr => wr.rangeLeft b (w.heap.size + 1))
  case atStart =>
    exact ⟨[], hI0, (fun e he => (nomatch he)), (hg0.block _ (by rw [e1]; omega) (by simp)).trans hn1, ((Below.refl _ _).alloc (Nat.le_refl _) _).grown hg0 (by rw [e1]; omega) (fun j hj => by cases hj)⟩
  case round =>
    obtain ⟨l, hI, HV, HN, hnx⟩ := hrel
    go_wp2_with (first
      | (at_next; refine wpList_next_k3 _ rfl _ rfl b (w.heap.size + 1) es clock l hk hold hn rfl hI ?_ ?_)
      | go_in)
    · intro hall
      have hany : (es.toList.map kvE).any (isV x y) = false := by
        rw [List.any_eq_false]
        intro q hq
        obtain ⟨e, he, rfl⟩ := List.mem_map.1 hq
        have := HV.out e (hall e (by simpa using he))
        simp [this]
      have HA : Aside _ := hany
      clear hany hall
      go_wp2
      go_ret
      exact ⟨by rw [HA.out]; rfl, hnx⟩
    · intro e w2 k1 k2 k3 n hem henc hkey hI2 hlt hg2 hs2 hen
      have hkv := kv_of henc
      have hlt2 : w.heap.size < w2.heap.size := by have := hI2.lt; omega
      have hn2 : w2.heap[w.heap.size]? = some (.cells #[.int .i64 x, .int .i64 y] 31 (0, 0)) := by
        refine (hg2.block _ ?_ (by simp)).trans HN.out
        have := hI.lt; omega
      have hn3 : (w2.alloc (.cells #[.int .i64 k1, .int .i64 k2, .int .i64 k3] 56)).heap[w.heap.size]? = some (.cells #[.int .i64 x, .int .i64 y] 31 (0, 0)) := ((MapKept.heap_alloc w2 _).2 _ hlt2).trans hn2
      have d0 : (w2.alloc (.cells #[.int .i64 k1, .int .i64 k2, .int .i64 k3] 56)).cell? ⟨w.heap.size, 0, none⟩ = some (.int .i64 x) := by simp only [World.cell?, hn3]; rfl
      have d1 : (w2.alloc (.cells #[.int .i64 k1, .int .i64 k2, .int .i64 k3] 56)).cell? ⟨w.heap.size, 1, none⟩ = some (.int .i64 y) := by simp only [World.cell?, hn3]; rfl
      have H1 : Aside _ := hs2
      have H2 : Aside _ := hn3
      have H3 : Aside _ := hlt2
      have H4 : Aside _ := hkv
      have H5 : Aside _ := henc
      have H6 : Aside _ := hem
      clear hs2 hn3 hlt2 hn2 hkv henc hkey hem
      go_wp2
      · go_ret
        refine ⟨?_, ?_⟩
        · have hany : (es.toList.map kvE).any (isV x y) = true := by
            rw [List.any_eq_true]
            refine ⟨kvE e, List.mem_map.2 ⟨e, by simpa using H6.out, rfl⟩, ?_⟩
            rw [H4.out]; simp only [isV, Bool.and_eq_true, beq_iff_eq]; first | exact ⟨rfl, rfl⟩ | exact ⟨by assumption, by assumption⟩ | (constructor <;> simp_all)
          rw [hany]; rfl
        · have h1 := hnx.size
          have h2 := hg2.size
          exact (hnx.grown hg2 hnx.size (fun j hj => by cases hj; exact Nat.le_succ _)).alloc (by omega) _
      all_goals
        try (have hxx : k1 = x := (by assumption); subst hxx)
        have h1 := hnx.size
        have h2 := hg2.size
        have hI3 := hI2
        refine ⟨⟨l ++ [e], hI3.alloc _, fun e' he' => ?_, H2, (hnx.grown hg2 hnx.size (fun j hj => by cases hj; exact Nat.le_succ _)).alloc (by omega) _⟩, ?_⟩
        · rcases List.mem_append.1 he' with he' | he'
          · exact HV.out e' he'
          · rw [List.mem_singleton.1 he', H4.out]
            simp only [isV, Bool.and_eq_false_iff, beq_eq_false_iff_ne, ne_eq]
            first
            | (left; assumption)
            | (right; assumption)
            | (left; intro h; simp_all; done)
            | (right; intro h; simp_all; done)
        · rw [(hI3.alloc _).left, ← hI2.left]; exact hlt
end Tree.TH
