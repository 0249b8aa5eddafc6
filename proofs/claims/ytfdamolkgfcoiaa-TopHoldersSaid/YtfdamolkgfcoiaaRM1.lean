/- Ranges over maps: laws at the operations, told with the map's entries themselves. -/
import Derived.Test.YtfdamolkgfcoiaaTA
import Derived.Maps.Range
import Derived.Maps.RangeWalk
import Derived.WalkKit
set_option autoImplicit false
set_option linter.unusedVariables false
set_option linter.unusedSimpArgs false
namespace Tree
open Go Go.RowKit Go.Maps
open Go.ChangeMaps (setBlock)
/-- A range over a map's block is under way: l has come. -/
structure Iter (w : World) (b r : Nat) (es : Array MapEntry) (clock : Nat) (l : List MapEntry) : Prop where
  mp : w.heap[b]? = some (.map es clock)
  it : w.heap[r]? = some (.mapIter (some b) clock (l.map (·.born)).toArray clock)
  mem : ∀ e ∈ l, e ∈ es.toList
  nd : (l.map (·.born)).Nodup
theorem Iter.ne {w : World} {b r : Nat} {es : Array MapEntry} {clock : Nat} {l : List MapEntry} (h : Iter w b r es clock l) : r ≠ b := by
  intro e
  have h1 := h.it
  rw [e, h.mp] at h1
  cases h1
theorem Iter.lt {w : World} {b r : Nat} {es : Array MapEntry} {clock : Nat} {l : List MapEntry} (h : Iter w b r es clock l) : r < w.heap.size := (Array.getElem?_eq_some_iff.1 h.it).1
theorem Iter.ltb {w : World} {b r : Nat} {es : Array MapEntry} {clock : Nat} {l : List MapEntry} (h : Iter w b r es clock l) : b < w.heap.size := (Array.getElem?_eq_some_iff.1 h.mp).1
theorem Iter.kept {w w' : World} {b r : Nat} {es : Array MapEntry} {clock : Nat} {l : List MapEntry} {row : Option Nat} (h : Iter w b r es clock l) (hg : w.grownBy w' row) (hb : some b ≠ row) (hr : some r ≠ row) : Iter w' b r es clock l :=
  ⟨(hg.block b h.ltb hb).trans h.mp, (hg.block r h.lt hr).trans h.it, h.mem, h.nd⟩
theorem Iter.alloc {w : World} {b r : Nat} {es : Array MapEntry} {clock : Nat} {l : List MapEntry} (h : Iter w b r es clock l) (o : Obj) : Iter (w.alloc o) b r es clock l := h.kept (World.grownBy_alloc w o none) (by simp) (by simp)
theorem Iter.left {w : World} {b r : Nat} {es : Array MapEntry} {clock : Nat} {l : List MapEntry} (h : Iter w b r es clock l) : w.rangeLeft b r = (leftOf es (l.map (·.born)).toArray).size := by
  simp only [World.rangeLeft, h.mp, h.it]
section
variable {P : Program} (w : World) {ops : Array Oper} {rest : List Oper} {o : Oper} {a : Act} {Q : Exit → Act → World → Prop}
theorem wpList_range_raw (hg : o.guard = none) (m : Operand) (t : TypeId) (hop : o.op = Op.range t m) (k e : TypeId) (ht : P.underlying t = some (.map k e)) (b : Nat) (es : Array MapEntry) (clock : Nat)
    (hm : a.eval m = .map (some b)) (hb : w.heap[b]? = some (.map es clock))
    (hK : ∀ w', Iter w' b w.heap.size es clock [] → w.grownBy w' none → w'.heap.size = w.heap.size + 1 → wpList P ops Q rest (a.put o.dst (.pointer (some ⟨w.heap.size, 0, none⟩))) w') : wpList P ops Q (o :: rest) a w := by
  refine wpList_plain hg fun K' hK' => ?_
  unfold Oper.wp
  simp [execOp, hop, hm, run_range_map w t k e b es clock ht hb, Result.andThen]
  have hlt := (Array.getElem?_eq_some_iff.1 hb).1
  refine hK' _ _ (hK _ ⟨((MapKept.heap_alloc w _).2 b hlt).trans hb, (MapKept.heap_alloc w _).1, fun e he => (nomatch he), .nil⟩ (World.grownBy_alloc w _ none) (by simp))
theorem wpList_next_raw (hg : o.guard = none) (it : Operand) (hop : o.op = Op.next it false) (b r : Nat) (es : Array MapEntry) (clock : Nat) (l : List MapEntry)
    (hold : ∀ x ∈ es.toList, x.born < clock) (hn : (es.toList.map (·.born)).Nodup) (hit : a.eval it = .pointer (some ⟨r, 0, none⟩)) (h : Iter w b r es clock l)
    (hDone : (∀ x ∈ es.toList, x ∈ l) → wpList P ops Q rest (a.put o.dst (.tuple #[.bool false])) w)
    (hMore : ∀ (e : MapEntry) (w' : World), e ∈ es.toList → Iter w' b r es clock (l ++ [e]) → w'.rangeLeft b r < w.rangeLeft b r → w.grownBy w' (some r) → w'.heap.size = w.heap.size →
      (Instr.entry (.pointer (some ⟨r, 0, none⟩))).run P w' = .ok (.tuple #[e.key, e.val]) w' → wpList P ops Q rest (a.put o.dst (.tuple #[.bool true, e.key, e.val])) w') :
    wpList P ops Q (o :: rest) a w := by
  refine wpList_plain hg fun K' hK' => ?_
  unfold Oper.wp
  have hne := h.ne
  have hst : ∀ x ∈ es.toList, ∀ y ∈ es.toList, x.born = y.born → x = y := fun x hx y hy hxy => by
    have key : ∀ m : List MapEntry, (m.map (·.born)).Nodup → x ∈ m → y ∈ m → x = y := by
      intro m
      induction m with
      | nil => intro _ hm; cases hm
      | cons q r ih =>
        intro hq h3 h4
        simp only [List.map_cons, List.nodup_cons] at hq
        rcases List.mem_cons.1 h3 with h5 | h5 <;> rcases List.mem_cons.1 h4 with h6 | h6
        · rw [h5, h6]
        · exact absurd (List.mem_map.2 ⟨y, h6, by rw [← hxy, h5]⟩) hq.1
        · exact absurd (List.mem_map.2 ⟨x, h5, by rw [hxy, h6]⟩) hq.1
        · exact ih hq.2 h5 h6
    exact key _ hn hx hy
  rcases run_next_at (P := P) w o.type r b clock clock (l.map (·.born)).toArray es clock h.it h.mp hold (Nat.le_refl _) with ⟨h0, hrun⟩ | ⟨e, he, w1, hal, hrun⟩
  · simp [execOp, hop, hit, hrun, Result.andThen]
    refine hK' _ _ (hDone fun x hx => ?_)
    have h1 := all_seen es _ h0 x hx
    simp only [List.contains_toArray, List.contains_eq_mem, decide_eq_true_eq, List.mem_map] at h1
    obtain ⟨y, hy, hxy⟩ := h1
    rw [← hst y (h.mem y hy) x hx hxy]; exact hy
  · obtain ⟨hem, hes⟩ := mem_left he
    have hr1 : w1.heap[r]? = some (.mapIter (some b) clock (l.map (·.born)).toArray clock) := by rcases hal with rfl | rfl <;> exact h.it
    have hb1 : w1.heap[b]? = some (.map es clock) := by rcases hal with rfl | rfl <;> exact h.mp
    obtain ⟨W', hW⟩ : ∃ W', W' = setBlock w1 r (.mapIter (some b) clock ((l.map (·.born)).toArray.push e.born) clock) := ⟨_, rfl⟩
    have hset : W'.heap[r]? = some (.mapIter (some b) clock ((l.map (·.born)).toArray.push e.born) clock) ∧ ∀ k, k ≠ r → W'.heap[k]? = w1.heap[k]? := by rw [hW]; exact MapKept.heap_set hr1
    have hsz : W'.heap.size = w1.heap.size ∧ W'.os = w1.os ∧ W'.tape = w1.tape ∧ W'.output = w1.output := by rw [hW]; exact ⟨by simp [setBlock], rfl, rfl, rfl⟩
    rw [← hW] at hrun
    clear hW
    have hI : Iter W' b r es clock (l ++ [e]) := by
      refine ⟨(hset.2 b (fun e1 => hne e1.symm)).trans hb1, by rw [hset.1]; simp, fun x hx => ?_, ?_⟩
      · rcases List.mem_append.1 hx with hx | hx
        · exact h.mem x hx
        · rw [List.mem_singleton.1 hx]; exact hem
      · rw [List.map_append]
        refine List.nodup_append.2 ⟨h.nd, by simp, fun x hx y hy => ?_⟩
        simp only [List.map_cons, List.map_nil, List.mem_singleton] at hy
        subst hy
        intro hxy; subst hxy
        simp only [List.contains_toArray, List.contains_eq_mem, decide_eq_false_iff_not] at hes
        exact hes hx
    simp [execOp, hop, hit, hrun, Result.andThen]
    refine hK' _ _ (hMore e _ hem hI ?_ ?_ ?_ (run_entry_at _ r b clock (l.map (·.born)).toArray es clock e hset.1 hI.mp hem hn))
    · rw [hI.left, h.left]
      have := left_shrinks es (l.map (·.born)).toArray e he
      simpa using this
    · refine ⟨hsz.2.1.trans ?_, hsz.2.2.1.trans ?_, hsz.2.2.2.trans ?_, ?_, fun i _ hi => (hset.2 i (fun e1 => hi (by rw [e1]))).trans ?_⟩
      all_goals (rcases hal with rfl | rfl)
      all_goals first | rfl | (rw [hsz.1]; exact Nat.le_refl _)
    · rcases hal with rfl | rfl <;> exact hsz.1
end
end Tree
namespace Tree
open Go Go.RowKit Go.Maps
/-- Entries whose keys are of three numbers and whose values are numbers. -/
def Shape3 (es : Array MapEntry) : Prop := ∀ e ∈ es.toList, ∃ a b c n : Int, e.key = .agg #[.int .i64 a, .int .i64 b, .int .i64 c] ∧ e.val = .int .i64 n
def enc3 (e : MapEntry) : List Value := match e.key with
  | .agg cs => cs.toList ++ [e.val]
  | _ => []
theorem wpList_next_k3 {P : Program} (w : World) {ops : Array Oper} {rest : List Oper} {o : Oper} {a : Act} {Q : Exit → Act → World → Prop} (hg : o.guard = none) (it : Operand) (hop : o.op = Op.next it false) (b r : Nat) (es : Array MapEntry) (clock : Nat) (l : List MapEntry)
    (hk : Shape3 es) (hold : ∀ x ∈ es.toList, x.born < clock) (hn : (es.toList.map (·.born)).Nodup) (hit : a.eval it = .pointer (some ⟨r, 0, none⟩)) (h : Iter w b r es clock l)
    (hDone : (∀ x ∈ es.toList, x ∈ l) → wpList P ops Q rest (a.put o.dst (.tuple #[.bool false])) w)
    (hMore : ∀ (e : MapEntry) (w' : World) (k1 k2 k3 n : Int), e ∈ es.toList → enc3 e = [.int .i64 k1, .int .i64 k2, .int .i64 k3, .int .i64 n] → e.key = .agg #[.int .i64 k1, .int .i64 k2, .int .i64 k3] → Iter w' b r es clock (l ++ [e]) → w'.rangeLeft b r < w.rangeLeft b r → w.grownBy w' (some r) → w'.heap.size = w.heap.size →
      (Instr.entry (.pointer (some ⟨r, 0, none⟩))).run P w' = .ok (.tuple #[.agg #[.int .i64 k1, .int .i64 k2, .int .i64 k3], .int .i64 n]) w' → wpList P ops Q rest (a.put o.dst (.tuple #[.bool true, .agg #[.int .i64 k1, .int .i64 k2, .int .i64 k3], .int .i64 n])) w') :
    wpList P ops Q (o :: rest) a w := by
  refine wpList_next_raw w hg it hop b r es clock l hold hn hit h hDone (fun e w' he hI hlt hgr hsz hen => ?_)
  obtain ⟨k1, k2, k3, n, h1, h2⟩ := hk e he
  rw [h1, h2] at hen ⊢
  exact hMore e w' k1 k2 k3 n he (by rw [enc3, h1, h2]; rfl) h1 hI hlt hgr hsz hen
end Tree
