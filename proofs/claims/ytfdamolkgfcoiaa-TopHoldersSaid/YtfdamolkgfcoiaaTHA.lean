/- Package refs: the order of counts (a closure), walked. -/
import Derived.Test.YtfdamolkgfcoiaaRS
import Derived.Test.YtfdamolkgfcoiaaRM1
import Derived.Shelf.SlSortCmp.NoneTotal
import Derived.Shelf.Lay
import Derived.Ground.SlsfProg
import Derived.Test.YtfdamolkgfcoiaaChecked
import Derived.OwnWalk
import Derived.Maps.AppendAt
import Derived.Sort.OwnSorted
set_option autoImplicit false
set_option linter.unusedVariables false
set_option linter.unusedSimpArgs false
namespace Tree.TH
open Tree Go Go.RowKit Go.Proofs Go.Shelf Go.Lib Go.Sort
set_option maxRecDepth 100000
/-- Does a name stand ahead of another one? -/
def ltN (a b c d : Int) : Bool := decide (a < c) || (a == c && decide (b < d))
theorem less59 (a b c d : Int) (W : World) : Calls Try.prog 25 #[.agg #[.int .i64 a, .int .i64 b], .agg #[.int .i64 c, .int .i64 d]] W fun e w' => e = .returned (.bool (ltN a b c d)) ∧ ∃ os', w' = grow W os' := by
  go_enter Try.func25, Try.ntmps25
  go_wp2
  all_goals
    go_ret
    refine ⟨?_, _, by rw [alloc_eq_grow, alloc_eq_grow, grow_grow]⟩
    refine congrArg (fun b => Ending.returned (Value.bool b)) ?_
    rw [eq_comm]
    simp only [ltN]
    first
    | (have hq : c < c ↔ False := by omega
       simp [hq]; done)
    | (simp_all; done)
    | (simp_all; omega)
theorem RowKitWrap (x : Int) : IntKind.i64.wrap x = Go.RowKit.wrap64 x := by
  simp only [IntKind.wrap, IntKind.bits, IntKind.signed, Go.RowKit.wrap64, Bool.true_and]
  split <;> simp at * <;> omega
/-- What the order says of two counts. -/
def cfK (x y : K3) : Int := if ltN x.1 x.2.1 y.1 y.2.1 then -1 else if x.1 = y.1 ∧ x.2.1 = y.2.1 then IntKind.i64.wrap (x.2.2 - y.2.2) else 1
theorem cmp58 (x y : K3) (n m : Int) (W : World) : Calls Try.prog 24 #[.agg #[.int .i64 x.1, .int .i64 x.2.1, .int .i64 x.2.2, .int .i64 n], .agg #[.int .i64 y.1, .int .i64 y.2.1, .int .i64 y.2.2, .int .i64 m]] W fun e w' => e = .returned (.int .i64 (cfK x y)) ∧ ∃ q os', w' = grow (W.drewN q) os' := by
  obtain ⟨a, b, c⟩ := x
  obtain ⟨a', b', c'⟩ := y
  dsimp only
  have hcon := fun W' => less59 a b a' b' W'
  unfold cfK
  dsimp only
  generalize ltN a b a' b' = r at hcon ⊢
  go_enter Try.func24, Try.ntmps24
  have hcell : ∀ (os : Array Obj) (k : Nat) (v : Value),
      (#[Value.int .i64 a, .int .i64 b, .int .i64 c, .int .i64 n][k]? = some v → (grow ((W.alloc (.cells #[.int .i64 a, .int .i64 b, .int .i64 c, .int .i64 n] 60)).alloc (.cells #[.int .i64 a', .int .i64 b', .int .i64 c', .int .i64 m] 60)) os).cell? ⟨W.heap.size, k, none⟩ = some v) ∧
      (#[Value.int .i64 a', .int .i64 b', .int .i64 c', .int .i64 m][k]? = some v → (grow ((W.alloc (.cells #[.int .i64 a, .int .i64 b, .int .i64 c, .int .i64 n] 60)).alloc (.cells #[.int .i64 a', .int .i64 b', .int .i64 c', .int .i64 m] 60)) os).cell? ⟨W.heap.size + 1, k, none⟩ = some v) := by
    intro os k v
    constructor <;> intro h
    · rw [cell?_grow _ _ _ (by simp; omega)]
      have h1 : ((W.alloc (.cells #[.int .i64 a, .int .i64 b, .int .i64 c, .int .i64 n] 60)).alloc (.cells #[.int .i64 a', .int .i64 b', .int .i64 c', .int .i64 m] 60)).heap[W.heap.size]? = some (.cells #[.int .i64 a, .int .i64 b, .int .i64 c, .int .i64 n] 60 (0, 0)) := by
        rw [(MapKept.heap_alloc _ _).2 W.heap.size (by simp)]
        exact (MapKept.heap_alloc W _).1
      simp only [World.cell?, h1]
      simpa using h
    · rw [cell?_grow _ _ _ (by simp)]
      have h1 : ((W.alloc (.cells #[.int .i64 a, .int .i64 b, .int .i64 c, .int .i64 n] 60)).alloc (.cells #[.int .i64 a', .int .i64 b', .int .i64 c', .int .i64 m] 60)).heap[W.heap.size + 1]? = some (.cells #[.int .i64 a', .int .i64 b', .int .i64 c', .int .i64 m] 60 (0, 0)) := by
        have := (MapKept.heap_alloc (W.alloc (.cells #[.int .i64 a, .int .i64 b, .int .i64 c, .int .i64 n] 60)) (.cells #[.int .i64 a', .int .i64 b', .int .i64 c', .int .i64 m] 60)).1
        simpa using this
      simp only [World.cell?, h1]
      simpa using h
  have hcon2 : Calls Try.prog 25 #[.agg #[.int .i64 a, .int .i64 b], .agg #[.int .i64 a', .int .i64 b']] ((W.alloc (.cells #[.int .i64 a, .int .i64 b, .int .i64 c, .int .i64 n] 60)).alloc (.cells #[.int .i64 a', .int .i64 b', .int .i64 c', .int .i64 m] 60)) fun e w' => e = .returned (.bool r) ∧
      (Aside (∃ os, w' = grow W os) ∧ w'.cell? ⟨W.heap.size, 0, none⟩ = some (.int .i64 a) ∧ w'.cell? ⟨W.heap.size, 1, none⟩ = some (.int .i64 b) ∧ w'.cell? ⟨W.heap.size, 2, none⟩ = some (.int .i64 c) ∧
      w'.cell? ⟨W.heap.size + 1, 0, none⟩ = some (.int .i64 a') ∧ w'.cell? ⟨W.heap.size + 1, 1, none⟩ = some (.int .i64 b') ∧ w'.cell? ⟨W.heap.size + 1, 2, none⟩ = some (.int .i64 c')) := by
    refine (hcon _).mono ?_
    rintro e w' ⟨rfl, os1, rfl⟩
    exact ⟨rfl, ⟨_, by rw [alloc_eq_grow, alloc_eq_grow, grow_grow, grow_grow]⟩, (hcell os1 0 _).1 rfl, (hcell os1 1 _).1 rfl, (hcell os1 2 _).1 rfl, (hcell os1 0 _).2 rfl, (hcell os1 1 _).2 rfl, (hcell os1 2 _).2 rfl⟩
  clear hcell hcon
  go_wp2_with (go_at_call 25; refine hcon2.mono ?_; rintro e w' ⟨rfl, HW, d0, d1, d2, e0, e1, e2⟩)
  all_goals
    go_ret
    obtain ⟨os, ho⟩ := HW.out
    refine ⟨?_, 0, os, by rw [ho]; rfl⟩
    first
    | rfl
    | (simp_all; done)
    | (refine congrArg (fun z => Ending.returned (Value.int .i64 z)) ?_
       exact (RowKitWrap _).symm)
/-- .. as the sort asks it. -/
abbrev KA := { k : K3 // 0 ≤ k.2.2 ∧ k.2.2 < 4294967296 }
instance : Inhabited KA := ⟨⟨(0, 0, 0), by decide⟩⟩
def encK (tm : K3 → Int) (x : KA) : List Value := [.int .i64 x.1.1, .int .i64 x.1.2.1, .int .i64 x.1.2.2, .int .i64 (tm x.1)]
theorem wrap_small {x : Int} (h : -4294967296 ≤ x) (h' : x ≤ 4294967296) : IntKind.i64.wrap x = x := by
  simp only [IntKind.wrap, IntKind.bits, IntKind.signed, Bool.true_and]
  split <;> simp at * <;> omega
theorem ltOf_cf (x y : KA) : ltOf (fun x y : KA => cfK x.1 y.1) x y = ltK x.1 y.1 := by
  obtain ⟨⟨a, b, c⟩, hc⟩ := x
  obtain ⟨⟨a', b', c'⟩, hc'⟩ := y
  dsimp only at hc hc'
  rw [Bool.eq_iff_iff, ltK_iff]
  unfold ltOf cfK
  dsimp only
  rw [decide_eq_true_eq]
  have hl : ltN a b a' b' = true ↔ a < a' ∨ a = a' ∧ b < b' := by
    simp only [ltN, Bool.or_eq_true, Bool.and_eq_true, decide_eq_true_eq, beq_iff_eq]
  by_cases h1 : ltN a b a' b' = true
  · rw [if_pos h1]
    have := hl.1 h1
    constructor
    · intro _; omega
    · intro _; decide
  · rw [if_neg h1]
    have h2 : ¬ (a < a' ∨ a = a' ∧ b < b') := fun h => h1 (hl.2 h)
    by_cases h3 : a = a' ∧ b = b'
    · rw [if_pos h3, wrap_small (by omega) (by omega)]; omega
    · rw [if_neg h3]
      constructor
      · intro h; omega
      · intro h; omega
theorem swoK : SWO (ltOf fun x y : KA => cfK x.1 y.1) where
  irrefl x := by rw [ltOf_cf]; exact ltK_irrefl _
  trans x y z h1 h2 := by rw [ltOf_cf] at *; exact ltK_trans h1 h2
  ntrans x y z h1 h2 := by rw [ltOf_cf, ltK_false] at *; omega
theorem cmpLays58 (tm : K3 → Int) (blk off size : Nat) (w : World) : CmpLays Try.prog 24 #[] (encK tm) 4 (fun x y : KA => cfK x.1 y.1) blk off size w :=
  fun _ _ _ _ x y => cmp58 x.1 y.1 (tm x.1) (tm y.1) _
theorem totK (x y : KA) (h : ltOf (fun x y : KA => cfK x.1 y.1) x y = false) (h' : ltOf (fun x y : KA => cfK x.1 y.1) y x = false) : x = y := by
  rw [ltOf_cf] at h h'
  exact Subtype.ext (ltK_total h h')
end Tree.TH
