/- Layer 6: numbers put into a term, and variables that have them. -/
import Derived.Test.YtphdgjglofapbaaDoorL6Rel
import Derived.Test.YtphdgjglofapbaaDoorTLb
set_option autoImplicit false
set_option linter.unusedVariables false
set_option linter.unusedSimpArgs false
namespace Tree.H6
open Go
set_option maxHeartbeats 2000000
def small (n : Int) : Prop := -1000 ≤ n ∧ n ≤ 1000
def numT (n : Int) : T1 := ⟨0, [cInt n], []⟩
def varT (i : Nat) : T1 := ⟨0, [cVar 0 i], []⟩
def numsT (ns : List Int) : List T1 := ns.map numT
def varsN (m : Nat) : List T1 := (List.range m).map varT
theorem okInt {n : Int} (h : small n) : okC (cInt n) := .inl ⟨rfl, rfl, ⟨rfl, rfl⟩, by have := h.1; show -2147483648 ≤ n; omega, by have := h.2; show n ≤ 2147483648; omega⟩
theorem okVar (i : Nat) : okC (cVar 0 i) := .inr (.inr (.inr ⟨rfl, rfl, rfl, by show (-1 : Int) ≤ 0; omega, by show (0 : Int) < 4; omega, by show (0 : Int) ≤ (i : Int); omega⟩))
theorem right_one {c : C} (h : okC c) (hk : c.k ≠ 3) : RightP [c] := by
  rw [right_walk]
  have e : ar c = 0 := by unfold ar partsC; rw [if_neg hk]; rfl
  refine ⟨by simp, by simp, by simp [walk, e, walk_zero], fun d hd => ?_⟩
  rw [List.mem_singleton] at hd; subst hd; exact h
theorem right_num {n : Int} (h : small n) : RightP [cInt n] := right_one (okInt h) (by show (1 : Int) ≠ 3; decide)
theorem right_var (i : Nat) : RightP [cVar 0 i] := right_one (okVar i) (by show (4 : Int) ≠ 3; decide)
section
variable {ns : List Int} (hn : ∀ n ∈ ns, small n) {M : Mp} (hM : ∀ (i : Nat) (n : Int), ns[i]? = some n → M (0, i) = some [cInt n])
include hn
theorem nums_wrong : ¬ ∃ t ∈ numsT ns, wrongT t := by
  rintro ⟨t, ht, h⟩
  obtain ⟨n, hm, rfl⟩ := List.mem_map.1 ht
  exact h.2 (right_num (hn n hm))
omit hn in
theorem vars_wrong : ¬ ∃ t ∈ varsN ns.length, wrongT t := by
  rintro ⟨t, ht, h⟩
  obtain ⟨i, _, rfl⟩ := List.mem_map.1 ht
  exact h.2 (right_var i)
omit hn in
theorem var_at {i : Nat} (h : i < ns.length) : (varsN ns.length)[i]? = some (varT i) := by
  unfold varsN
  rw [List.getElem?_map, List.getElem?_range h]; rfl
omit hn in
theorem miss_iff (k : Int) (hk : 0 ≤ k) : (missN (varsN ns.length) k ↔ k ≥ ns.length) ∧ (missN (numsT ns) k ↔ k ≥ ns.length) := by
  constructor
  · unfold missN
    constructor
    · rintro (h | ⟨t, h, h2⟩)
      · simpa [varsN] using h
      · have := List.mem_of_getElem? h
        obtain ⟨i, _, rfl⟩ := List.mem_map.1 this
        cases h2
    · intro h; left; simpa [varsN] using h
  · unfold missN
    constructor
    · rintro (h | ⟨t, h, h2⟩)
      · simpa [numsT] using h
      · have := List.mem_of_getElem? h
        obtain ⟨i, _, rfl⟩ := List.mem_map.1 this
        cases h2
    · intro h; left; simpa [numsT] using h
include hM
theorem sub_rel {c : C} (hc : okC c) (hm : ¬ missC (numsT ns) c) : Al (Rc M) (subC (varsN ns.length) c) (subC (numsT ns) c) := by
  unfold subC
  by_cases hl : locC c
  · rw [if_pos hl, if_pos hl]
    have hk : 0 ≤ c.num := by
      rcases hc with h | h | h | h
      · have := hl.1; omega
      · have := hl.1; omega
      · have := hl.1; omega
      · exact h.2.2.2.2.2
    have h1 : c.num < ns.length := by
      apply Classical.byContradiction
      intro h
      exact hm ⟨hl, ((miss_iff (ns := ns) c.num hk).2).2 (by omega)⟩
    obtain ⟨n, hn1⟩ : ∃ n, ns[c.num.toNat]? = some n := ⟨_, List.getElem?_eq_getElem (by omega)⟩
    have e2 : (numsT ns)[c.num.toNat]? = some (numT n) := by unfold numsT; rw [List.getElem?_map, hn1]; rfl
    rw [var_at (ns := ns) (by omega), e2]
    refine .cons (.inr ⟨rfl, rfl, okVar _, okInt (hn n (List.mem_of_getElem? hn1)), ?_⟩) .nil
    show M (0, ((c.num.toNat : Nat) : Int)) = _
    exact hM _ n hn1
  · rw [if_neg hl, if_neg hl]
    exact .cons (.inl rfl) .nil
theorem put_rel (cs : List C) : (putR cs (varsN ns.length)).2 = (putR cs (numsT ns)).2 ∧ ((putR cs (numsT ns)).2 = 0 → Al (Rc M) (putR cs (varsN ns.length)).1 (putR cs (numsT ns)).1 ∧ (putR cs (varsN ns.length)).1.length ≤ 256) := by
  have h1 := nums_wrong hn
  have h2 := vars_wrong (ns := ns)
  unfold putR
  by_cases hR : RightP cs
  · have e1 : ¬ (¬ RightP cs ∨ ∃ t ∈ varsN ns.length, wrongT t) := by rintro (h | h); exact h hR; exact h2 h
    have e2 : ¬ (¬ RightP cs ∨ ∃ t ∈ numsT ns, wrongT t) := by rintro (h | h); exact h hR; exact h1 h
    rw [if_neg e1, if_neg e2]
    have hok : ∀ c ∈ cs, okC c := ((right_walk _).1 hR).2.2.2
    have hmm : (∃ c ∈ cs, missC (varsN ns.length) c) ↔ ∃ c ∈ cs, missC (numsT ns) c := by
      have key : ∀ c ∈ cs, missC (varsN ns.length) c ↔ missC (numsT ns) c := by
        intro c hc
        unfold missC
        by_cases hl : locC c
        · have hk : 0 ≤ c.num := by
            rcases hok c hc with h | h | h | h
            · have := hl.1; omega
            · have := hl.1; omega
            · have := hl.1; omega
            · exact h.2.2.2.2.2
          rw [(miss_iff (ns := ns) c.num hk).1, (miss_iff (ns := ns) c.num hk).2]
        · simp [hl]
      exact ⟨fun ⟨c, hc, h⟩ => ⟨c, hc, (key c hc).1 h⟩, fun ⟨c, hc, h⟩ => ⟨c, hc, (key c hc).2 h⟩⟩
    by_cases hmi : ∃ c ∈ cs, missC (numsT ns) c
    · rw [if_pos hmi, if_pos (hmm.2 hmi)]
      exact ⟨rfl, fun h => (nomatch h)⟩
    · rw [if_neg hmi, if_neg (fun h => hmi (hmm.1 h))]
      have hrel : ∀ l : List C, (∀ c ∈ l, c ∈ cs) → Al (Rc M) (l.flatMap (subC (varsN ns.length))) (l.flatMap (subC (numsT ns))) := by
        intro l
        induction l with
        | nil => intro _; exact .nil
        | cons c l ih =>
          intro hl
          rw [List.flatMap_cons, List.flatMap_cons]
          have hc := hl c (List.mem_cons_self ..)
          exact Al.app (sub_rel hn hM (hok c hc) (fun h => hmi ⟨c, hc, h⟩)) (ih fun d hd => hl d (List.mem_cons_of_mem _ hd))
      have hr := hrel cs (fun c h => h)
      have hlen := hr.len
      rw [hlen]
      split
      · exact ⟨rfl, fun h => (nomatch h)⟩
      · refine ⟨rfl, fun _ => ⟨hr, ?_⟩⟩
        show (cs.flatMap (subC (varsN ns.length))).length ≤ 256
        omega
  · rw [if_pos (.inl hR), if_pos (.inl hR)]
    exact ⟨rfl, fun h => (nomatch h)⟩
end
open Classical in
/-- What a term is as a sum. -/
def ValR (M : Mp) (cs : List C) (x : Rz) : Prop := if RightP cs then Sm M cs x else x = (0, true, [])
theorem top_same {M : Mp} {a b : List C} (hA : Al (Rc M) a b) {x y : Rz} (hx : ValR M a x) (hy : ValR M b y) : x = y := by
  unfold ValR at hx hy
  by_cases h : RightP a
  · rw [if_pos h] at hx; rw [if_pos ((rel_right hA).1 h)] at hy
    exact sm_rel hx h hA hy
  · rw [if_neg h] at hx; rw [if_neg (fun h' => h ((rel_right hA).2 h'))] at hy
    rw [hx, hy]
theorem top_more {M N : Mp} (hMN : moreM M N) {a : List C} {x z : Rz} (hx : ValR M a x) (hz : ValR N a z) : outZ x.2.1 x.2.2 = 3 ∨ (outZ z.2.1 z.2.2 = outZ x.2.1 x.2.2 ∧ nz z = nz x) := by
  have key : (x.2.1 = true → z.2.1 = true) ∧ (x.2.1 = false → x.2.2 = [] → z = x) := by
    unfold ValR at hx hz
    by_cases h : RightP a
    · rw [if_pos h] at hx hz
      exact sm_more hMN hx hz
    · rw [if_neg h] at hx hz
      rw [hx, hz]; exact ⟨fun h => h, fun _ _ => rfl⟩
  obtain ⟨n, f, w⟩ := x
  obtain ⟨n', f', w'⟩ := z
  dsimp only at key ⊢
  cases f with
  | true =>
    have := key.1 rfl
    subst this
    exact .inr ⟨rfl, rfl⟩
  | false =>
    cases w with
    | nil =>
      have := key.2 rfl rfl
      injection this with e1 e2
      injection e2 with e2 e3
      subst e1; subst e2; subst e3
      exact .inr ⟨rfl, rfl⟩
    | cons v w => exact .inl rfl
theorem out_range (f : Bool) (w : List NV) : 1 ≤ outZ f w ∧ outZ f w ≤ 3 := by
  unfold outZ
  cases f with
  | true => simp
  | false => cases w <;> simp
end Tree.H6
