/- RefsSafe, the plain law: moves, safety, the last rounds. -/
import Derived.Test.YtkeadnggllgphaaR16Y
set_option autoImplicit false
set_option linter.unusedVariables false
set_option linter.unusedSimpArgs false
namespace Tree.R16
open Go Tree
def Good (S : Ws) (n : Nat) : Prop := ∃ q c, Iv S q c n
theorem Iv.mono {S : Ws} {q : Gq} {c n n' : Nat} (h : Iv S q c n) (hn : n ≤ n') : Iv S q c n' :=
  ⟨h.W.sub hn (by omega) (fun f t => ⟨[], rfl⟩) h.W.gh (fun i h1 h2 m h => h), h.ez, h.bal, h.old, fun i => by have := h.hb i; omega, fun j => by have := h.eb j; omega⟩
theorem Good.mono {S : Ws} {n n' : Nat} (h : Good S n) (hn : n ≤ n') : Good S n' := by
  obtain ⟨q, c, h⟩ := h; exact ⟨q, c, h.mono hn⟩
theorem Good.comes {S : Ws} {n : Nat} (h : Good S n) (f t : Nat) (hf : f < 4) (ht : t < 4) : Good (comesS S f t) (n + 1) := by
  unfold comesS
  obtain ⟨q, c, h⟩ := h
  cases he : S.w f t with
  | nil => exact ⟨q, c, h.mono (by omega)⟩
  | cons m r =>
    obtain ⟨q', h'⟩ := h.pop f t hf ht m r he
    exact ⟨q', c, h'⟩
theorem Good.move {S : Ws} {n : Nat} (h : Good S n) (kind : Int) (f t : Nat) (hf : f < 4) (ht : t < 4) : Good (moveS S kind f t) (n + 1) := by
  have hm := h.mono (show n ≤ n + 1 by omega)
  unfold moveS
  by_cases e : f = t
  · rw [if_pos e]; exact hm
  · rw [if_neg e]
    by_cases k0 : kind = 0
    · rw [if_pos k0]
      by_cases f0 : f = 0
      · rw [if_pos f0]
        obtain ⟨q, c, h⟩ := h
        exact ⟨q, c, h.sent t (by omega) ht⟩
      · rw [if_neg f0]
        by_cases hp : 0 < S.H f
        · rw [if_pos hp]
          obtain ⟨q, c, h⟩ := h
          by_cases t0 : t = 0
          · rw [if_pos t0, t0]; exact ⟨_, _, h.fwd0 f (by omega) hf⟩
          · rw [if_neg t0]; exact ⟨_, _, h.fwd f t (by omega) hf (by omega) ht e hp⟩
        · rw [if_neg hp]; exact hm
    · rw [if_neg k0]
      by_cases k1 : kind = 1
      · rw [if_pos k1]
        by_cases f0 : f = 0
        · rw [if_pos f0]; exact hm
        · rw [if_neg f0]
          by_cases hp : 0 < S.H f
          · rw [if_pos hp]
            obtain ⟨q, c, h⟩ := h
            exact ⟨_, _, h.free f (by omega) hf hp⟩
          · rw [if_neg hp]; exact hm
      · rw [if_neg k1]; exact h.comes f t hf ht
theorem Good.ok {S : Ws} {n : Nat} (h : Good S n) (hn : n ≤ 400000) : OkS S := by
  obtain ⟨q, c, h⟩ := h
  refine ⟨fun i => by have := h.hb i; omega, fun f t => by have := h.W.lb f t; omega, fun f t hf ht hft m hm => ?_⟩
  by_cases t0 : t = 0
  · subst t0
    rcases h.W.nt f (by omega) hf m hm with h0 | h0 | h0
    · exact .inl h0
    · exact .inr (.inl ⟨rfl, h0⟩)
    · exact .inr (.inr ⟨rfl, hft, h0.1, h0.2.1, by omega⟩)
  · exact .inl (h.W.ref f t hf ht t0 m hm)
theorem rel_nn : ∀ l : List (Nte × Nat), (∀ m ∈ l, m.1.1 = 2 → 0 ≤ m.1.2.2) → 0 ≤ rel l
  | [], _ => by simp [rel]
  | m :: l, h => by
    have := rel_nn l fun x hx => h x (List.mem_cons_of_mem _ hx)
    have := h m (List.mem_cons_self ..)
    simp only [rel]
    split
    · rename_i k; have := this k; omega
    · omega
theorem cntB_len (i τ : Nat) : ∀ l : List (Nte × Nat), cntB i τ l ≤ l.length
  | [] => by simp [cntB]
  | m :: l => by have := cntB_len i τ l; simp only [cntB, List.length_cons]; push_cast; split <;> omega
theorem Iv.rel_nn {S : Ws} {q : Gq} {c n : Nat} (h : Iv S q c n) (i : Nat) (h1 : 1 ≤ i) (h2 : i < 4) : ∀ l, (∀ m ∈ l, m ∈ q i) → 0 ≤ rel l := by
  intro l hl
  refine Tree.R16.rel_nn l fun m hm k => ?_
  have := h.W.nt i h1 h2 m.1 (by rw [← h.W.gh i h1 h2]; exact List.mem_map.2 ⟨m, hl m hm, rfl⟩)
  omega
theorem Good.eb {S : Ws} {n : Nat} (h : Good S n) (hn : n ≤ 400000) (j : Int) : -9223372036854775808 ≤ S.E j ∧ S.E j ≤ 9223372036854775807 := by
  obtain ⟨q, c, h⟩ := h
  have h1 := h.eb j
  refine ⟨?_, by omega⟩
  by_cases hj : 1 ≤ j ∧ j < 4
  · obtain ⟨i, rfl⟩ : ∃ i : Nat, j = i := ⟨j.toNat, by omega⟩
    have hb := h.bal i (by omega) (by omega)
    have h2 := refs_nn S.w i
    have h3 := (h.hb i).1
    have h4 := h.rel_nn i (by omega) (by omega) (q i) (fun m h => h)
    have hq : ∀ k, 1 ≤ k → k < 4 → cntB i c (q k) ≤ 2 * n := by
      intro k k1 k2
      have h5 := cntB_len i c (q k)
      have h6 := h.W.lb k 0
      rw [← h.W.gh k k1 k2, List.length_map] at h6
      omega
    have a1 := hq 1 (by omega) (by omega)
    have a2 := hq 2 (by omega) (by omega)
    have a3 := hq 3 (by omega) (by omega)
    unfold adds s3 at hb
    dsimp only at hb
    omega
  · rw [h.ez j hj]; omega
def Q1 (S : Ws) : Prop := (∀ i, 1 ≤ i → i < 4 → S.H i = 0) ∧ ∀ f t, f < 4 → t < 4 → t ≠ 0 → S.w f t = []
def Emp (S : Ws) : Prop := ∀ f t, f < 4 → t < 4 → S.w f t = []
def Mw (w : Ways) : Nat := ((w 0 0).length + (w 0 1).length + (w 0 2).length + (w 0 3).length) + ((w 1 0).length + (w 1 1).length + (w 1 2).length + (w 1 3).length) + ((w 2 0).length + (w 2 1).length + (w 2 2).length + (w 2 3).length) + ((w 3 0).length + (w 3 1).length + (w 3 2).length + (w 3 3).length)
theorem Mw_up (w : Ways) (f t : Nat) (hf : f < 4) (ht : t < 4) (x : List Nte) : Mw (upW w f t x) + (w f t).length = Mw w + x.length := by
  have h1 : f = 0 ∨ f = 1 ∨ f = 2 ∨ f = 3 := by omega
  have h2 : t = 0 ∨ t = 1 ∨ t = 2 ∨ t = 3 := by omega
  rcases h1 with rfl | rfl | rfl | rfl <;> rcases h2 with rfl | rfl | rfl | rfl <;> simp only [Mw, upW] <;> simp <;> omega
/-- The last rounds. -/
structure Kr (B r : Nat) (S : Ws) (n : Nat) : Prop where
  good : Good S n
  pot : n + Mw S.w ≤ B
  q1 : 1 ≤ r → Q1 S
  emp : 2 ≤ r → Emp S
theorem Kr.comes {B r : Nat} {S : Ws} {n : Nat} (h : Kr B r S n) (f t : Nat) (hf : f < 4) (ht : t < 4) (hw : S.w f t ≠ []) : Kr B r (comesS S f t) (n + 1) ∧ (∀ f' t', ¬ (f' = f ∧ t' = t) → (comesS S f t).w f' t' = S.w f' t') ∧ ((comesS S f t).w f t).length + 1 = (S.w f t).length := by
  have hg := h.good.comes f t hf ht
  have hM := Mw_up S.w f t hf ht
  unfold comesS at *
  cases he : S.w f t with
  | nil => exact absurd he hw
  | cons m r' =>
    rw [he] at hg hM
    dsimp only at hg ⊢
    refine ⟨⟨hg, ?_, fun hr => ?_, fun hr => ?_⟩, fun f' t' hne => ?_, ?_⟩
    · have := hM r'
      have := h.pot
      simp only [List.length_cons] at *
      show n + 1 + Mw (upW S.w f t r') ≤ B
      omega
    · have h1 := h.q1 hr
      have t0 : t = 0 := by
        by_cases t0 : t = 0
        · exact t0
        · exact absurd (h1.2 f t hf ht t0) hw
      refine ⟨fun i i1 i2 => ?_, fun f' t' g1 g2 g3 => ?_⟩
      · show cH S.H f t m i = 0
        unfold cH; rw [if_neg (fun q => q.2 t0)]; exact h1.1 i i1 i2
      · show upW S.w f t r' f' t' = []
        unfold upW; rw [if_neg (fun q => by omega)]; exact h1.2 f' t' g1 g2 g3
    · exact absurd (h.emp hr f t hf ht) hw
    · show upW S.w f t r' f' t' = _
      unfold upW; rw [if_neg hne]
    · show (upW S.w f t r' f t).length + 1 = _
      unfold upW; rw [if_pos ⟨rfl, rfl⟩]; rfl
/-- While all let go. -/
structure Rl (i r : Nat) (S : Ws) : Prop where
  done : ∀ j, 1 ≤ j → j < i → S.H j = 0
  none : ∀ f t, f < 4 → t < 4 → t ≠ 0 → S.w f t = []
  emp : 1 ≤ r → Emp S
theorem move1_same {S : Ws} {i : Nat} (h : ¬ 0 < S.H i) : moveS S 1 i 0 = S := by
  unfold moveS
  by_cases e : i = 0
  · rw [if_pos e]
  · rw [if_neg e, if_neg (by decide), if_pos rfl, if_neg e, if_neg h]
theorem Kr.free {B r : Nat} {S : Ws} {n i : Nat} (h : Kr B r S n) (hl : Rl i r S) (hi : 1 ≤ i) (hi4 : i < 4) : Kr (B + 2) r (moveS S 1 i 0) (n + 1) ∧ Rl (i + 1) r (moveS S 1 i 0) := by
  have hg := h.good.move 1 i 0 hi4 (by omega)
  by_cases hp : 0 < S.H i
  · have r0 : ¬ 1 ≤ r := fun hr => by have := (h.q1 hr).1 i hi hi4; omega
    have e : moveS S 1 i 0 = sendS ⟨S.E, upH S.H i 0, S.w⟩ i 0 (2, 0, S.H i) := by
      unfold moveS
      rw [if_neg (by omega), if_neg (by decide), if_pos rfl, if_neg (by omega), if_pos hp]
    rw [e] at hg ⊢
    refine ⟨⟨hg, ?_, fun hr => absurd hr r0, fun hr => absurd (by omega) r0⟩, fun j j1 j2 => ?_, fun f t f4 t4 t0 => ?_, fun hr => absurd hr r0⟩
    · have := Mw_up S.w i 0 hi4 (by omega) (S.w i 0 ++ [(2, 0, S.H i)])
      have := h.pot
      simp only [List.length_append, List.length_cons, List.length_nil] at *
      show n + 1 + Mw (upW S.w i 0 (S.w i 0 ++ [(2, 0, S.H i)])) ≤ _
      omega
    · show upH S.H i 0 j = 0
      unfold upH
      by_cases e : j = i
      · rw [if_pos e]
      · rw [if_neg e]; exact hl.done j j1 (by omega)
    · show upW S.w i 0 _ f t = []
      unfold upW; rw [if_neg (fun q => t0 q.2)]; exact hl.none f t f4 t4 t0
  · rw [move1_same hp] at hg ⊢
    refine ⟨⟨hg, by have := h.pot; omega, h.q1, h.emp⟩, fun j j1 j2 => ?_, hl.none, hl.emp⟩
    obtain ⟨q, c, hv⟩ := h.good
    have := (hv.hb i).1
    by_cases e : j = i
    · rw [e]; omega
    · exact hl.done j j1 (by omega)
theorem Rl.start {r : Nat} {S : Ws} (h : Emp S) : Rl 1 r S := ⟨fun j j1 j2 => by omega, fun f t f4 t4 _ => h f t f4 t4, fun _ => h⟩
theorem Kr.next {B r : Nat} {S : Ws} {n : Nat} (h : Kr B r S n) (hl : Rl 4 r S) : Kr B (r + 1) S n :=
  ⟨h.good, h.pot, fun _ => ⟨fun i i1 i2 => hl.done i i1 i2, hl.none⟩, fun hr => hl.emp (by omega)⟩
/-- When all has come and all was let go, it has no count. -/
theorem Kr.end {B : Nat} {S : Ws} {n : Nat} (h : Kr B 3 S n) : (∀ j, S.E j = 0) ∧ FreeS S := by
  have h1 := h.q1 (by omega)
  have h2 := h.emp (by omega)
  obtain ⟨q, c, hv⟩ := h.good
  have hq : ∀ i, 1 ≤ i → i < 4 → q i = [] := by
    intro i i1 i2
    have := hv.W.gh i i1 i2
    rw [h2 i 0 i2 (by omega)] at this
    exact List.map_eq_nil_iff.1 this
  constructor
  · intro j
    by_cases hj : 1 ≤ j ∧ j < 4
    · obtain ⟨i, rfl⟩ : ∃ i : Nat, j = i := ⟨j.toNat, by omega⟩
      have hb := hv.bal i (by omega) (by omega)
      have i4 : i < 4 := by omega
      rw [h1.1 i (by omega) i4] at hb
      unfold adds s3 refs r4 at hb
      dsimp only at hb
      rw [hq 1 (by omega) (by omega), hq 2 (by omega) (by omega), hq 3 (by omega) (by omega), hq i (by omega) i4, h2 0 i (by omega) i4, h2 1 i (by omega) i4, h2 2 i (by omega) i4, h2 3 i (by omega) i4] at hb
      simp only [cntB, rel, cntR] at hb
      omega
    · exact hv.ez j hj
  · intro i i1 i2
    refine ⟨h1.1 i i1 i2, fun k k4 m hm => ?_⟩
    rw [h2 k i k4 i2] at hm; cases hm
end Tree.R16
