/- Layer 2: all tokens; the document's All. -/
import Derived.Test.YtlfifgganibjiaaDoorL2F
set_option autoImplicit false
set_option linter.unusedVariables false
set_option linter.unusedSimpArgs false
namespace Tree.X02
open Go
set_option maxHeartbeats 8000000
set_option maxRecDepth 100000
/-- The tokens from a place on, or the error and its place. -/
inductive Lx (s : ByteArray) : Nat → List Tk → Nat → Nat → Prop
  | bad {a : Nat} {r : Nx} (h : nextN s a = r) (he : r.2.2 ≠ 0) : Lx s a [] r.2.2 r.2.1
  | stop {a : Nat} {r : Nx} (h : nextN s a = r) (he : r.2.2 = 0) (hk : r.1.k = 0) : Lx s a [r.1] 0 0
  | go {a : Nat} {r : Nx} {ts : List Tk} {e p : Nat} (h : nextN s a = r) (he : r.2.2 = 0) (hk : r.1.k ≠ 0) (ht : Lx s r.2.1 ts e p) : Lx s a (r.1 :: ts) e p
theorem pre_le {s : ByteArray} {a : Nat} {t : ByteArray} (h : preB s a t = true) : a + t.size ≤ s.size := by
  unfold preB at h
  simp only [Bool.and_eq_true, decide_eq_true_eq] at h
  exact h.1
/-- A token that is not the End lies ahead of a greater place. -/
theorem next_prog (s : ByteArray) (a : Nat) (ha : a ≤ s.size) (he : (nextN s a).2.2 = 0) : (nextN s a).2.1 ≤ s.size ∧ ((nextN s a).1.k ≠ 0 → a < (nextN s a).2.1) ∧ (nextN s a).1.k ≤ 5 := by
  have hlen := len_eq s
  have q1 := skip_le (l := s.data.toList) (i := a) (by omega)
  obtain ⟨r, hr⟩ : ∃ r, r = nextN s a := ⟨_, rfl⟩
  rw [← hr] at he ⊢
  unfold nextN at hr
  dsimp only at hr
  generalize skipL s.data.toList a = b at q1 hr
  have q3 := span_le (p := dig) (l := s.data.toList) (i := b)
  have q4 := span_le (p := wrd) (l := s.data.toList) (i := b)
  have hstep : ∀ (p : UInt8 → Bool) c, s.data.toList[b]? = some c → p c = true → b < spanL p s.data.toList b := fun p c hc hd => by
    rw [span_step hc hd]; have := span_le (p := p) (l := s.data.toList) (i := b + 1); omega
  split at hr
  · subst hr
    exact ⟨by dsimp only; omega, fun h => absurd rfl h, Nat.zero_le _⟩
  · rename_i c hc
    have hb := (List.getElem?_eq_some_iff.1 hc).1
    split at hr
    · unfold globS at hr
      dsimp only at hr
      split at hr
      · subst hr; simp at he
      · split at hr
        · subst hr; simp at he
        · split at hr
          · subst hr; simp at he
          · subst hr
            have z1 := span_le (p := dig) (l := s.data.toList) (i := b + 1)
            have z2 := span_le (p := dig) (l := s.data.toList) (i := spanL dig s.data.toList (b + 1) + 1)
            rename_i h1 _ _
            have hi : spanL dig s.data.toList (b + 1) < s.data.toList.length := by
              simp only [not_or, ne_eq, Decidable.not_not] at h1
              cases hq : s.data.toList[spanL dig s.data.toList (b + 1)]? with
              | none => rw [hq] at h1; simp at h1
              | some d => exact (List.getElem?_eq_some_iff.1 hq).1
            refine ⟨by dsimp only; omega, fun _ => by dsimp only; omega, by dsimp only; omega⟩
    · split at hr
      · rename_i hd
        have := hstep dig c hc hd
        split at hr
        · subst hr; exact ⟨by dsimp only; omega, fun _ => by dsimp only; omega, by dsimp only; omega⟩
        · subst hr; simp at he
      · split at hr
        · rename_i hd
          have := hstep wrd c hc (by unfold wrd; rw [hd]; simp)
          split at hr
          · subst hr; simp at he
          · subst hr; exact ⟨by dsimp only; omega, fun _ => by dsimp only; omega, by dsimp only; omega⟩
        · split at hr
          · rename_i hd
            have := hstep wrd c hc (by unfold wrd; rw [hd]; simp)
            split at hr
            · subst hr; simp at he
            · subst hr; exact ⟨by dsimp only; omega, fun _ => by dsimp only; omega, by dsimp only; omega⟩
          · unfold sgnS at hr
            split at hr
            · rename_i t ht
              subst hr
              have h1 := pre_le (List.find?_some ht)
              have h2 := sg_small t (List.mem_of_find?_eq_some ht)
              exact ⟨h1, fun _ => by dsimp only; omega, by dsimp only; omega⟩
            · subst hr; simp at he
theorem lx_ex (s : ByteArray) : ∀ (n a : Nat), a ≤ s.size → s.size - a ≤ n → ∃ ts e p, Lx s a ts e p
  | n, a, ha, hn => by
    by_cases he : (nextN s a).2.2 = 0
    · obtain ⟨h1, h2, _⟩ := next_prog s a ha he
      by_cases hk : (nextN s a).1.k = 0
      · exact ⟨_, _, _, .stop rfl he hk⟩
      · have h2 := h2 hk
        match n, hn with
        | 0, hn => exact absurd h2 (by omega)
        | n + 1, hn =>
          obtain ⟨ts, e, p, h⟩ := lx_ex s n _ h1 (by omega)
          exact ⟨_, _, _, .go rfl he hk h⟩
    · exact ⟨_, _, _, .bad rfl he⟩
def slT (kk : IntKind) (o : Bool) (ts : List Tk) : LV := .sl o 0 5 (ts.map (Tk.cells kk)) []
/-- What All tells. -/
def resA (kk : IntKind) (ts : List Tk) (e p : Nat) : LV := .tup [slT kk false (if e = 0 then ts else []), .int .i64 e, .int .i64 p]
theorem lx_e {s : ByteArray} {a : Nat} {ts : List Tk} {e p : Nat} (h : Lx s a ts e p) : e = 0 → p = 0 := by
  induction h with
  | bad h he => intro h0; exact absurd h0 he
  | stop _ _ _ => intro _; rfl
  | go _ _ _ _ ih => exact ih
end Tree.X02
