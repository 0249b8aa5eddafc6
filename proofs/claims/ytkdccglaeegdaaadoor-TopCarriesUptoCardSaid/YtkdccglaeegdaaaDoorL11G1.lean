/- Layer 11: no value's bytes begin with another one's: the parts. -/
import Derived.Test.YtkdccglaeegdaaaDoorL11W
import Derived.Test.YtkdccglaeegdaaaDoorL11B
set_option autoImplicit false
set_option linter.unusedVariables false
set_option linter.unusedSimpArgs false
namespace Tree.W11
open Go
theorem numB_inj : ∀ (n m : Nat) (r s : List Int), numB n ++ r = numB m ++ s → n = m ∧ r = s := by
  intro n
  induction n using Nat.strongRecOn with
  | ind n ih =>
    intro m r s h
    by_cases hn : n < 128 <;> by_cases hm : m < 128
    · rw [numB_lt hn, numB_lt hm] at h
      simp only [List.cons_append, List.nil_append, List.cons.injEq] at h
      exact ⟨by omega, h.2⟩
    · rw [numB_lt hn, numB_ge hm] at h
      simp only [List.cons_append, List.nil_append, List.cons.injEq] at h
      omega
    · rw [numB_ge hn, numB_lt hm] at h
      simp only [List.cons_append, List.nil_append, List.cons.injEq] at h
      omega
    · rw [numB_ge hn, numB_ge hm] at h
      simp only [List.cons_append, List.cons.injEq] at h
      obtain ⟨h1, h2⟩ := ih (n / 128) (by omega) (m / 128) r s h.2
      exact ⟨by omega, h2⟩
theorem nameB_inj {a b a' b' : Int} {r s : List Int} (h1 : nameOk a b) (h2 : nameOk a' b') (h : nameB a b ++ r = nameB a' b' ++ s) : (a = a' ∧ b = b') ∧ r = s := by
  unfold nameOk at h1 h2
  unfold nameB at h
  rw [wrap8 (by omega) (by omega), wrap8 (by omega) (by omega)] at h
  simp only [List.cons_append, List.cons.injEq] at h
  obtain ⟨h3, h4⟩ := numB_inj _ _ _ _ h.2
  exact ⟨⟨h.1, by omega⟩, h4⟩
theorem bytesI_inj {s t : ByteArray} (h : bytesI s = bytesI t) : s = t := by
  unfold bytesI at h
  have h1 : s.data.toList = t.data.toList := by
    refine List.map_inj_right (fun x y hxy => ?_) |>.1 h
    have : x.toNat = y.toNat := by omega
    exact UInt8.toNat_inj.1 this
  have h2 : s.data = t.data := by rw [← Array.toArray_toList (xs := s.data), h1, Array.toArray_toList]
  cases s; cases t; simp only at h2; rw [h2]
theorem strB_inj {s t : ByteArray} {r q : List Int} (h : strB s ++ r = strB t ++ q) : s = t ∧ r = q := by
  unfold strB at h
  rw [List.append_assoc, List.append_assoc] at h
  obtain ⟨h1, h2⟩ := numB_inj _ _ _ _ h
  have h3 := List.append_inj h2 (by rw [bytesI_len, bytesI_len, h1])
  exact ⟨bytesI_inj h3.1, h3.2⟩
theorem zig_inj {a b : Int} (h : zig a = zig b) : a = b := by
  unfold zig at h
  split at h <;> split at h <;> omega
theorem cellB_inj {c d : C} {r s : List Int} (hc : okC c) (hd : okC d) (hc4 : c.k = 4 → nameOk c.node c.num) (hd4 : d.k = 4 → nameOk d.node d.num) (h : cellB c ++ r = cellB d ++ s) : c = d ∧ r = s := by
  unfold cellB at h
  simp only [List.cons_append, List.cons.injEq] at h
  obtain ⟨hk, h⟩ := h
  obtain ⟨ck, ct, cn, cno, cnu⟩ := c
  obtain ⟨dk, dt, dn, dno, dnu⟩ := d
  simp only at hk
  subst hk
  unfold okC zeroVar at hc hd
  simp only at hc hd hc4 hd4
  unfold restB at h
  simp only at h
  rcases hc with ⟨rfl, e1, ⟨e2, e3⟩, e4⟩ | ⟨rfl, e1, ⟨e2, e3⟩, e4⟩ | ⟨rfl, ⟨e2, e3⟩, e1⟩ | ⟨rfl, e1, e2, e3⟩
  · simp only [Int.reduceEq, false_and, false_or, or_false, true_and] at hd
    obtain ⟨f1, ⟨f2, f3⟩, f4⟩ := hd
    simp only [if_true] at h
    obtain ⟨g1, g2⟩ := numB_inj _ _ _ _ h
    have := zig_inj g1
    subst e1; subst f1; subst e2; subst e3; subst f2; subst f3; subst this
    exact ⟨rfl, g2⟩
  · simp only [Int.reduceEq, false_and, false_or, or_false, true_and] at hd
    obtain ⟨f1, ⟨f2, f3⟩, f4⟩ := hd
    simp only [Int.reduceEq, if_true, if_false] at h
    obtain ⟨g1, g2⟩ := strB_inj h
    subst e2; subst e3; subst f2; subst f3; subst e4; subst f4; subst g1
    exact ⟨rfl, g2⟩
  · simp only [Int.reduceEq, false_and, false_or, or_false, true_and] at hd
    obtain ⟨⟨f2, f3⟩, f1⟩ := hd
    simp only [Int.reduceEq, if_true, if_false] at h
    rw [List.append_assoc, List.append_assoc] at h
    obtain ⟨g1, g2⟩ := strB_inj h
    have hn : 1 ≤ cn ∧ cn ≤ 8 := by rcases e1 with e1 | e1 <;> omega
    have hn2 : 1 ≤ dn ∧ dn ≤ 8 := by rcases f1 with e1 | e1 <;> omega
    rw [wrap8 (by omega) (by omega), wrap8 (by omega) (by omega)] at g2
    simp only [List.cons_append, List.nil_append, List.cons.injEq] at g2
    subst e2; subst e3; subst f2; subst f3; subst g1
    obtain ⟨rfl, g3⟩ := g2
    exact ⟨rfl, g3⟩
  · simp only [Int.reduceEq, false_and, false_or, or_false, true_and] at hd
    obtain ⟨f1, f2, f3⟩ := hd
    simp only [Int.reduceEq, if_true, if_false] at h
    obtain ⟨⟨rfl, rfl⟩, g2⟩ := nameB_inj (hc4 rfl) (hd4 rfl) h
    subst e1; subst f1; subst e2; subst f2
    exact ⟨rfl, g2⟩
theorem flat_inj : ∀ (cs ds : List C) (r s : List Int), cs.length = ds.length → (∀ c ∈ cs, okC c ∧ (c.k = 4 → nameOk c.node c.num)) → (∀ c ∈ ds, okC c ∧ (c.k = 4 → nameOk c.node c.num)) → cs.flatMap cellB ++ r = ds.flatMap cellB ++ s → cs = ds ∧ r = s
  | [], [], r, s, _, _, _, h => ⟨rfl, by simpa using h⟩
  | [], _ :: _, _, _, h, _, _, _ => by simp at h
  | _ :: _, [], _, _, h, _, _, _ => by simp at h
  | c :: cs, d :: ds, r, s, hl, hc, hd, h => by
    rw [List.flatMap_cons, List.flatMap_cons, List.append_assoc, List.append_assoc] at h
    obtain ⟨h1, h2⟩ := hc c (List.mem_cons_self ..)
    obtain ⟨h3, h4⟩ := hd d (List.mem_cons_self ..)
    obtain ⟨rfl, h5⟩ := cellB_inj h1 h3 h2 h4 h
    obtain ⟨rfl, h6⟩ := flat_inj cs ds r s (by simpa using hl) (fun c hm => hc c (List.mem_cons_of_mem _ hm)) (fun c hm => hd c (List.mem_cons_of_mem _ hm)) h5
    exact ⟨rfl, h6⟩
theorem termOk_cells {cs : List C} (h : TermOk cs) : ∀ c ∈ cs, okC c ∧ (c.k = 4 → nameOk c.node c.num) := fun c hc => ⟨h.1.1.2.2.2 c hc, h.2 c hc⟩
theorem termB_inj {cs ds : List C} {r s : List Int} (hc : TermOk cs) (hd : TermOk ds) (h : termB cs ++ r = termB ds ++ s) : cs = ds ∧ r = s := by
  unfold termB at h
  rw [List.append_assoc, List.append_assoc] at h
  obtain ⟨h1, h2⟩ := numB_inj _ _ _ _ h
  exact flat_inj cs ds r s h1 (termOk_cells hc) (termOk_cells hd) h2
theorem difB_inj : ∀ (l : Int) (a b : List Int) (r s : List Int), a.length = b.length → upTo l a → upTo l b → difB l a ++ r = difB l b ++ s → a = b ∧ r = s
  | l, [], [], r, s, _, _, _, h => ⟨rfl, by simpa [difB] using h⟩
  | l, [], _ :: _, _, _, h, _, _, _ => by simp at h
  | l, _ :: _, [], _, _, h, _, _, _ => by simp at h
  | l, x :: a, y :: b, r, s, hl, ha, hb, h => by
    unfold difB at h
    rw [List.append_assoc, List.append_assoc] at h
    obtain ⟨h1, h2⟩ := numB_inj _ _ _ _ h
    obtain ⟨a1, a2, a3⟩ := ha
    obtain ⟨b1, b2, b3⟩ := hb
    have : x = y := by omega
    subst this
    obtain ⟨rfl, h3⟩ := difB_inj x a b r s (by simpa using hl) a3 b3 h2
    exact ⟨rfl, h3⟩
theorem amtB_inj {w w' : Int} {bits bits' : List Int} {r s : List Int} (h1 : AmtOk w bits) (h2 : AmtOk w' bits') (h : amtB w bits ++ r = amtB w' bits' ++ s) : (w = w' ∧ bits = bits') ∧ r = s := by
  unfold amtB at h
  simp only [List.append_assoc] at h
  obtain ⟨e1, h⟩ := numB_inj _ _ _ _ h
  obtain ⟨e2, h⟩ := numB_inj _ _ _ _ h
  have g1 := h1.1; have g2 := h2.1
  obtain ⟨e3, h⟩ := difB_inj 0 _ _ _ _ e2 h1.2 h2.2 h
  exact ⟨⟨by omega, e3⟩, h⟩
end Tree.W11
