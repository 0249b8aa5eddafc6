/- Layer 2: blanks and a remark more ahead of a token change places alone. -/
import Derived.Test.YtkbpkiebcghghaaDoorL2U
set_option autoImplicit false
set_option linter.unusedVariables false
set_option linter.unusedSimpArgs false
namespace Tree.X02
open Go
set_option maxHeartbeats 2000000
set_option maxRecDepth 100000
theorem skip_idem : ∀ (m : List UInt8) (q : Bool), skipS false (m.drop (skipS q m)) = 0
  | [], q => by cases q <;> rfl
  | c :: r, q => by
    cases q
    · by_cases hb : blk c = true
      · have e : skipS false (c :: r) = skipS false r + 1 := by rw [skipS, if_pos hb]
        rw [e, List.drop_succ_cons]; exact skip_idem r false
      · by_cases h37 : c.toNat = 37
        · have e : skipS false (c :: r) = skipS true r + 1 := by rw [skipS, if_neg hb, if_pos h37]
          rw [e, List.drop_succ_cons]; exact skip_idem r true
        · have e : skipS false (c :: r) = 0 := by rw [skipS, if_neg hb, if_neg h37]
          rw [e, List.drop_zero, e]
    · by_cases hb : lne c = true
      · have e : skipS true (c :: r) = skipS true r + 1 := by rw [skipS, if_pos hb]
        rw [e, List.drop_succ_cons]; exact skip_idem r true
      · have e : skipS true (c :: r) = skipS false r + 1 := by rw [skipS, if_neg hb]
        rw [e, List.drop_succ_cons]; exact skip_idem r false
theorem lx_at {s : ByteArray} {a : Nat} {ts : List Tk} {e p : Nat} (h : Lx s a ts e p) : a ≤ s.size → ∀ t ∈ ts, (a : Int) ≤ t.at_ := by
  induction h with
  | bad _ _ => intro _ t ht; cases ht
  | @stop a r h he hk =>
    intro ha t ht
    rw [List.mem_singleton] at ht; subst ht
    have := (next_facts s a ha (by rw [h]; exact he)).1
    rw [h] at this
    rw [this]; unfold skipL; omega
  | @go a r ts e p h he hk ht ih =>
    intro ha t htm
    have h1 := (next_facts s a ha (by rw [h]; exact he)).1
    have h2 := next_prog s a ha (by rw [h]; exact he)
    rw [h] at h1 h2
    rcases List.mem_cons.1 htm with rfl | htm
    · rw [h1]; unfold skipL; omega
    · have := ih h2.1 t htm
      have := h2.2.1 hk
      omega
section
variable {s s' : ByteArray} {b : Nat} {r : List UInt8} (hl : s'.data.toList = s.data.toList.take b ++ (moreL r ++ s.data.toList.drop b)) (hr : ∀ c ∈ r, lne c = true) (hb : b ≤ s.size)
include hl hr hb
theorem lx_more : ∀ (i a : Nat) (ts : List Tk), Lx s a ts 0 0 → a ≤ b → (ts[i]?.map Tk.at_) = some (b : Int) → Lx s' a (ts.take i ++ (ts.drop i).map (shT (moreL r).length)) 0 0
  | i, a, ts, hL, hab, hi => by
    have hlen := len_eq s
    have htl : (s.data.toList.take b).length = b := by rw [List.length_take]; omega
    have hD : s'.data.toList.drop (b + (moreL r).length) = s.data.toList.drop b := by
      rw [hl, ← List.drop_drop, List.drop_left' htl, List.drop_left' rfl]
    have hs' : s'.size = s.size + (moreL r).length := by
      rw [← len_eq s', hl, List.length_append, List.length_append, htl, List.length_drop]; omega
    have htk : s.data.toList.take b = s'.data.toList.take b := by
      rw [hl, List.take_left' htl]
    have h32 : s'.data.toList[b]? = some 32 := by
      rw [hl, List.getElem?_append_right (by omega), htl, Nat.sub_self]; rfl
    obtain ⟨z1, z2⟩ := lx_inv hL rfl
    have hf := next_facts s a (by omega) z1
    match i with
    | 0 =>
      have hsk : skipL s.data.toList a = b := by
        have : (ts[0]?.map Tk.at_) = some (nextN s a).1.at_ := by
          rcases z2 with ⟨_, h⟩ | ⟨_, ts', h, _⟩ <;> rw [h] <;> rfl
        rw [this, hf.1] at hi
        injection hi with hi; omega
      have hn : skipS false (s.data.toList.drop a) = b - a := by unfold skipL at hsk; omega
      obtain ⟨t1, t2⟩ := skip_take (s.data.toList.drop a) false
      rw [hn] at t1 t2
      have hd : s'.data.toList.drop a = (s.data.toList.drop a).take (b - a) ++ (moreL r ++ s.data.toList.drop b) := by
        rw [hl, List.drop_append_of_le_length (by omega), List.drop_take]
      obtain ⟨q', hq⟩ := skip_app _ false (moreL r ++ s.data.toList.drop b) (by rw [t1, t2])
      have hz : skipS false (s.data.toList.drop b) = 0 := by
        have := skip_idem (s.data.toList.drop a) false
        rw [hn, List.drop_drop] at this
        rwa [show a + (b - a) = b by omega] at this
      have hy : skipL s'.data.toList a = skipL s.data.toList a + (moreL r).length := by
        rw [hsk]; unfold skipL; rw [hd, hq, t2, skip_more r _ hr, hz]; omega
      have := lx_shift hD hb (by omega) hL rfl (by omega) (by omega) hy
      simpa using this
    | i + 1 =>
      rcases z2 with ⟨_, h⟩ | ⟨hk, ts', h, hl2⟩
      · rw [h] at hi; simp at hi
      · subst h
        have hi : (ts'[i]?.map Tk.at_) = some (b : Int) := by simpa using hi
        have hpr := next_prog s a (by omega) z1
        have hnb : (nextN s a).2.1 ≤ b := by
          obtain ⟨t, ht, hta⟩ := Option.map_eq_some_iff.1 hi
          have := lx_at hl2 hpr.1 t (List.mem_of_getElem? ht)
          omega
        have hnx := next_local htk (fun c hc => by rw [h32] at hc; cases hc; rfl) a hab hb z1 hk hnb
        have := lx_more i _ ts' hl2 hnb hi
        rw [List.take_succ_cons, List.drop_succ_cons, List.cons_append]
        exact .go hnx z1 hk this
end
end Tree.X02
