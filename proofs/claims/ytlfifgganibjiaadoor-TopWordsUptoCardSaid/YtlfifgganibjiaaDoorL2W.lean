/- Layer 2: a text is a name just if it is one token, a Name. -/
import Derived.Test.YtlfifgganibjiaaDoorL2Y
import Derived.Test.YtlfifgganibjiaaDoorTLa
set_option autoImplicit false
set_option linter.unusedVariables false
set_option linter.unusedSimpArgs false
namespace Tree.X02
open Go
set_option maxHeartbeats 4000000
set_option maxRecDepth 100000
theorem tw_all {p : UInt8 → Bool} : ∀ l : List UInt8, (∀ c ∈ l, p c = true) → l.takeWhile p = l
  | [], _ => rfl
  | c :: r, h => by rw [List.takeWhile_cons, if_pos (h c (List.mem_cons_self ..)), tw_all r (fun d hd => h d (List.mem_cons_of_mem _ hd))]
theorem span_all {p : UInt8 → Bool} {l : List UInt8} {i : Nat} : spanL p l i = l.length ↔ i ≤ l.length ∧ (∀ (j : Nat) c, i ≤ j → l[j]? = some c → p c = true) ∨ (i = l.length) := by
  constructor
  · intro h
    by_cases hi : i ≤ l.length
    · refine .inl ⟨hi, fun j c hj hc => ?_⟩
      unfold spanL at h
      have hlen : ((l.drop i).takeWhile p).length = (l.drop i).length := by rw [List.length_drop]; omega
      have he : (l.drop i).takeWhile p = l.drop i := by
        have := List.takeWhile_prefix (l := l.drop i) p
        exact this.eq_of_length hlen
      have hm : c ∈ (l.drop i).takeWhile p := by
        rw [he]
        apply List.mem_of_getElem? (i := j - i)
        rw [List.getElem?_drop, show i + (j - i) = j by omega, hc]
      have hall := List.all_takeWhile (l := l.drop i) (p := p)
      exact List.all_eq_true.1 hall c hm
    · unfold spanL at h; omega
  · rintro (⟨hi, h⟩ | h)
    · unfold spanL
      have he : (l.drop i).takeWhile p = l.drop i := by
        apply tw_all
        intro c hc
        obtain ⟨k, hk⟩ := List.getElem?_of_mem hc
        rw [List.getElem?_drop] at hk
        exact h (i + k) c (by omega) hk
      rw [he, List.length_drop]; omega
    · subst h; unfold spanL; simp
theorem okB_wrd {j : Nat} {c : UInt8} (h : okB j c.toNat) : wrd c = true := by
  unfold okB smallB at h
  unfold wrd
  simp only [Bool.or_eq_true, sml_iff, cap_iff, dig_iff]
  omega
theorem name_next {s : ByteArray} (h : NameP s.data.toList) : nextN s 0 = (⟨1, s, 0, 0, 0⟩, s.size, 0) := by
  obtain ⟨h1, h2, h3⟩ := h
  have hlen := len_eq s
  obtain ⟨c, r, hl⟩ : ∃ c r, s.data.toList = c :: r := by
    cases hq : s.data.toList with
    | nil => exact absurd hq h1
    | cons c r => exact ⟨c, r, rfl⟩
  have h0 : s.data.toList[0]? = some c := by rw [hl]; rfl
  have hb := h3 0 c h0
  have hs : sml c = true := by
    unfold okB smallB at hb
    rw [sml_iff]; omega
  have hs' := sml_iff.1 hs
  have hsk : skipL s.data.toList 0 = 0 := skip_stop fun d hd => by
    rw [h0] at hd; cases hd
    refine ⟨?_, by omega⟩
    cases hq : blk c with
    | false => rfl
    | true => have := blk_iff.1 hq; omega
  have hsp : spanL wrd s.data.toList 0 = s.data.toList.length := span_all.2 (.inl ⟨Nat.zero_le _, fun j d _ hd => okB_wrd (h3 j d hd)⟩)
  have hd : ¬ dig c = true := by rw [dig_iff]; omega
  have hc : ¬ cap c = true := by rw [cap_iff]; omega
  have hx : s.extract 0 s.size = s := ba_ext (by rw [ext_list, List.drop_zero, Nat.sub_zero, ← hlen, List.take_length])
  unfold nextN
  dsimp only
  rw [hsk, h0]
  dsimp only
  rw [if_neg (by omega), if_neg hd, if_neg hc, if_pos hs, hsp, if_neg (by omega), hlen, hx]
  rfl
theorem end_next (s : ByteArray) : nextN s s.size = (⟨0, ⟨#[]⟩, 0, 0, s.size⟩, s.size, 0) := by
  have hn : s.data.toList[s.size]? = none := List.getElem?_eq_none (by rw [len_eq]; exact Nat.le_refl _)
  have hsk : skipL s.data.toList s.size = s.size := skip_stop fun d hd => by rw [hn] at hd; cases hd
  unfold nextN
  dsimp only
  rw [hsk, hn]
/-- The tokens of a name. -/
theorem name_lx {s : ByteArray} (h : NameP s.data.toList) {ts : List Tk} {e p : Nat} (hL : Lx s 0 ts e p) : ts = [⟨1, s, 0, 0, 0⟩, ⟨0, ⟨#[]⟩, 0, 0, s.size⟩] ∧ e = 0 := by
  have hn := name_next h
  cases hL with
  | @bad _ r hr he => rw [hn] at hr; subst hr; exact absurd rfl he
  | @stop _ r hr he hk => rw [hn] at hr; subst hr; exact absurd hk (by simp)
  | @go _ r ts' e p hr he hk ht =>
    rw [hn] at hr; subst hr
    dsimp only at ht
    cases ht with
    | @bad _ r hr he => rw [end_next] at hr; subst hr; exact absurd rfl he
    | @stop _ r hr he hk => rw [end_next] at hr; subst hr; exact ⟨rfl, rfl⟩
    | @go _ r ts' e p hr he hk ht => rw [end_next] at hr; subst hr; exact absurd rfl hk
theorem lx_name {s : ByteArray} {t u : Tk} {p : Nat} (hL : Lx s 0 [t, u] 0 p) (hk : t.k = 1) (ht : t.text = s) : NameP s.data.toList := by
  obtain ⟨h1, h2⟩ := lx_inv hL rfl
  obtain ⟨h3, h4⟩ : t = (nextN s 0).1 ∧ (nextN s 0).1.k ≠ 0 := by
    rcases h2 with ⟨_, h⟩ | ⟨h, _, h', _⟩
    · cases h
    · cases h'; exact ⟨rfl, h⟩
  have hf := next_facts s 0 (Nat.zero_le _) h1
  have hp := next_prog s 0 (Nat.zero_le _) h1
  have hlen := len_eq s
  rw [← h3] at hf h4
  rw [ht] at hf
  have hx0 : skipL s.data.toList 0 = 0 := by have := hp.1; omega
  have hns : (nextN s 0).2.1 = s.size := by have := hf.2.1; omega
  have hx : s.extract 0 s.size = s := ba_ext (by rw [ext_list, List.drop_zero, Nat.sub_zero, ← hlen, List.take_length])
  obtain ⟨r, hr⟩ : ∃ r, r = nextN s 0 := ⟨_, rfl⟩
  rw [← hr] at h1 h3 hns
  unfold nextN at hr
  dsimp only at hr
  rw [hx0] at hr
  subst h3
  split at hr
  · subst hr; exact absurd hk (by simp)
  · rename_i c hc
    split at hr
    · unfold globS at hr
      dsimp only at hr
      (repeat' split at hr) <;> subst hr <;> first | (exfalso; simp at h1; done) | (exfalso; simp at hk; done) | (exfalso; simp [tk0] at hk; done)
    · split at hr
      · split at hr <;> subst hr <;> first | (exfalso; simp at h1; done) | (exfalso; simp at hk; done)
      · split at hr
        · split at hr <;> subst hr <;> first | (exfalso; simp at h1; done) | (exfalso; simp at hk; done)
        · split at hr
          · rename_i hs
            split at hr
            · subst hr; exfalso; simp at h1
            · rename_i h16
              subst hr
              dsimp only at hns
              have hlt : 0 < s.data.toList.length := (List.getElem?_eq_some_iff.1 hc).1
              rcases span_all.1 (hns.trans hlen.symm) with ⟨_, hall⟩ | h0
              · refine ⟨fun h => by rw [h] at hlt; simp at hlt, by omega, fun j b hb => ?_⟩
                have hw := hall j b (Nat.zero_le _) hb
                unfold wrd at hw
                simp only [Bool.or_eq_true, sml_iff, cap_iff, dig_iff] at hw
                have hs' := sml_iff.1 hs
                unfold okB smallB
                by_cases hj : j = 0
                · subst hj; rw [hc] at hb; cases hb
                  omega
                · omega
              · omega
          · unfold sgnS at hr
            split at hr <;> subst hr <;> first | (exfalso; simp at h1; done) | (exfalso; simp at hk; done)
end Tree.X02
