/- Layer 2: a token depends on nothing behind it; tokens farther on. -/
import Derived.Test.YtkbpkiebcghghaaDoorL2K
set_option autoImplicit false
set_option linter.unusedVariables false
set_option linter.unusedSimpArgs false
namespace Tree.X02
open Go
set_option maxHeartbeats 2000000
set_option maxRecDepth 100000
theorem agree_get {l l' : List UInt8} {b i : Nat} (h : l.take b = l'.take b) (hi : i < b) : l'[i]? = l[i]? := by
  have := congrArg (fun m : List UInt8 => m[i]?) h
  simp only [List.getElem?_take, if_pos hi] at this
  exact this.symm
theorem span_cases (p : UInt8 → Bool) (l : List UInt8) (x : Nat) : (spanL p l x = x ∧ ∀ c, l[x]? = some c → p c = false) ∨ ∃ c, l[x]? = some c ∧ p c = true ∧ spanL p l x = spanL p l (x + 1) := by
  by_cases h : ∃ c, l[x]? = some c ∧ p c = true
  · obtain ⟨c, h1, h2⟩ := h
    exact .inr ⟨c, h1, h2, span_step h1 h2⟩
  · have h' : ∀ c, l[x]? = some c → p c = false := fun c hc => by
      cases hq : p c with
      | false => rfl
      | true => exact absurd ⟨c, hc, hq⟩ h
    exact .inl ⟨span_stop h', h'⟩
theorem span_local {p : UInt8 → Bool} {l l' : List UInt8} {b : Nat} (h : l.take b = l'.take b) : ∀ (n x : Nat), b - x ≤ n → x ≤ b → spanL p l x ≤ b → (spanL p l x = b → ∀ c, l'[b]? = some c → p c = false) → spanL p l' x = spanL p l x
  | n, x, hn, hx, hs, hb => by
    rcases span_cases p l x with ⟨h1, h2⟩ | ⟨c, h1, h2, h3⟩
    · rw [h1]
      by_cases hxb : x < b
      · exact span_stop fun c hc => h2 c (by rw [← agree_get h hxb]; exact hc)
      · obtain rfl : x = b := by omega
        exact span_stop (hb h1)
    · have hxb : x < b := by have := (span_le (p := p) (l := l) (i := x + 1)).1; omega
      rw [h3, span_step (l := l') (by rw [agree_get h hxb]; exact h1) h2]
      rw [h3] at hs hb
      match n, hn with
      | 0, hn => omega
      | n + 1, hn => exact span_local h n (x + 1) (by omega) hxb hs hb
theorem skip_local {l l' : List UInt8} {b : Nat} (h : l.take b = l'.take b) : ∀ (n a : Nat), b - a ≤ n → a ≤ b → skipL l a < b → skipL l' a = skipL l a
  | n, a, hn, ha, hs => by
    have hle : a ≤ skipL l a := by unfold skipL; omega
    have hab : a < b := by omega
    have hg := agree_get h hab
    cases hc : l[a]? with
    | none =>
      rw [skip_stop (l := l) (fun c hc' => by rw [hc] at hc'; cases hc'), skip_stop (fun c hc' => by rw [hg, hc] at hc'; cases hc')]
    | some c =>
      rw [hc] at hg
      by_cases hb : blk c = true
      · rw [skip_blank hc hb] at hs ⊢
        rw [skip_blank hg hb]
        match n, hn with
        | 0, hn => omega
        | n + 1, hn => exact skip_local h n (a + 1) (by omega) hab hs
      · by_cases h37 : c.toNat = 37
        · obtain ⟨r1, r2⟩ := skip_rem hc h37
          obtain ⟨r3, _⟩ := skip_rem hg h37
          have hle2 : spanL lne l a ≤ skipL l (spanL lne l a) := by unfold skipL; omega
          rw [r1] at hs ⊢
          rw [r3, span_local h b a (by omega) ha (by omega) (fun e => by omega)]
          match n, hn with
          | 0, hn => omega
          | n + 1, hn => exact skip_local h n (spanL lne l a) (by omega) (by omega) hs
        · have hb : blk c = false := by cases hq : blk c <;> simp_all
          rw [skip_stop (l := l) (fun d hd => by rw [hc] at hd; cases hd; exact ⟨hb, h37⟩), skip_stop (fun d hd => by rw [hg] at hd; cases hd; exact ⟨hb, h37⟩)]
theorem part_local {l l' : List UInt8} {b x y : Nat} (h : l.take b = l'.take b) (hy : y ≤ b) : (l'.drop x).take (y - x) = (l.drop x).take (y - x) := by
  have e : ∀ m : List UInt8, (m.drop x).take (y - x) = ((m.take b).drop x).take (y - x) := fun m => by
    rw [List.drop_take, List.take_take]
    congr 1; omega
  rw [e l', e l, h]
theorem digs_part (l : List UInt8) (x : Nat) : digs l x = (l.drop x).take (spanL dig l x - x) := by
  unfold digs spanL; rw [Nat.add_sub_cancel_left, tw_take]
theorem ext_local {s s' : ByteArray} {b x y : Nat} (h : s.data.toList.take b = s'.data.toList.take b) (hy : y ≤ b) : s'.extract x y = s.extract x y := by
  apply ba_ext
  rw [ext_list, ext_list]; exact part_local h hy
end Tree.X02
