/- Layer 2: digits and their number. -/
import Derived.Test.YtkbpkiebcghghaaDoorL2B
set_option autoImplicit false
set_option linter.unusedVariables false
set_option linter.unusedSimpArgs false
namespace Tree.X02
open Go
set_option maxHeartbeats 4000000
set_option maxRecDepth 100000
def lim : Nat := 1099511627776
/-- Digits as a number, reckoned until it is too great. -/
def capV : Nat → List UInt8 → Nat
  | n, [] => n
  | n, c :: r => capV (if n ≤ lim then n * 10 + (c.toNat - 48) else n) r
def okD (l : List UInt8) : Bool := decide (capV 0 l ≤ lim) && (decide (l.length ≤ 1) || (match l with | c :: _ => decide (c.toNat ≠ 48) | [] => true))
def digs (l : List UInt8) (a : Nat) : List UInt8 := (l.drop a).takeWhile dig
theorem capV_big : ∀ (l : List UInt8) (n : Nat), lim < n → capV n l = n
  | [], n, _ => rfl
  | c :: r, n, h => by rw [capV, if_neg (by omega)]; exact capV_big r n h
theorem parse_big : ∀ (l : List UInt8) (acc : Nat), (∀ c ∈ l, dig c = true) → lim < acc → (∃ u, Lib.parseUint10 acc l = .ok u ∧ lim < u) ∨ Lib.parseUint10 acc l = .range
  | [], acc, _, h => .inl ⟨acc, rfl, h⟩
  | c :: r, acc, hd, h => by
    have hc := dig_iff.1 (hd c (List.mem_cons_self ..))
    rw [Lib.parseUint10, if_pos hc]
    split
    · exact .inr rfl
    · split
      · exact .inr rfl
      · exact parse_big r _ (fun d hd' => hd d (List.mem_cons_of_mem _ hd')) (by omega)
theorem parse_cap : ∀ (l : List UInt8) (acc : Nat), (∀ c ∈ l, dig c = true) → acc ≤ lim → (∃ u, Lib.parseUint10 acc l = .ok u ∧ (u ≤ lim ↔ capV acc l ≤ lim) ∧ (u ≤ lim → u = capV acc l)) ∨ (Lib.parseUint10 acc l = .range ∧ lim < capV acc l)
  | [], acc, _, h => .inl ⟨acc, rfl, Iff.rfl, fun _ => rfl⟩
  | c :: r, acc, hd, h => by
    have hc := dig_iff.1 (hd c (List.mem_cons_self ..))
    have hl : lim = 1099511627776 := rfl
    rw [Lib.parseUint10, if_pos hc, if_neg (by omega), if_neg (by omega), capV, if_pos h]
    by_cases h2 : acc * 10 + (c.toNat - 48) ≤ lim
    · exact parse_cap r _ (fun d hd' => hd d (List.mem_cons_of_mem _ hd')) h2
    · rw [capV_big r _ (by omega)]
      rcases parse_big r (acc * 10 + (c.toNat - 48)) (fun d hd' => hd d (List.mem_cons_of_mem _ hd')) (by omega) with ⟨u, h3, h4⟩ | h3
      · exact .inl ⟨u, h3, by omega, fun h => by omega⟩
      · exact .inr ⟨h3, by omega⟩
theorem num_ok (s : ByteArray) (hs : s.size ≤ 281474976710656) (hne : s.data.toList ≠ []) (hd : ∀ c ∈ s.data.toList, dig c = true) : ∃ n : Int, (okD s.data.toList = true → n = (capV 0 s.data.toList : Int)) ∧ ∀ ob pb, Gives env2 353 [.str s] ob pb (.tup [.int .i64 n, .bool (okD s.data.toList)], ob) := by
  have hl : lim = 1099511627776 := rfl
  have hsz : s.size = s.data.toList.length := (len_eq s).symm
  have key : ∃ n : Int, (okD s.data.toList = true → n = (capV 0 s.data.toList : Int)) ∧ numF0 s = some (.tup [.int .i64 n, .bool (okD s.data.toList)]) := by
    unfold numF0
    rw [hsz]
    generalize s.data.toList = l at hne hd ⊢
    cases l with
    | nil => exact absurd rfl hne
    | cons c r =>
      have hc := dig_iff.1 (hd c (List.mem_cons_self ..))
      have ha : Lib.atoiAll (c :: r) = (match Lib.parseUint10 0 (c :: r) with | .syntax => .syntax | .range => .range | .ok u => if 9223372036854775808 ≤ u then .range else .ok (u : Int)) := by
        unfold Lib.atoiAll
        have e1 : ¬ (c.toNat = 43 ∨ c.toNat = 45) := by omega
        have e2 : ¬ c.toNat = 45 := by omega
        simp only [if_neg e1, Lib.parseMag, List.cons_ne_nil, if_false]
        cases Lib.parseUint10 0 (c :: r) with
        | «syntax» => rfl
        | range => rfl
        | ok u => simp only [e2, not_false_eq_true, true_and, false_and, if_false]
      rw [ha]
      have hok : ∀ b : Bool, (b = decide (capV 0 (c :: r) ≤ lim)) → (b && ((c :: r).length == 1 || c != 48)) = okD (c :: r) := by
        intro b hb
        unfold okD
        rw [hb]
        have e3 : ((c :: r).length == 1) = decide ((c :: r).length ≤ 1) := by
          cases r with
          | nil => rfl
          | cons d r => simp
        have e4 : (c != 48) = decide (c.toNat ≠ 48) := by
          by_cases h : c = 48
          · subst h; rfl
          · have : c.toNat ≠ 48 := fun h' => h (UInt8.toNat_inj.1 h')
            rw [decide_eq_true this]; simpa using h
        rw [e3, e4]
      rcases parse_cap (c :: r) 0 hd (by omega) with ⟨u, h1, h2, h3⟩ | ⟨h1, h2⟩
      · rw [h1]
        simp only
        by_cases hu : 9223372036854775808 ≤ u
        · rw [if_pos hu]
          have hf : okD (c :: r) = false := by
            unfold okD
            rw [decide_eq_false (by omega)]; rfl
          exact ⟨Lib.atoiSat (c :: r), fun h => absurd h (by rw [hf]; simp), by rw [hf]⟩
        · rw [if_neg hu]
          have := hok (decide ((u : Int) ≤ 1099511627776)) (by
            by_cases h : u ≤ lim
            · rw [decide_eq_true (by omega), decide_eq_true (h2.1 h)]
            · rw [decide_eq_false (by omega), decide_eq_false (fun h' => h (h2.2 h'))])
          refine ⟨u, fun h => ?_, ?_⟩
          · have : capV 0 (c :: r) ≤ lim := by
              unfold okD at h
              simp only [Bool.and_eq_true, decide_eq_true_eq] at h
              exact h.1
            rw [h3 (h2.2 this)]
          · rw [← this]
      · rw [h1]
        have hf : okD (c :: r) = false := by
          unfold okD
          rw [decide_eq_false (by omega)]; rfl
        exact ⟨Lib.atoiSat (c :: r), fun h => absurd h (by rw [hf]; simp), by rw [hf]⟩
  obtain ⟨n, h1, h2⟩ := key
  refine ⟨n, h1, fun ob pb => gives_ext (F := numF) rfl ?_⟩
  show (if s.size ≤ 281474976710656 then numF0 s else none) = _
  rw [if_pos hs, h2]
theorem digs_step {l : List UInt8} {i : Nat} {b : UInt8} (h : l[i]? = some b) (hp : dig b = true) : digs l i = b :: digs l (i + 1) := by
  unfold digs; rw [drop_cons h, List.takeWhile_cons, if_pos hp]
theorem digs_stop {l : List UInt8} {i : Nat} (h : ∀ b, l[i]? = some b → dig b = false) : digs l i = [] := by
  unfold digs
  cases hb : l[i]? with
  | none => rw [List.drop_of_length_le (by rw [List.getElem?_eq_none_iff] at hb; exact hb)]; rfl
  | some b => rw [drop_cons hb, List.takeWhile_cons, if_neg (by rw [h b hb]; simp)]
theorem digits_ok (s : ByteArray) (hs : s.size ≤ 4611686018427387904) (a : Nat) (ha : a ≤ s.size) (ob : Obs) (pb : Nat) : Gives env2 359 [.str s, .int .i64 a] ob pb (.tup [.int .i64 (spanL dig s.data.toList a), .int .i64 (capV 0 (digs s.data.toList a)), .bool (okD (digs s.data.toList a))], ob) := by
  have hlen := len_eq s
  have hl : lim = 1099511627776 := rfl
  refine gives_code (f := tf359) rfl ?_
  conv => whnf
  refine loop_v (V := fun i : Nat × Nat => [(1, .int .i64 i.1), (8, .int .i64 i.2)]) (O := fun _ => ob) (m := fun i => s.size - i.1) (P := fun i => spanL dig s.data.toList a = spanL dig s.data.toList i.1 ∧ capV 0 (digs s.data.toList a) = capV i.2 (digs s.data.toList i.1) ∧ i.2 ≤ 10995116277769 ∧ a ≤ i.1) ?_ (a, 0) ⟨rfl, rfl, by omega, Nat.le_refl _⟩ rfl
  rintro R ⟨i, n⟩ ⟨hi, hn, hb9, hai⟩ hN hE hR
  dsimp only at hi hn hb9 hai
  have hend : (∀ b, s.data.toList[i]? = some b → dig b = false) → spanL dig s.data.toList a = i ∧ capV 0 (digs s.data.toList a) = n := fun h => by
    rw [hi, hn, span_stop h, digs_stop h]; exact ⟨rfl, rfl⟩
  have hdl : spanL dig s.data.toList a = a + (digs s.data.toList a).length := rfl
  conv => whnf
  refine sel_split (fun h => ?_) (fun h => ?_)
  · conv => whnf
    have h := of_decide_eq_true h
    obtain ⟨b, hb⟩ : ∃ b, s.data.toList[i]? = some b := ⟨_, List.getElem?_eq_getElem (show i < s.data.toList.length by omega)⟩
    have e : IntKind.i64.wrap ((i : Int) + 1) = ((i + 1 : Nat) : Int) := by rw [wrap64] <;> omega
    refine ⟨b, ⟨by omega, hb⟩, ?_⟩
    conv => whnf
    refine ⟨_, _, digR_ok b _ _, fun _ => rfl, ?_⟩
    cases hp : dig b with
    | true =>
      have hd := dig_iff.1 hp
      conv => whnf
      refine sel_split (fun h2 => ?_) (fun h2 => ?_)
      · conv => whnf
        have h2 : n ≤ lim := by have := of_decide_eq_true h2; omega
        refine ⟨b, ⟨by omega, hb⟩, ?_⟩
        conv => whnf
        have e2 : IntKind.i64.wrap (IntKind.i64.wrap ((n : Int) * 10) + IntKind.i64.wrap (IntKind.u8.wrap ((b.toNat : Int) - 48))) = ((n * 10 + (b.toNat - 48) : Nat) : Int) := by
          have w1 : IntKind.u8.wrap ((b.toNat : Int) - 48) = ((b.toNat - 48 : Nat) : Int) := by
            simp only [IntKind.wrap, IntKind.bits, IntKind.signed, Bool.false_and, Bool.false_eq_true, if_false]; omega
          rw [w1, wrap64, wrap64, wrap64] <;> (try rw [wrap64]) <;> (try rw [wrap64]) <;> omega
        refine hN (i + 1, n * 10 + (b.toNat - 48)) _ ⟨by rw [hi]; exact span_step hb hp, ?_, by dsimp only; omega, by dsimp only; omega⟩ (by dsimp only; omega) ?_
        · rw [hn, digs_step hb hp, capV, if_pos h2]
        · show _ = _
          rw [← e, ← e2]; rfl
      · conv => whnf
        have h2 : ¬ n ≤ lim := by have := of_decide_eq_false h2; omega
        refine hN (i + 1, n) _ ⟨by rw [hi]; exact span_step hb hp, ?_, hb9, by dsimp only; omega⟩ (by dsimp only; omega) ?_
        · rw [hn, digs_step hb hp, capV, if_neg h2]
        · show _ = _
          rw [← e]; rfl
    | false =>
      conv => whnf
      refine hE _ _ ?_
      conv => whnf
      obtain ⟨z1, z2⟩ := hend (fun c hc => by rw [hb] at hc; cases hc; exact hp)
      clear hN hE hR hend hi hn
      rw [z1] at hdl
      refine sel_split (fun h2 => ?_) (fun h2 => ?_)
      · conv => whnf
        have h2 : n ≤ lim := by have := of_decide_eq_true h2; omega
        have e : IntKind.i64.wrap ((a : Int) + 1) = ((a + 1 : Nat) : Int) := by rw [wrap64] <;> omega
        rw [e]
        refine sel_split (fun h3 => ?_) (fun h3 => ?_)
        · conv => whnf
          have h3 : i ≤ a + 1 := by have := of_decide_eq_true h3; omega
          refine ⟨rfl, ?_, rfl⟩
          have hO : okD (digs s.data.toList a) = true := by
            unfold okD; rw [z2, decide_eq_true h2, decide_eq_true (by omega)]; rfl
          rw [z1, z2, hO]; rfl
        · conv => whnf
          have h3 : ¬ i ≤ a + 1 := by have := of_decide_eq_false h3; omega
          obtain ⟨d, r, hdr⟩ : ∃ d r, digs s.data.toList a = d :: r := by
            cases hq : digs s.data.toList a with
            | nil => rw [hq] at hdl; simp at hdl; omega
            | cons d r => exact ⟨d, r, rfl⟩
          obtain ⟨d', hd'⟩ : ∃ b, s.data.toList[a]? = some b := by
            cases hq : s.data.toList[a]? with
            | some b => exact ⟨b, rfl⟩
            | none =>
              exfalso
              have := digs_stop (l := s.data.toList) (i := a) (fun b hb => by rw [hq] at hb; cases hb)
              rw [this] at hdr; cases hdr
          have : d' = d := by
            unfold digs at hdr
            rw [drop_cons hd', List.takeWhile_cons] at hdr
            split at hdr
            · injection hdr
            · cases hdr
          subst this
          refine ⟨d', ⟨by omega, hd'⟩, ?_⟩
          conv => whnf
          refine ⟨rfl, ?_, rfl⟩
          have hO : okD (digs s.data.toList a) = !((d'.toNat : Int) == 48) := by
            unfold okD; rw [z2, decide_eq_true h2, decide_eq_false (by omega), hdr]
            simp only [Bool.true_and, Bool.false_or]
            by_cases h : d'.toNat = 48
            · rw [decide_eq_false (by simp [h]), h]; rfl
            · rw [decide_eq_true h]
              have : ((d'.toNat : Int) == 48) = false := by simp; omega
              rw [this]; rfl
          rw [z1, z2, hO]; rfl
      · conv => whnf
        have h2 : ¬ n ≤ lim := by have := of_decide_eq_false h2; omega
        refine ⟨rfl, ?_, rfl⟩
        have hO : okD (digs s.data.toList a) = false := by
          unfold okD; rw [z2, decide_eq_false h2]; rfl
        rw [z1, z2, hO]; rfl
  · conv => whnf
    have h := of_decide_eq_false h
    refine hE _ _ ?_
    conv => whnf
    obtain ⟨z1, z2⟩ := hend (fun c hc => by have := (List.getElem?_eq_some_iff.1 hc).1; omega)
    clear hN hE hR hend hi hn
    rw [z1] at hdl
    refine sel_split (fun h2 => ?_) (fun h2 => ?_)
    · conv => whnf
      have h2 : n ≤ lim := by have := of_decide_eq_true h2; omega
      have e : IntKind.i64.wrap ((a : Int) + 1) = ((a + 1 : Nat) : Int) := by rw [wrap64] <;> omega
      rw [e]
      refine sel_split (fun h3 => ?_) (fun h3 => ?_)
      · conv => whnf
        have h3 : i ≤ a + 1 := by have := of_decide_eq_true h3; omega
        refine ⟨rfl, ?_, rfl⟩
        have hO : okD (digs s.data.toList a) = true := by
          unfold okD; rw [z2, decide_eq_true h2, decide_eq_true (by omega)]; rfl
        rw [z1, z2, hO]; rfl
      · conv => whnf
        have h3 : ¬ i ≤ a + 1 := by have := of_decide_eq_false h3; omega
        obtain ⟨d, r, hdr⟩ : ∃ d r, digs s.data.toList a = d :: r := by
          cases hq : digs s.data.toList a with
          | nil => rw [hq] at hdl; simp at hdl; omega
          | cons d r => exact ⟨d, r, rfl⟩
        obtain ⟨d', hd'⟩ : ∃ b, s.data.toList[a]? = some b := by
          cases hq : s.data.toList[a]? with
          | some b => exact ⟨b, rfl⟩
          | none =>
            exfalso
            have := digs_stop (l := s.data.toList) (i := a) (fun b hb => by rw [hq] at hb; cases hb)
            rw [this] at hdr; cases hdr
        have : d' = d := by
          unfold digs at hdr
          rw [drop_cons hd', List.takeWhile_cons] at hdr
          split at hdr
          · injection hdr
          · cases hdr
        subst this
        refine ⟨d', ⟨by omega, hd'⟩, ?_⟩
        conv => whnf
        refine ⟨rfl, ?_, rfl⟩
        have hO : okD (digs s.data.toList a) = !((d'.toNat : Int) == 48) := by
          unfold okD; rw [z2, decide_eq_true h2, decide_eq_false (by omega), hdr]
          simp only [Bool.true_and, Bool.false_or]
          by_cases h : d'.toNat = 48
          · rw [decide_eq_false (by simp [h]), h]; rfl
          · rw [decide_eq_true h]
            have : ((d'.toNat : Int) == 48) = false := by simp; omega
            rw [this]; rfl
        rw [z1, z2, hO]; rfl
    · conv => whnf
      have h2 : ¬ n ≤ lim := by have := of_decide_eq_false h2; omega
      refine ⟨rfl, ?_, rfl⟩
      have hO : okD (digs s.data.toList a) = false := by
        unfold okD; rw [z2, decide_eq_false h2]; rfl
      rw [z1, z2, hO]; rfl
end Tree.X02
