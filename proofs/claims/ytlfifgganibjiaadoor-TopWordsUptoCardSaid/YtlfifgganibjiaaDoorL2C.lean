/- Layer 2: digits and their number. -/
import Derived.Test.YtlfifgganibjiaaDoorL2B
set_option autoImplicit false
set_option linter.unusedVariables false
set_option linter.unusedSimpArgs false
namespace Tree.X02
open Go
set_option maxHeartbeats 4000000
set_option maxRecDepth 100000
def lim : Nat := 1099511627776
/-- Digits as a number, reckoned until it is too great. -/
def capV : Nat → List UInt8 → Nat
  | n, [] => n
  | n, c :: r => capV (if n ≤ lim then n * 10 + (c.toNat - 48) else n) r
def okD (l : List UInt8) : Bool := decide (capV 0 l ≤ lim) && (decide (l.length ≤ 1) || (match l with | c :: _ => decide (c.toNat ≠ 48) | [] => true))
def digs (l : List UInt8) (a : Nat) : List UInt8 := (l.drop a).takeWhile dig
theorem capV_big : ∀ (l : List UInt8) (n : Nat), lim < n → capV n l = n
  | [], n, _ => rfl
  | c :: r, n, h => by rw [capV, if_neg (by omega)]; exact capV_big r n h
theorem parse_big : ∀ (l : List UInt8) (acc : Nat), (∀ c ∈ l, dig c = true) → lim < acc → (∃ u, Lib.parseUint10 acc l = .ok u ∧ lim < u) ∨ Lib.parseUint10 acc l = .range
  | [], acc, _, h => .inl ⟨acc, rfl, h⟩
  | c :: r, acc, hd, h => by
    have hc := dig_iff.1 (hd c (List.mem_cons_self ..))
    rw [Lib.parseUint10, if_pos hc]
    split
    · exact .inr rfl
    · split
      · exact .inr rfl
      · exact parse_big r _ (fun d hd' => hd d (List.mem_cons_of_mem _ hd')) (by omega)
theorem parse_cap : ∀ (l : List UInt8) (acc : Nat), (∀ c ∈ l, dig c = true) → acc ≤ lim → (∃ u, Lib.parseUint10 acc l = .ok u ∧ (u ≤ lim ↔ capV acc l ≤ lim) ∧ (u ≤ lim → u = capV acc l)) ∨ (Lib.parseUint10 acc l = .range ∧ lim < capV acc l)
  | [], acc, _, h => .inl ⟨acc, rfl, Iff.rfl, fun _ => rfl⟩
  | c :: r, acc, hd, h => by
    have hc := dig_iff.1 (hd c (List.mem_cons_self ..))
    have hl : lim = 1099511627776 := rfl
    rw [Lib.parseUint10, if_pos hc, if_neg (by omega), if_neg (by omega), capV, if_pos h]
    by_cases h2 : acc * 10 + (c.toNat - 48) ≤ lim
    · exact parse_cap r _ (fun d hd' => hd d (List.mem_cons_of_mem _ hd')) h2
    · rw [capV_big r _ (by omega)]
      rcases parse_big r (acc * 10 + (c.toNat - 48)) (fun d hd' => hd d (List.mem_cons_of_mem _ hd')) (by omega) with ⟨u, h3, h4⟩ | h3
      · exact .inl ⟨u, h3, by omega, fun h => by omega⟩
      · exact .inr ⟨h3, by omega⟩
theorem num_ok (s : ByteArray) (hs : s.size ≤ 281474976710656) (hne : s.data.toList ≠ []) (hd : ∀ c ∈ s.data.toList, dig c = true) : ∃ n : Int, (okD s.data.toList = true → n = (capV 0 s.data.toList : Int)) ∧ ∀ ob pb, Gives env2 353 [.str s] ob pb (.tup [.int .i64 n, .bool (okD s.data.toList)], ob) := by
  have hl : lim = 1099511627776 := rfl
  have hsz : s.size = s.data.toList.length := (len_eq s).symm
  have key : ∃ n : Int, (okD s.data.toList = true → n = (capV 0 s.data.toList : Int)) ∧ numF0 s = some (.tup [.int .i64 n, .bool (okD s.data.toList)]) := by
    unfold numF0
    rw [hsz]
    generalize s.data.toList = l at hne hd ⊢
    cases l with
    | nil => exact absurd rfl hne
    | cons c r =>
      have hc := dig_iff.1 (hd c (List.mem_cons_self ..))
      have ha : Lib.atoiAll (c :: r) = (match Lib.parseUint10 0 (c :: r) with | .syntax => .syntax | .range => .range | .ok u => if 9223372036854775808 ≤ u then .range else .ok (u : Int)) := by
        unfold Lib.atoiAll
        have e1 : ¬ (c.toNat = 43 ∨ c.toNat = 45) := by omega
        have e2 : ¬ c.toNat = 45 := by omega
        simp only [if_neg e1, Lib.parseMag, List.cons_ne_nil, if_false]
        cases Lib.parseUint10 0 (c :: r) with
        | «syntax» => rfl
        | range => rfl
        | ok u => simp only [e2, not_false_eq_true, true_and, false_and, if_false]
      rw [ha]
      have hok : ∀ b : Bool, (b = decide (capV 0 (c :: r) ≤ lim)) → (b && ((c :: r).length == 1 || c != 48)) = okD (c :: r) := by
        intro b hb
        unfold okD
        rw [hb]
        have e3 : ((c :: r).length == 1) = decide ((c :: r).length ≤ 1) := by
          cases r with
          | nil => rfl
          | cons d r => simp
        have e4 : (c != 48) = decide (c.toNat ≠ 48) := by
          by_cases h : c = 48
          · subst h; rfl
          · have : c.toNat ≠ 48 := fun h' => h (UInt8.toNat_inj.1 h')
            rw [decide_eq_true this]; simpa using h
        rw [e3, e4]
      rcases parse_cap (c :: r) 0 hd (by omega) with ⟨u, h1, h2, h3⟩ | ⟨h1, h2⟩
      · rw [h1]
        simp only
        by_cases hu : 9223372036854775808 ≤ u
        · rw [if_pos hu]
          have hf : okD (c :: r) = false := by
            unfold okD
            rw [decide_eq_false (by omega)]; rfl
          exact ⟨Lib.atoiSat (c :: r), fun h => absurd h (by rw [hf]; simp), by rw [hf]⟩
        · rw [if_neg hu]
          have := hok (decide ((u : Int) ≤ 1099511627776)) (by
            by_cases h : u ≤ lim
            · rw [decide_eq_true (by omega), decide_eq_true (h2.1 h)]
            · rw [decide_eq_false (by omega), decide_eq_false (fun h' => h (h2.2 h'))])
          refine ⟨u, fun h => ?_, ?_⟩
          · have : capV 0 (c :: r) ≤ lim := by
              unfold okD at h
              simp only [Bool.and_eq_true, decide_eq_true_eq] at h
              exact h.1
            rw [h3 (h2.2 this)]
          · rw [← this]
      · rw [h1]
        have hf : okD (c :: r) = false := by
          unfold okD
          rw [decide_eq_false (by omega)]; rfl
        exact ⟨Lib.atoiSat (c :: r), fun h => absurd h (by rw [hf]; simp), by rw [hf]⟩
  obtain ⟨n, h1, h2⟩ := key
  refine ⟨n, h1, fun ob pb => gives_ext (F := numF) rfl ?_⟩
  show (if s.size ≤ 281474976710656 then numF0 s else none) = _
  rw [if_pos hs, h2]
end Tree.X02
