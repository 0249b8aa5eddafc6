/- TopWords: lex.number, walked over the library's contract of strconv.Atoi. -/
import Derived.Test.YtlfifgganibjiaaDoorLWLay
import Derived.Shelf.Strconv.AtoiAll
import Derived.Lib.AtoiAll
import Derived.WalkKit
import Derived.BigCall
import Derived.BigQuiet
import Derived.Deep.QuietTactic
set_option autoImplicit false
set_option linter.unusedVariables false
set_option linter.unusedSimpArgs false
namespace Tree
open Go Go.RowKit Go.Proofs
set_option maxRecDepth 100000
theorem number_range (s : ByteArray) (hs : s.size ≤ 281474976710656) (h : Lib.atoiAll s.data.toList = .range) (tp : TypeId) (p : Value) (w : World) (hv : w.cell? ⟨2, 0, none⟩ = some (.iface tp p)) :
    Calls Tryd.prog 29 #[.string s] w fun e w' => e = .returned (.tuple #[.int .i64 (Lib.atoiSat s.data.toList), .bool false]) ∧ Below w.heap.size w w' := by
  have hc := Any.strconv_Atoi_range Tryd.atoiT s hs h (.iface tp p) w hv (.inr ⟨tp, p, rfl⟩)
  generalize Lib.atoiSat s.data.toList = sat at hc ⊢
  clear h
  go_enter Tryd.func29, Tryd.ntmps29
  go_wp2_with (go_at_call 36; refine hc.mono ?_)
  rintro e W1 ⟨N, rfl, -, -, hb⟩
  go_wp2_with fail
  go_quiet (fail)
  go_wp2
  go_ret2
  exact ⟨rfl, hb.trans ⟨rfl, rfl, rfl, Nat.le_refl _, fun _ _ => rfl⟩⟩
theorem number_ok (s : ByteArray) (hs : s.size ≤ 281474976710656) (v : Int) (h : Lib.atoiAll s.data.toList = .ok v) (w : World) :
    Calls Tryd.prog 29 #[.string s] w fun e w' => e = .returned (.tuple #[.int .i64 v, .bool (decide (v ≤ 1099511627776) && (s.size == 1 || (match s.data.toList with | c :: _ => c != 48 | [] => false)))]) ∧ Below w.heap.size w w' := by
  have hc := Any.strconv_Atoi_ok Tryd.atoiT s (by omega) v h w
  have hbw : ∀ w', (w' = w ∨ ∃ t, w' = Lib.bytesWorld w (Tryd.atoiT_ren.t 5) t) → Below w.heap.size w w' := by
    rintro w' (rfl | ⟨t, rfl⟩)
    · exact Below.refl _ _
    · exact Lib.bytesWorld_below _ _ _
  obtain ⟨c, r, hcr⟩ : ∃ c r, s.data.toList = c :: r := by
    cases hq : s.data.toList with
    | nil => rw [hq] at h; cases h
    | cons c r => exact ⟨c, r, rfl⟩
  have hpos0 : 0 < s.size := by
    have h : s.data.toList.length = s.size := Array.length_toList
    rw [← h, hcr]; simp
  have h0 : s[0]? = some c := by
    have h1 : s.data.toList[0]? = some c := by rw [hcr]; rfl
    obtain ⟨hlt, hget⟩ := List.getElem?_eq_some_iff.1 h1
    rw [getElem?_pos s 0 hpos0]
    exact congrArg some hget
  clear h
  by_cases hv : v ≤ 1099511627776
  · rw [decide_eq_true hv]
    by_cases h1 : s.size = 1
    · rw [h1]
      have hv : decide (v ≤ 1099511627776) = true := decide_eq_true hv
      have hz : (s.size : Int) = 1 := by omega
      simp only [Bool.true_and, beq_self_eq_true, Bool.true_or]
      clear hcr h0
      go_enter Tryd.func29, Tryd.ntmps29
      go_wp2_with (go_at_call 36; refine hc.mono ?_; rintro e W1 ⟨rfl, hW⟩; have hb := hbw _ hW; clear hW hbw hc)
      go_quiet (fail)
      go_wp2
      go_ret2
      exact ⟨rfl, hb.trans ⟨rfl, rfl, rfl, Nat.le_refl _, fun _ _ => rfl⟩⟩
    · rw [hcr]
      have hv : decide (v ≤ 1099511627776) = true := decide_eq_true hv
      have hz : ((s.size : Int) == 1) = false := by simp; omega
      have hz2 : (s.size == 1) = false := by simp; omega
      have hpos : (0 : Int) < (s.size : Int) := by omega
      simp only [Bool.true_and, hz2, Bool.false_or]
      have hcc : (c != 48) = ((((s[0]'hpos0).toNat : Nat) : Int) != 48) := by
        rw [getElem?_pos s 0 hpos0] at h0
        injection h0 with h0
        rw [h0]
        by_cases hx : c = 48
        · subst hx; rfl
        · have h3 : c.toNat ≠ 48 := fun h' => hx (UInt8.toNat_inj.1 h')
          have h4 : ((c.toNat : Int) != 48) = true := by simp; omega
          rw [h4]; simpa using hx
      rw [hcc]
      clear hcr hz2 hcc
      go_enter Tryd.func29, Tryd.ntmps29
      go_wp2_with (go_at_call 36; refine hc.mono ?_; rintro e W1 ⟨rfl, hW⟩; have hb := hbw _ hW; clear hW hbw hc)
      go_quiet (fail)
      go_wp2
      go_ret2
      exact ⟨rfl, hb.trans ⟨rfl, rfl, rfl, Nat.le_refl _, fun _ _ => rfl⟩⟩
  · rw [decide_eq_false hv]
    have hv : decide (v ≤ 1099511627776) = false := decide_eq_false hv
    simp only [Bool.false_and]
    clear hcr h0
    go_enter Tryd.func29, Tryd.ntmps29
    go_wp2_with (go_at_call 36; refine hc.mono ?_; rintro e W1 ⟨rfl, hW⟩; have hb := hbw _ hW; clear hW hbw hc)
    go_quiet (fail)
    go_wp2
    go_ret2
    exact ⟨rfl, hb.trans ⟨rfl, rfl, rfl, Nat.le_refl _, fun _ _ => rfl⟩⟩
end Tree
