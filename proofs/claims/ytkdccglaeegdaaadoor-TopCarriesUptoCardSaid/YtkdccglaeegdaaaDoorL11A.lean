/- Layer 11: amounts of credit, which are right. -/
import Derived.Test.YtkdccglaeegdaaaDoorL11V
set_option autoImplicit false
set_option linter.unusedVariables false
set_option linter.unusedSimpArgs false
namespace Tree.W11
open Go
set_option maxHeartbeats 8000000
set_option maxRecDepth 100000
def zr (n : Int) : List LV := [.int .i64 n]
/-- Rising bits, from one on. -/
def upTo : Int → List Int → Prop
  | _, [] => True
  | l, b :: r => l < b ∧ b ≤ 1048576 ∧ upTo b r
def AmtOk (w : Int) (bits : List Int) : Prop := (0 ≤ w ∧ w ≤ 2147483647) ∧ upTo 0 bits
def lastOf : Int → List Int → Int
  | l, [] => l
  | _, b :: r => lastOf b r
theorem lastOf_snoc (l b : Int) : ∀ bs : List Int, lastOf l (bs ++ [b]) = b
  | [] => rfl
  | c :: bs => lastOf_snoc c b bs
theorem lastOf_any : ∀ (l : Int) (a : List Int) (b : Int), lastOf l (a ++ [b]) = b := fun l a b => lastOf_snoc l b a
theorem upTo_app : ∀ (l : Int) (a b : List Int), upTo l (a ++ b) ↔ upTo l a ∧ upTo (lastOf l a) b
  | l, [], b => by simp [upTo, lastOf]
  | l, x :: a, b => by
    have := upTo_app x a b
    simp only [List.cons_append, upTo, lastOf, this]
    exact ⟨fun ⟨h1, h2, h3, h4⟩ => ⟨⟨h1, h2, h3⟩, h4⟩, fun ⟨⟨h1, h2, h3⟩, h4⟩ => ⟨h1, h2, h3, h4⟩⟩
theorem rightAmount_ok (w : Int) (bits : List Int) (lab : Nat) (sp : List (List LV)) (hl : bits.length ≤ 4611686018427387904) (ob : Obs) (pb : Nat) (r : Bool) (hr : r = true ↔ AmtOk w bits) : Gives env11 521 [.agg [.int .i64 w, .sl false lab 1 (bits.map zr) sp]] ob pb (.bool r, ob) := by
  have hlen : (bits.map zr).length = bits.length := by simp
  have hz : ∀ {i : Nat} {b : Int}, bits[i]? = some b → (bits.map zr)[i]? = some [.int .i64 b] := fun h => by rw [List.getElem?_map, h]; rfl
  refine gives_code (f := tf521) rfl ?_
  conv => whnf
  refine loop_v (V := fun i : Nat => [(3, .int .i64 (lastOf 0 (bits.take i))), (9, .int .i64 i)]) (O := fun _ => ob) (m := fun i => bits.length - i) (P := fun i => i ≤ bits.length ∧ upTo 0 (bits.take i)) ?_ 0 ⟨Nat.zero_le _, trivial⟩ rfl
  rintro R i ⟨hi, hP⟩ hN hE hR
  conv => whnf
  refine sel_split (fun h => ?_) (fun h => ?_)
  · conv => whnf
    have h := of_decide_eq_true h
    rw [hlen] at h
    obtain ⟨b, hb⟩ : ∃ b, bits[i]? = some b := ⟨_, List.getElem?_eq_getElem (show i < bits.length by omega)⟩
    have e : IntKind.i64.wrap ((i : Int) + 1) = ((i + 1 : Nat) : Int) := by rw [wrap64] <;> omega
    have ht : bits.take (i + 1) = bits.take i ++ [b] := by rw [List.take_add_one, hb]; rfl
    have hbad : ¬ (lastOf 0 (bits.take i) < b ∧ b ≤ 1048576) → LV.bool false = LV.bool r := fun hn => bool_of hr ⟨fun e => (nomatch e), fun h => by
      have h2 := h.2
      rw [← List.take_append_drop (i + 1) bits, ht, upTo_app, upTo_app] at h2
      exact absurd ⟨h2.1.2.1, h2.1.2.2.1⟩ hn⟩
    refine ⟨_, ⟨by omega, hz hb⟩, ?_⟩
    conv => whnf
    refine sel_split (fun h1 => ?_) (fun h1 => ?_)
    · conv => whnf
      have h1 := of_decide_eq_true h1
      refine hR _ ?_
      conv => whnf
      exact ⟨rfl, hbad (by omega), rfl⟩
    · conv => whnf
      have h1 := of_decide_eq_false h1
      refine sel_split (fun h2 => ?_) (fun h2 => ?_)
      · conv => whnf
        have h2 := of_decide_eq_true h2
        refine hR _ ?_
        conv => whnf
        exact ⟨rfl, hbad (by omega), rfl⟩
      · conv => whnf
        have h2 := of_decide_eq_false h2
        refine hN (i + 1) _ ⟨by omega, ?_⟩ (by omega) ?_
        · rw [ht, upTo_app]; exact ⟨hP, by omega, by omega, trivial⟩
        · rw [ht, lastOf_any, ← e]; rfl
  · conv => whnf
    have h := of_decide_eq_false h
    rw [hlen] at h
    have : i = bits.length := by omega
    subst this
    rw [List.take_length] at hP
    refine hE _ _ ?_
    conv => whnf
    repeat' (refine sel_split (fun _ => ?_) (fun _ => ?_) <;> conv => whnf)
    all_goals
      refine ⟨rfl, bool_of hr ?_, rfl⟩
      unfold AmtOk
      simp only [decide_eq_true_eq, decide_eq_false_iff_not] at *
      simp [hP]
      try omega
end Tree.W11
