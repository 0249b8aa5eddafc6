/- Layer 2: bytes, spans, blanks. -/
import Derived.Test.YtlfifgganibjiaaDoorL2Env
import Derived.Test.YtlfifgganibjiaaDoorTW
import Derived.Laws.Strings
set_option autoImplicit false
set_option linter.unusedVariables false
set_option linter.unusedSimpArgs false
namespace Tree.X02
open Go
set_option maxHeartbeats 4000000
set_option maxRecDepth 100000
def dig (b : UInt8) : Bool := decide (48 ≤ b.toNat ∧ b.toNat ≤ 57)
def cap (b : UInt8) : Bool := decide ((65 ≤ b.toNat ∧ b.toNat ≤ 90) ∨ b.toNat = 95)
def sml (b : UInt8) : Bool := decide (97 ≤ b.toNat ∧ b.toNat ≤ 122)
def wrd (b : UInt8) : Bool := sml b || cap b || dig b
def lne (b : UInt8) : Bool := decide (b.toNat ≠ 10)
theorem dig_iff {b : UInt8} : dig b = true ↔ 48 ≤ b.toNat ∧ b.toNat ≤ 57 := by simp [dig]
theorem cap_iff {b : UInt8} : cap b = true ↔ (65 ≤ b.toNat ∧ b.toNat ≤ 90) ∨ b.toNat = 95 := by simp [cap]
theorem sml_iff {b : UInt8} : sml b = true ↔ 97 ≤ b.toNat ∧ b.toNat ≤ 122 := by simp [sml]
theorem lne_iff {b : UInt8} : lne b = true ↔ b.toNat ≠ 10 := by simp [lne]
theorem bool_of {a r : Bool} {P : Prop} (hr : r = true ↔ P) (h : a = true ↔ P) : LV.bool a = LV.bool r := by
  congr 1; cases a <;> cases r <;> simp_all
theorem dig_ok (b : UInt8) (ob : Obs) (pb : Nat) : Gives env2 348 [.int .u8 b.toNat] ob pb (.bool (dig b), ob) := by
  refine gives_code (f := tf348) rfl ?_
  conv => whnf
  repeat' (refine sel_split (fun _ => ?_) (fun _ => ?_) <;> (conv => whnf))
  all_goals (refine ⟨rfl, bool_of dig_iff ?_, rfl⟩; simp at *; omega)
theorem cap_ok (b : UInt8) (ob : Obs) (pb : Nat) : Gives env2 349 [.int .u8 b.toNat] ob pb (.bool (cap b), ob) := by
  refine gives_code (f := tf349) rfl ?_
  conv => whnf
  repeat' (refine sel_split (fun _ => ?_) (fun _ => ?_) <;> (conv => whnf))
  all_goals (refine ⟨rfl, bool_of cap_iff ?_, rfl⟩; simp at *; omega)
theorem sml_ok (b : UInt8) (ob : Obs) (pb : Nat) : Gives env2 350 [.int .u8 b.toNat] ob pb (.bool (sml b), ob) := by
  refine gives_code (f := tf350) rfl ?_
  conv => whnf
  repeat' (refine sel_split (fun _ => ?_) (fun _ => ?_) <;> (conv => whnf))
  all_goals (refine ⟨rfl, bool_of sml_iff ?_, rfl⟩; simp at *; omega)
theorem lne_ok (b : UInt8) (ob : Obs) (pb : Nat) : Gives env2 367 [.int .u8 b.toNat] ob pb (.bool (lne b), ob) := by
  refine gives_code (f := tf367) rfl ?_
  conv => whnf
  refine ⟨rfl, bool_of lne_iff ?_, rfl⟩
  simp; omega
theorem wrd_ok (b : UInt8) (ob : Obs) (pb : Nat) : Gives env2 354 [.int .u8 b.toNat] ob pb (.bool (wrd b), ob) := by
  have h1 := fun ob pb => sml_ok b ob pb
  have h2 := fun ob pb => cap_ok b ob pb
  have h3 := fun ob pb => dig_ok b ob pb
  unfold wrd
  generalize sml b = x at h1 ⊢
  generalize cap b = y at h2 ⊢
  generalize dig b = z at h3 ⊢
  refine gives_code (f := tf354) rfl ?_
  conv => whnf
  refine ⟨_, _, h1 _ _, fun _ => rfl, ?_⟩
  cases x with
  | true => conv => whnf
            exact ⟨rfl, rfl, rfl⟩
  | false =>
    conv => whnf
    refine ⟨_, _, h2 _ _, fun _ => rfl, ?_⟩
    cases y with
    | true => conv => whnf
              exact ⟨rfl, rfl, rfl⟩
    | false =>
      conv => whnf
      refine ⟨_, _, h3 _ _, fun _ => rfl, ?_⟩
      conv => whnf
      exact ⟨rfl, rfl, rfl⟩
/-- The place behind the bytes of a kind from a place on. -/
def spanL (p : UInt8 → Bool) (l : List UInt8) (i : Nat) : Nat := i + ((l.drop i).takeWhile p).length
theorem span_step {p : UInt8 → Bool} {l : List UInt8} {i : Nat} {b : UInt8} (h : l[i]? = some b) (hp : p b = true) : spanL p l i = spanL p l (i + 1) := by
  unfold spanL
  have hi := (List.getElem?_eq_some_iff.1 h).1
  have e : l.drop i = b :: l.drop (i + 1) := by rw [List.drop_eq_getElem_cons hi, (List.getElem?_eq_some_iff.1 h).2]
  rw [e, List.takeWhile_cons, if_pos hp, List.length_cons]; omega
theorem span_stop {p : UInt8 → Bool} {l : List UInt8} {i : Nat} (h : ∀ b, l[i]? = some b → p b = false) : spanL p l i = i := by
  unfold spanL
  by_cases hi : i < l.length
  · have e : l.drop i = l[i] :: l.drop (i + 1) := List.drop_eq_getElem_cons hi
    rw [e, List.takeWhile_cons, if_neg (by rw [h _ (List.getElem?_eq_getElem hi)]; simp)]; rfl
  · rw [List.drop_of_length_le (by omega)]; rfl
theorem span_le {p : UInt8 → Bool} {l : List UInt8} {i : Nat} : i ≤ spanL p l i ∧ (i ≤ l.length → spanL p l i ≤ l.length) := by
  unfold spanL
  have := (List.takeWhile_sublist (l := l.drop i) p).length_le
  rw [List.length_drop] at this
  omega
theorem len_eq (s : ByteArray) : s.data.toList.length = s.size := Array.length_toList
theorem span_ok (g : Nat) (p : UInt8 → Bool) (hg : ∀ (b : UInt8) (ob : Obs) (pb : Nat), Gives env2 g [.int .u8 b.toNat] ob pb (.bool (p b), ob)) (s : ByteArray) (hs : s.size ≤ 4611686018427387904) (a : Nat) (ob : Obs) (pb : Nat) : Gives env2 352 [.str s, .int .i64 a, .fn g []] ob pb (.int .i64 (spanL p s.data.toList a), ob) := by
  have hlen := len_eq s
  refine gives_code (f := tf352) rfl ?_
  conv => whnf
  refine loop_v (V := fun i : Nat => [(1, .int .i64 i)]) (O := fun _ => ob) (m := fun i => s.size - i) (P := fun i => spanL p s.data.toList a = spanL p s.data.toList i) ?_ a rfl rfl
  intro R i hi hN hE hR
  conv => whnf
  refine sel_split (fun h => ?_) (fun h => ?_)
  · conv => whnf
    have h := of_decide_eq_true h
    obtain ⟨b, hb⟩ : ∃ b, s.data.toList[i]? = some b := ⟨_, List.getElem?_eq_getElem (show i < s.data.toList.length by omega)⟩
    have e : IntKind.i64.wrap ((i : Int) + 1) = ((i + 1 : Nat) : Int) := by rw [wrap64] <;> omega
    refine ⟨b, ⟨by omega, hb⟩, ?_⟩
    conv => whnf
    refine ⟨_, _, hg b _ _, fun _ => rfl, ?_⟩
    cases hp : p b with
    | true =>
      conv => whnf
      refine hN (i + 1) _ (by rw [hi]; exact span_step hb hp) (by omega) ?_
      rw [← e]; rfl
    | false =>
      conv => whnf
      refine hE _ _ ?_
      conv => whnf
      rw [hi, span_stop (fun c hc => by rw [hb] at hc; cases hc; exact hp)]
      exact ⟨rfl, rfl, rfl⟩
  · conv => whnf
    have h := of_decide_eq_false h
    refine hE _ _ ?_
    conv => whnf
    rw [hi, span_stop (fun c hc => by have := (List.getElem?_eq_some_iff.1 hc).1; omega)]
    exact ⟨rfl, rfl, rfl⟩
end Tree.X02
