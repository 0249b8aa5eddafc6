/- Layer 11: amounts of credit as bytes. -/
import Derived.Test.YtkdccglaeegdaaaDoorL11A
import Derived.Test.YtkdccglaeegdaaaDoorL11U
set_option autoImplicit false
set_option linter.unusedVariables false
set_option linter.unusedSimpArgs false
namespace Tree.W11
open Go
set_option maxHeartbeats 8000000
set_option maxRecDepth 100000
def difB : Int → List Int → List Int
  | _, [] => []
  | l, b :: r => numB (b - l).toNat ++ difB b r
theorem difB_app : ∀ (l : Int) (a b : List Int), difB l (a ++ b) = difB l a ++ difB (lastOf l a) b
  | l, [], b => rfl
  | l, x :: a, b => by simp only [List.cons_append, difB, lastOf, difB_app x a b, List.append_assoc]
theorem difB_len : ∀ (l : Int) (a : List Int), 0 ≤ l → upTo l a → (difB l a).length ≤ 10 * a.length
  | l, [], _, _ => by simp [difB]
  | l, x :: a, hl, h => by
    obtain ⟨g1, g2, g3⟩ := h
    have h1 := difB_len x a (by omega) g3
    have h2 := numB_len (x - l).toNat (by omega)
    simp only [difB, List.length_append, List.length_cons]; omega
theorem lastOf_le : ∀ (l : Int) (a : List Int), 0 ≤ l → upTo l a → 0 ≤ lastOf l a
  | l, [], hl, _ => hl
  | l, x :: a, hl, h => lastOf_le x a (by have := h.1; omega) h.2.2
def amtB (w : Int) (bits : List Int) : List Int := numB w.toNat ++ numB bits.length ++ difB 0 bits
section
variable {ob : Obs} {id pb : Nat} {bs : List Int} (hob : ob[id]? = some (obW bs)) (hpb : pb ≤ id)
include hob hpb
theorem amount_ok (w : Int) (bits : List Int) (lab : Nat) (sp : List (List LV)) (hA : AmtOk w bits) (hl : bits.length ≤ 1048576) (hb : bs.length ≤ 1073741824) : Gives env11 498 [.optr id 0, .agg [.int .i64 w, .sl false lab 1 (bits.map zr) sp]] ob pb (.tup [], ob.set id (obW (bs ++ amtB w bits))) := by
  have hlen : (bits.map zr).length = bits.length := by simp
  have hz : ∀ {i : Nat} {b : Int}, bits[i]? = some b → (bits.map zr)[i]? = some [.int .i64 b] := fun h => by rw [List.getElem?_map, h]; rfl
  obtain ⟨⟨w1, w2⟩, hU⟩ := hA
  have hid : id < ob.length := (List.getElem?_eq_some_iff.1 hob).1
  have ew : w = ((w.toNat : Nat) : Int) := by omega
  have n1 := numB_len w.toNat (by omega)
  have n2 := numB_len bits.length (by omega)
  have g1 := number_ok hob hpb w.toNat (by omega) (by omega)
  rw [← ew] at g1
  have hob2 : (ob.set id (obW (bs ++ numB w.toNat)))[id]? = some (obW (bs ++ numB w.toNat)) := at_set hid
  have g2 := number_ok hob2 hpb bits.length (by omega) (by rw [List.length_append]; omega)
  rw [← hlen] at g2
  refine gives_code (f := tf498) rfl ?_
  conv => whnf
  refine ⟨_, _, g1, fun e => (nomatch e), ?_⟩
  conv => whnf
  refine ⟨_, _, g2, fun e => (nomatch e), ?_⟩
  rw [hlen]
  conv => whnf
  refine loop_v (V := fun i : Nat × Obs => [(4, .int .i64 (lastOf 0 (bits.take i.1))), (19, .int .i64 i.1)]) (O := fun i => i.2) (m := fun i => bits.length - i.1) (P := fun i => i.1 ≤ bits.length ∧ i.2 = ob.set id (obW (bs ++ (numB w.toNat ++ numB bits.length ++ difB 0 (bits.take i.1))))) ?_ (0, (ob.set id (obW (bs ++ numB w.toNat))).set id (obW (bs ++ numB w.toNat ++ numB bits.length))) ⟨Nat.zero_le _, by rw [List.take_zero, show difB 0 [] = [] from rfl, List.append_nil, List.set_set, List.append_assoc]⟩ rfl
  rintro R ⟨i, O⟩ ⟨hi, hO⟩ hN hE hR
  dsimp only at hi hO
  have hsplit := List.take_append_drop i bits
  have hU1 : upTo 0 (bits.take i) := by rw [← hsplit, upTo_app] at hU; exact hU.1
  have hdl := difB_len 0 (bits.take i) (Int.le_refl _) hU1
  have hlast := lastOf_le 0 (bits.take i) (Int.le_refl _) hU1
  rw [List.length_take] at hdl
  obtain ⟨pre, hpre⟩ : ∃ pre, bs ++ (numB w.toNat ++ numB bits.length ++ difB 0 (bits.take i)) = pre := ⟨_, rfl⟩
  rw [hpre] at hO
  have hpl : pre.length ≤ 1084227604 := by rw [← hpre]; simp only [List.length_append]; omega
  have hOb : O[id]? = some (obW pre) := by rw [hO]; exact at_set hid
  conv => whnf
  refine sel_split (fun h => ?_) (fun h => ?_)
  · conv => whnf
    have h := of_decide_eq_true h
    rw [hlen] at h
    obtain ⟨b, hb⟩ : ∃ b, bits[i]? = some b := ⟨_, List.getElem?_eq_getElem (show i < bits.length by omega)⟩
    have e : IntKind.i64.wrap ((i : Int) + 1) = ((i + 1 : Nat) : Int) := by rw [wrap64] <;> omega
    have ht : bits.take (i + 1) = bits.take i ++ [b] := by rw [List.take_add_one, hb]; rfl
    have hU2 : upTo 0 (bits.take (i + 1)) := by
      have := List.take_append_drop (i + 1) bits
      rw [← this, upTo_app] at hU; exact hU.1
    rw [ht, upTo_app] at hU2
    have hb1 := hU2.2.1
    have hb2 := hU2.2.2.1
    have ed : IntKind.i64.wrap (b - lastOf 0 (bits.take i)) = (((b - lastOf 0 (bits.take i)).toNat : Nat) : Int) := by rw [wrap64] <;> omega
    have hnext : ob.set id (obW (bs ++ (numB w.toNat ++ numB bits.length ++ difB 0 (bits.take (i + 1))))) = O.set id (obW (pre ++ numB (b - lastOf 0 (bits.take i)).toNat)) := by
      rw [ht, difB_app, hO, List.set_set, ← hpre]; simp [difB]
    refine ⟨_, ⟨by omega, hz hb⟩, ?_⟩
    conv => whnf
    rw [ed]
    refine ⟨_, _, number_ok hOb hpb (b - lastOf 0 (bits.take i)).toNat (by omega) (by omega), fun e => (nomatch e), ?_⟩
    conv => whnf
    refine hN (i + 1, ?zO) _ ⟨by dsimp only; omega, ?zP⟩ (by dsimp only; omega) ?zE
    case zE => dsimp only; rw [ht, lastOf_any, ← e]; rfl
    case zP => dsimp only; rw [hnext]
  · conv => whnf
    have h := of_decide_eq_false h
    rw [hlen] at h
    have : i = bits.length := by omega
    subst this
    refine hE _ _ ?_
    rw [List.take_length] at hpre
    conv => whnf
    refine ⟨rfl, rfl, ?_⟩
    show O = _
    rw [hO, ← hpre]; rfl
end
end Tree.W11
