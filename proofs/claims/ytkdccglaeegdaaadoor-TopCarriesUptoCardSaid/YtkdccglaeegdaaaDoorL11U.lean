/- Layer 11: terms as bytes. -/
import Derived.Test.YtkdccglaeegdaaaDoorTLv
import Derived.Test.YtkdccglaeegdaaaDoorTLa
set_option autoImplicit false
set_option linter.unusedVariables false
set_option linter.unusedSimpArgs false
namespace Tree.W11
open Go
set_option maxHeartbeats 8000000
set_option maxRecDepth 100000
def zig (n : Int) : Nat := if 0 ≤ n then (2 * n).toNat else (-2 * n - 1).toNat
def restB (c : C) : List Int := if c.k = 1 then numB (zig c.n) else if c.k = 2 then strB c.text else if c.k = 3 then strB c.text ++ [IntKind.u8.wrap c.n] else if c.k = 4 then nameB c.node c.num else []
def cellB (c : C) : List Int := c.k :: restB c
def termB (cs : List C) : List Int := numB cs.length ++ cs.flatMap cellB
/-- Cells that may be written. -/
def Cok (c : C) : Prop := c.text.size ≤ 1000 ∧ (c.k = 1 → -2147483648 ≤ c.n ∧ c.n ≤ 2147483648) ∧ (c.k = 4 → 0 ≤ c.num ∧ c.num < 9223372036854775808)
theorem flat_take (cs : List C) (i : Nat) (c : C) (h : cs[i]? = some c) : (cs.take (i + 1)).flatMap cellB = (cs.take i).flatMap cellB ++ cellB c := by
  rw [List.take_add_one, h, List.flatMap_append]; simp
theorem flat_le (cs : List C) (i : Nat) : ((cs.take i).flatMap cellB).length ≤ (cs.flatMap cellB).length := by
  have := congrArg (fun l => (l.flatMap cellB).length) (List.take_append_drop i cs)
  simp only [List.flatMap_append, List.length_append] at this
  omega
theorem at_set {ob : Obs} {id : Nat} {v : List LV} (h : id < ob.length) : (ob.set id v)[id]? = some v := by
  rw [List.getElem?_set_self h]
section
variable {ob : Obs} {id pb : Nat} {bs : List Int} (hob : ob[id]? = some (obW bs)) (hpb : pb ≤ id)
include hob hpb
theorem term_ok (cs : List C) (lab : Nat) (sp : List (List LV)) (hl : cs.length ≤ 1048576) (hc : ∀ c ∈ cs, Cok c) (hT : (cs.flatMap cellB).length ≤ 1073741824) (hb : bs.length ≤ 1048576) : Gives env11 496 [.optr id 0, .sl false lab 5 (cs.map C.row) sp] ob pb (.tup [], ob.set id (obW (bs ++ termB cs))) := by
  have hlen : (cs.map C.row).length = cs.length := by simp
  have hnl := numB_len cs.length (by omega)
  have hid : id < ob.length := (List.getElem?_eq_some_iff.1 hob).1
  refine gives_code (f := tf496) rfl ?_
  conv => whnf
  have g := number_ok hob hpb cs.length (by omega) (by omega)
  rw [← hlen] at g
  refine ⟨_, _, g, fun e => (nomatch e), ?_⟩
  rw [hlen]
  conv => whnf
  refine loop_v (V := fun i : Nat × Obs => [(12, .int .i64 i.1)]) (O := fun i => i.2) (m := fun i => cs.length - i.1) (P := fun i => i.1 ≤ cs.length ∧ i.2 = ob.set id (obW (bs ++ (numB cs.length ++ (cs.take i.1).flatMap cellB)))) ?_ (0, ob.set id (obW (bs ++ numB cs.length))) ⟨Nat.zero_le _, by rw [List.take_zero, List.flatMap_nil, List.append_nil]⟩ rfl
  rintro R ⟨i, O⟩ ⟨hi, hO⟩ hN hE hR
  dsimp only at hi hO
  have hle := flat_le cs i
  obtain ⟨pre, hpre⟩ : ∃ pre, bs ++ (numB cs.length ++ (cs.take i).flatMap cellB) = pre := ⟨_, rfl⟩
  rw [hpre] at hO
  have hpl : pre.length ≤ 1074790410 := by rw [← hpre, List.length_append, List.length_append]; omega
  have hOl : id < O.length := by rw [hO, List.length_set]; exact hid
  have hOb : O[id]? = some (obW pre) := by rw [hO]; exact at_set hid
  conv => whnf
  refine sel_split (fun h => ?_) (fun h => ?_)
  · conv => whnf
    have h := of_decide_eq_true h
    rw [hlen] at h
    obtain ⟨c, hq⟩ : ∃ c, cs[i]? = some c := ⟨_, List.getElem?_eq_getElem (show i < cs.length by omega)⟩
    have e : IntKind.i64.wrap ((i : Int) + 1) = ((i + 1 : Nat) : Int) := by rw [wrap64] <;> omega
    have hft := flat_take cs i c hq
    have hok := hc c (List.mem_of_getElem? hq)
    have hnext : ob.set id (obW (bs ++ (numB cs.length ++ (cs.take (i + 1)).flatMap cellB))) = O.set id (obW (pre ++ (c.k :: restB c))) := by
      rw [hft, hO, List.set_set, ← hpre]
      simp only [List.append_assoc]; rfl
    refine ⟨_, ⟨by omega, idx_row hq⟩, ?_⟩
    conv => whnf
    refine ⟨_, _, ⟨hOb, rfl, rfl⟩, ?_⟩
    conv => whnf
    refine ⟨_, _, _, _, ⟨hpb, hOb, rfl⟩, ?_⟩
    conv => whnf
    refine ⟨(pre ++ [c.k]).map brw, ⟨.inl rfl, ?_, by rw [List.map_append]; rfl⟩, ?_⟩
    · show ((pre.map brw).length + 1) * 1 ≤ _
      rw [List.length_map]; omega
    conv => whnf
    refine ⟨_, obW (pre ++ [c.k]), ⟨hpb, at_set hOl, rfl, rfl⟩, ?_⟩
    unfold restB at hnext
    conv => whnf
    refine sel_split (fun h1 => ?_) (fun h1 => ?_)
    · have h1 : c.k = 1 := by simpa using h1
      rw [if_pos h1] at hnext
      obtain ⟨hn1, hn2⟩ := hok.2.1 h1
      have ez := numB_len (zig c.n) (by unfold zig; split <;> omega)
      conv => whnf
      refine sel_split (fun h2 => ?_) (fun h2 => ?_)
      · have h2 : c.n ≥ 0 := of_decide_eq_true h2
        have e1 : IntKind.i64.wrap (2 * c.n) = ((zig c.n : Nat) : Int) := by
          unfold zig; rw [if_pos (by omega), wrap64] <;> omega
        conv => whnf
        rw [e1]
        refine ⟨_, _, number_ok (bs := pre ++ [c.k]) (at_set (by rw [List.length_set]; exact hOl)) hpb (zig c.n) (by unfold zig; split <;> omega) (by simp; omega), fun e => (nomatch e), ?_⟩
        conv => whnf
        refine hN (i + 1, ?nO1) _ ⟨by dsimp only; omega, ?nP1⟩ (by dsimp only; omega) ?nE1
        case nE1 => rw [← e]; rfl
        case nP1 => dsimp only; rw [hnext]; simp only [List.set_set, List.append_assoc]; rfl
      · have h2 : ¬ c.n ≥ 0 := of_decide_eq_false h2
        have e1 : IntKind.i64.wrap (IntKind.i64.wrap (-2 * c.n) - 1) = ((zig c.n : Nat) : Int) := by
          unfold zig; rw [if_neg (by omega), wrap64, wrap64] <;> (try rw [wrap64]) <;> omega
        conv => whnf
        rw [e1]
        refine ⟨_, _, number_ok (bs := pre ++ [c.k]) (at_set (by rw [List.length_set]; exact hOl)) hpb (zig c.n) (by unfold zig; split <;> omega) (by simp; omega), fun e => (nomatch e), ?_⟩
        conv => whnf
        refine hN (i + 1, ?nO2) _ ⟨by dsimp only; omega, ?nP2⟩ (by dsimp only; omega) ?nE2
        case nE2 => rw [← e]; rfl
        case nP2 => dsimp only; rw [hnext]; simp only [List.set_set, List.append_assoc]; rfl

    · have h1 : c.k ≠ 1 := by simpa using h1
      rw [if_neg h1] at hnext
      have hsz := hok.1
      have hst : (strB c.text).length ≤ 1010 := by
        have g1 := numB_len c.text.size (by omega)
        have g2 := bytesI_len c.text
        unfold strB; rw [List.length_append]; omega
      conv => whnf
      refine sel_split (fun h2 => ?_) (fun h2 => ?_)
      · have h2 : c.k = 2 := by simpa using h2
        rw [if_pos h2] at hnext
        conv => whnf
        refine ⟨_, _, text_ok (bs := pre ++ [c.k]) (at_set (by rw [List.length_set]; exact hOl)) hpb c.text (by omega) (by simp; omega), fun e => (nomatch e), ?_⟩
        conv => whnf
        refine hN (i + 1, ?nO3) _ ⟨by dsimp only; omega, ?nP3⟩ (by dsimp only; omega) ?nE3
        case nE3 => rw [← e]; rfl
        case nP3 => dsimp only; rw [hnext]; simp only [List.set_set, List.append_assoc]; rfl

      · have h2 : c.k ≠ 2 := by simpa using h2
        rw [if_neg h2] at hnext
        conv => whnf
        refine sel_split (fun h3 => ?_) (fun h3 => ?_)
        · have h3 : c.k = 3 := by simpa using h3
          rw [if_pos h3] at hnext
          conv => whnf
          refine ⟨_, _, text_ok (bs := pre ++ [c.k]) (at_set (by rw [List.length_set]; exact hOl)) hpb c.text (by omega) (by simp; omega), fun e => (nomatch e), ?_⟩
          conv => whnf
          refine ⟨_, _, ⟨at_set (by simp only [List.length_set]; exact hOl), rfl, rfl⟩, ?_⟩
          conv => whnf
          refine ⟨_, _, _, _, ⟨hpb, at_set (by simp only [List.length_set]; exact hOl), rfl⟩, ?_⟩
          conv => whnf
          refine ⟨(pre ++ [c.k] ++ strB c.text ++ [IntKind.u8.wrap c.n]).map brw, ⟨.inl rfl, ?_, by rw [List.map_append (l₁ := pre ++ [c.k] ++ strB c.text)]; rfl⟩, ?_⟩
          · show (((pre ++ [c.k] ++ strB c.text).map brw).length + 1) * 1 ≤ _
            simp only [List.length_map, List.length_append, List.length_singleton]; omega
          conv => whnf
          refine ⟨_, obW (pre ++ [c.k] ++ strB c.text ++ [IntKind.u8.wrap c.n]), ⟨hpb, at_set (by simp only [List.length_set]; exact hOl), rfl, rfl⟩, ?_⟩
          conv => whnf
          refine hN (i + 1, ?nO4) _ ⟨by dsimp only; omega, ?nP4⟩ (by dsimp only; omega) ?nE4
          case nE4 => rw [← e]; rfl
          case nP4 => dsimp only; rw [hnext]; simp only [List.set_set, List.append_assoc]; rfl

        · have h3 : c.k ≠ 3 := by simpa using h3
          rw [if_neg h3] at hnext
          conv => whnf
          refine sel_split (fun h4 => ?_) (fun h4 => ?_)
          · have h4 : c.k = 4 := by simpa using h4
            rw [if_pos h4] at hnext
            obtain ⟨q1, q2⟩ := hok.2.2 h4
            conv => whnf
            refine ⟨_, _, name_ok (bs := pre ++ [c.k]) (at_set (by rw [List.length_set]; exact hOl)) hpb c.node c.num q1 q2 (by simp; omega), fun e => (nomatch e), ?_⟩
            conv => whnf
            refine hN (i + 1, ?nO5) _ ⟨by dsimp only; omega, ?nP5⟩ (by dsimp only; omega) ?nE5
            case nE5 => rw [← e]; rfl
            case nP5 => dsimp only; rw [hnext]; simp only [List.set_set, List.append_assoc]; rfl

          · have h4 : c.k ≠ 4 := by simpa using h4
            rw [if_neg h4] at hnext
            conv => whnf
            refine hN (i + 1, ?nO6) _ ⟨by dsimp only; omega, ?nP6⟩ (by dsimp only; omega) ?nE6
            case nE6 => rw [← e]; rfl
            case nP6 => dsimp only; rw [hnext]; simp only [List.set_set, List.append_assoc]

  · conv => whnf
    have h := of_decide_eq_false h
    rw [hlen] at h
    have : i = cs.length := by omega
    subst this
    refine hE _ _ ?_
    rw [List.take_length] at hpre
    conv => whnf
    refine ⟨rfl, rfl, ?_⟩
    show O = _
    rw [hO, ← hpre]; rfl
end
end Tree.W11
