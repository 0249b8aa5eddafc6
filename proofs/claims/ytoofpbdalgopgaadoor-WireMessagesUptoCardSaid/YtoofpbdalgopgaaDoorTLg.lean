/- Lists of numbers handed over: in every environment that has the hand's code. -/
import Derived.Test.YtoofpbdalgopgaaDoorHCode
import Derived.Test.YtoofpbdalgopgaaDoorTW
import Derived.Test.YtoofpbdalgopgaaDoorTLa
import Derived.Test.YtoofpbdalgopgaaDoorTLb
import Derived.Test.YtoofpbdalgopgaaDoorTZ
set_option autoImplicit false
set_option linter.unusedVariables false
set_option linter.unusedSimpArgs false
namespace Tree
open Go
set_option maxHeartbeats 8000000
set_option maxRecDepth 100000
def zrow (n : Int) : List LV := [.int .i64 n]
def zsl (o : Bool) (lab : Nat) (l : List Int) (sp : List (List LV)) : LV := .sl o lab 1 (l.map zrow) sp
theorem idx_z {l : List Int} {i : Nat} {n : Int} (h : l[i]? = some n) : (l.map zrow)[i]? = some [.int .i64 n] := by
  rw [List.getElem?_map, h]; rfl
def zi (n : Int) : LV := .int .i64 n
def marks (k : Nat) : List Int := (List.range k).map fun (j : Nat) => (-700 - (j : Int) : Int)
theorem splice_at (a r : List LV) (x v : LV) : splice (a ++ x :: r) a.length [v] = some (a ++ v :: r) := by
  simp [splice]
def hand1 (l : List Int) (i : Nat) : List LV := (l.take i).map zi ++ List.replicate (l.length + 9 - i) (zi 0)
def hand2 (l : List Int) (k : Nat) : List LV := (l ++ marks k).map zi ++ List.replicate (9 - k) (zi 0)
theorem hand1_step (l : List Int) (i : Nat) (n : Int) (h : l[i]? = some n) : splice (hand1 l i) i [zi n] = some (hand1 l (i + 1)) := by
  have hi := (List.getElem?_eq_some_iff.1 h).1
  have e1 : l.length + 9 - i = (l.length + 9 - (i + 1)) + 1 := by omega
  have hl : ((l.take i).map zi).length = i := by simp; omega
  have := splice_at ((l.take i).map zi) (List.replicate (l.length + 9 - (i + 1)) (zi 0)) (zi 0) (zi n)
  rw [hl] at this
  unfold hand1
  rw [e1, List.replicate_succ, this]
  rw [List.take_add_one, h]
  simp
theorem hand2_step (l : List Int) (k : Nat) (hk : k < 9) : splice (hand2 l k) (l.length + k) [zi (-700 - (k : Int))] = some (hand2 l (k + 1)) := by
  have e1 : 9 - k = (9 - (k + 1)) + 1 := by omega
  have hl : ((l ++ marks k).map zi).length = l.length + k := by simp [marks]
  have := splice_at ((l ++ marks k).map zi) (List.replicate (9 - (k + 1)) (zi 0)) (zi 0) (zi (-700 - (k : Int)))
  rw [hl] at this
  unfold hand2
  rw [e1, List.replicate_succ, this]
  congr 1
  have : marks (k + 1) = marks k ++ [-700 - (k : Int)] := by simp [marks, List.range_succ]
  rw [this]; simp
theorem hand12 (l : List Int) : hand1 l l.length = hand2 l 0 := by simp [hand1, hand2, marks]
theorem hand10 (l : List Int) : hand1 l 0 = (List.replicate (l.length + 9) [zi 0]).flatten := by
  simp only [hand1, List.take_zero, List.map_nil, List.nil_append, Nat.sub_zero]
  generalize l.length + 9 = n
  induction n with
  | zero => rfl
  | succ n ih => rw [List.replicate_succ, List.replicate_succ, List.flatten_cons, ← ih]; rfl
theorem notmap1 (l : List Int) (i : Nat) : isMapC (hand1 l i) = false := by
  unfold hand1
  cases h : (l.take i) with
  | nil =>
    rw [List.map_nil, List.nil_append]
    cases l.length + 9 - i <;> rfl
  | cons a r => rfl
theorem notmap2 (l : List Int) (k : Nat) : isMapC (hand2 l k) = false := by
  unfold hand2
  cases h : (l ++ marks k) with
  | nil =>
    rw [List.map_nil, List.nil_append]
    cases 9 - k <;> rfl
  | cons a r => rfl
theorem hand_raw {E : Env} (hE0 : E.fns 221 = some (.code tf221)) (l : List Int) (hl : l.length ≤ 1048576) (lab : Nat) (sp : List (List LV)) : Gives E 221 [zsl false lab l sp] [] 0 (.msl 0 0 l.length (l.length + 9) 1, [hand2 l 9]) := by
  have hlen : (l.map zrow).length = l.length := by simp
  have e9 : IntKind.i64.wrap (((l.map zrow).length : Int) + 9) = ((l.length + 9 : Nat) : Int) := by rw [hlen, wrap64] <;> omega
  refine gives_code (f := tf221) hE0 ?_
  conv => whnf
  refine ⟨l.length + 9, l.length + 9, hand1 l 0, ⟨⟨by rw [e9]; omega, by rw [e9]; exact Int.le_refl _, by rw [e9]; omega, rfl, rfl⟩, by rw [e9]; rfl, by rw [e9]; rfl, by rw [e9, hand10]; rfl⟩, ?_⟩
  conv => whnf
  refine loop_v (V := fun i : Nat => [(4, .int .i64 i)]) (O := fun i => [hand1 l i]) (m := fun i => l.length - i) (P := fun i => i ≤ l.length) ?_ 0 (Nat.zero_le _) rfl
  intro R i hi hN hE hR
  conv => whnf
  refine sel_split (fun h => ?_) (fun h => ?_)
  · conv => whnf
    have h := of_decide_eq_true h
    rw [hlen] at h
    obtain ⟨n, hg⟩ : ∃ n, l[i]? = some n := ⟨_, List.getElem?_eq_getElem (show i < l.length by omega)⟩
    have e : IntKind.i64.wrap ((i : Int) + 1) = ((i + 1 : Nat) : Int) := by rw [wrap64] <;> omega
    refine ⟨_, ⟨by omega, idx_z hg⟩, ?_⟩
    conv => whnf
    refine ⟨i, ⟨by omega, by omega, by simp⟩, ?_⟩
    conv => whnf
    refine ⟨hand1 l i, hand1 l (i + 1), ⟨Nat.zero_le _, rfl, notmap1 l i, hand1_step l i n hg⟩, ?_⟩
    conv => whnf
    refine hN (i + 1) _ (by omega) (by omega) ?_
    rw [← e]; rfl
  · conv => whnf
    have h := of_decide_eq_false h
    rw [hlen] at h
    have : i = l.length := by omega
    subst this
    refine hE _ _ ?_
    conv => whnf
    refine loop_v (V := fun k : Nat => [(5, .int .i64 ((l.length + k : Nat) : Int))]) (O := fun k => [hand2 l k]) (m := fun k => 9 - k) (P := fun k => k ≤ 9) ?_ 0 (Nat.zero_le _) ?_
    · intro R2 k hk hN2 hE2 hR2
      conv => whnf
      refine sel_split (fun h2 => ?_) (fun h2 => ?_)
      · conv => whnf
        have h2 := of_decide_eq_true h2
        have hk9 : k < 9 := by omega
        have e : IntKind.i64.wrap (((l.length + k : Nat) : Int) + 1) = ((l.length + (k + 1) : Nat) : Int) := by rw [wrap64] <;> omega
        have e2 : IntKind.i64.wrap (IntKind.i64.wrap (-700 - ((l.length + k : Nat) : Int)) + ((l.map zrow).length : Int)) = -700 - (k : Int) := by
          rw [hlen]
          have : IntKind.i64.wrap (-700 - ((l.length + k : Nat) : Int)) = -700 - ((l.length + k : Nat) : Int) := by rw [wrap64] <;> omega
          rw [this, wrap64] <;> omega
        refine ⟨l.length + k, ⟨by omega, by omega, by rw [Int.toNat_natCast]; omega⟩, ?_⟩
        conv => whnf
        refine ⟨hand2 l k, hand2 l (k + 1), ⟨Nat.zero_le _, rfl, notmap2 l k, by rw [← hand2_step l k hk9]; simp only [zi, e2]; rfl⟩, ?_⟩
        conv => whnf
        refine hN2 (k + 1) _ (by omega) (by omega) ?_
        rw [← e]; rfl
      · conv => whnf
        have h2 := of_decide_eq_false h2
        have : k = 9 := by omega
        subst this
        refine hE2 _ _ ?_
        conv => whnf
        refine ⟨0, l.length, l.length + 9, ⟨⟨by omega, by omega, by rw [hlen]; omega⟩, by simp, by rw [hlen]; simp, by simp⟩, ?_⟩
        conv => whnf
        exact ⟨rfl, rfl, rfl⟩
    · show _ = WSt.head _ _ [(5, .int .i64 ((l.length + 0 : Nat) : Int))] [hand2 l 0]
      have e5 : ((l.length + 0 : Nat) : Int) = ((l.map zrow).length : Int) := by rw [hlen]; rfl
      rw [← hand12, e5]; rfl
def handV (l : List Int) : LV := .sl false 0 1 (l.map zrow) ((marks 9).map zrow)
theorem frz_hand (l : List Int) : frz [hand2 l 9] (.msl 0 0 l.length (l.length + 9) 1) = some (handV l) := by
  have hr : frzRows (hand2 l 9) 0 (l.length + 9) 1 = (l ++ marks 9).map zrow := by
    apply List.ext_getElem?; intro i
    by_cases hi : i < l.length + 9
    · have hm : i < (l ++ marks 9).length := by simp [marks]; omega
      have e1 : hand2 l 9 = (l ++ marks 9).map zi := by simp [hand2]
      have hc : ((hand2 l 9).drop (0 + i * 1)).take 1 = [zi (l ++ marks 9)[i]] := by
        rw [e1, Nat.zero_add, Nat.mul_one]
        generalize l ++ marks 9 = L at hm
        rw [List.drop_eq_getElem_cons (by rw [List.length_map]; exact hm), List.take_succ_cons, List.take_zero, List.getElem_map]
      rw [frzRows, List.getElem?_map, List.getElem?_range hi, Option.map_some, hc, List.getElem?_map, List.getElem?_eq_getElem hm]
      rfl
    · rw [List.getElem?_eq_none (by simp [frzRows]; omega), List.getElem?_eq_none (by simp [marks]; omega)]
  have hn : ∀ (n : Nat) (l : List Int), LV.noRefs n (l.map zi) = true := by
    intro n l
    induction l with
    | nil => simp [LV.noRefs]
    | cons a l ih => simp [LV.noRefs, ih, zi, LV.noRef]
  have e1 : hand2 l 9 = (l ++ marks 9).map zi := by simp [hand2]
  simp only [frz, List.getElem?_cons_zero]
  rw [if_pos ⟨notmap2 l 9, by rw [e1]; simp [marks], by omega, by rw [e1]; exact hn _ _⟩, hr]
  congr 1
  unfold handV
  congr 1
  · rw [← List.map_take, List.take_left]
  · rw [← List.map_drop, List.drop_left]
theorem noRefs_z (n : Nat) (l : List Int) : LV.noRefss n (l.map zrow) = true := by
  induction l with
  | nil => simp [LV.noRefss]
  | cons a l ih => simp [LV.noRefss, ih, zrow, LV.noRefs, LV.noRef]
theorem hand_frz {E : Env} (hE0 : E.fns 221 = some (.code tf221)) (l : List Int) (hl : l.length ≤ 1048576) (lab : Nat) (sp : List (List LV)) (hs : LV.noRefss 0 sp = true) (ob : Obs) : frzF E 221 [zsl false lab l sp] ob = some (handV l) :=
  frzF_of (hand_raw hE0 l hl lab sp) (frz_hand l) (by simp [LV.noRefs, LV.noRef, zsl, noRefs_z, hs]) rfl ob
end Tree
