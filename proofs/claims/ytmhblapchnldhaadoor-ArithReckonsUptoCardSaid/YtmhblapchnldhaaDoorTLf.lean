/- Layer 6: the hands' lists of numbers, and Reckon of the document. -/
import Derived.Test.YtmhblapchnldhaaDoorTLe
set_option autoImplicit false
set_option linter.unusedVariables false
set_option linter.unusedSimpArgs false
namespace Tree
open Go
set_option maxHeartbeats 8000000
set_option maxRecDepth 100000
theorem tmod_sign {a b : Int} (h : a.tmod b ≠ 0) : (a.tmod b < 0 ↔ a < 0) := by
  by_cases ha : 0 ≤ a
  · have := Int.tmod_nonneg b ha
    omega
  · have h1 : 0 ≤ (-a).tmod b := Int.tmod_nonneg b (by omega)
    rw [Int.neg_tmod] at h1
    omega
theorem fm_tm (a b : Int) (h0 : b ≠ 0) : (a.tmod b ≠ 0 ∧ ¬ (a.tmod b < 0 ↔ b < 0) → a.fdiv b = a.tdiv b - 1 ∧ a.fmod b = a.tmod b + b) ∧ (¬ (a.tmod b ≠ 0 ∧ ¬ (a.tmod b < 0 ↔ b < 0)) → a.fdiv b = a.tdiv b ∧ a.fmod b = a.tmod b) := by
  have e1 := Int.mul_fdiv_add_fmod a b
  have e2 := Int.mul_tdiv_add_tmod a b
  have e3 := fdiv_tdiv a b h0
  have hc : (a.tmod b ≠ 0 ∧ ¬ (a.tmod b < 0 ↔ b < 0)) ↔ (a.tmod b ≠ 0 ∧ ¬ (a < 0 ↔ b < 0)) := by
    constructor
    · rintro ⟨h1, h2⟩; exact ⟨h1, by rw [← tmod_sign h1]; exact h2⟩
    · rintro ⟨h1, h2⟩; exact ⟨h1, by rw [tmod_sign h1]; exact h2⟩
  constructor
  · intro h
    rw [if_pos (hc.1 h)] at e3
    rw [e3, Int.mul_sub, Int.mul_one] at e1
    exact ⟨e3, by omega⟩
  · intro h
    rw [if_neg (fun x => h (hc.2 x))] at e3
    rw [e3] at e1
    exact ⟨e3, by omega⟩
theorem refReckon_ok (op : ByteArray) (l : List Int) (hl : l.length ≤ 4611686018427387904) (o : Bool) (lab : Nat) (sp : List (List LV)) (ob : Obs) (pb : Nat) : Gives env6 223 [.str op, zsl o lab l sp] ob pb (recV (reckonS op l), ob) := by
  have hlen : (l.map zrow).length = l.length := by simp
  refine gives_code (f := tf223) rfl ?_
  conv => whnf
  refine loop_v (V := fun i : Nat => [(6, .int .i64 i)]) (O := fun _ => ob) (m := fun i => l.length - i) (P := fun i => i ≤ l.length ∧ ∀ n ∈ l.take i, mayI n = true) ?_ 0 ⟨Nat.zero_le _, by simp⟩ rfl
  rintro R i ⟨hi, hb⟩ hN hE hR
  conv => whnf
  refine sel_split (fun h => ?_) (fun h => ?_)
  · conv => whnf
    have h := of_decide_eq_true h
    rw [hlen] at h
    obtain ⟨n, hg⟩ : ∃ n, l[i]? = some n := ⟨_, List.getElem?_eq_getElem (show i < l.length by omega)⟩
    have e : IntKind.i64.wrap ((i : Int) + 1) = ((i + 1 : Nat) : Int) := by rw [wrap64] <;> omega
    refine ⟨_, ⟨by omega, idx_z hg⟩, ?_⟩
    conv => whnf
    refine ⟨_, _, may2_ok n _ _, fun _ => rfl, ?_⟩
    conv => whnf
    refine sel_split (fun h2 => ?_) (fun h2 => ?_)
    · conv => whnf
      refine hR _ ?_
      conv => whnf
      have hbad : l.any (fun n => !mayI n) = true := by
        rw [List.any_eq_true]; exact ⟨n, List.mem_of_getElem? hg, h2⟩
      rw [reckon_bad hbad]
      exact ⟨rfl, rfl, rfl⟩
    · conv => whnf
      refine hN (i + 1) _ ⟨by omega, fun x hx => ?_⟩ (by omega) ?_
      · rw [List.take_add_one, hg] at hx
        rcases List.mem_append.1 hx with hx | hx
        · exact hb x hx
        · simp at hx; subst hx; simpa using h2
      · rw [← e]; rfl
  · conv => whnf
    have h := of_decide_eq_false h
    rw [hlen] at h
    have : i = l.length := by omega
    subst this
    rw [List.take_length] at hb
    refine hE _ _ ?_
    clear hN hE hR h hi
    rcases l with _ | ⟨a, _ | ⟨b, _ | ⟨c, r⟩⟩⟩
    · rw [reckon_many (by simp) (by simp)]
      conv => whnf
      repeat' (refine sel_split (fun _ => ?_) (fun _ => ?_) <;> conv => whnf)
      all_goals first
        | exact ⟨rfl, rfl, rfl⟩
        | (exfalso; simp_all; done)
    · have ha := hb a (by simp)
      have ha' := mayI_iff.1 ha
      have hs : reckonS op [a] = if op = bAbs then finI a.natAbs else (0, false) := by simp [reckonS, ha]
      rw [hs]
      have w := (abs_u64 ha).1
      conv => whnf
      repeat' first
        | (refine sel_split (fun _ => ?_) (fun _ => ?_) <;> conv => whnf)
        | (refine ⟨_, ⟨by omega, rfl⟩, ?_⟩; conv => whnf)
      all_goals
        refine ⟨rfl, res2 ?_, rfl⟩
        simp only [w, beq_iff_eq, beq_eq_false_iff_ne, ne_eq, bytes_eq, Bool.not_eq_true', Bool.not_eq_false', decide_eq_true_eq, decide_eq_false_iff_not] at * <;>
        grind [finI, bAbs, mayI]
    · have ha := hb a (by simp)
      have hbb := hb b (by simp)
      have ha' := mayI_iff.1 ha
      have hb' := mayI_iff.1 hbb
      have hs : reckonS op [a, b] = two op a b := by simp [reckonS, ha, hbb]
      rw [hs]
      have w1 : IntKind.i64.wrap (a + b) = a + b := by rw [wrap64] <;> omega
      have w2 : IntKind.i64.wrap (a - b) = a - b := by rw [wrap64] <;> omega
      have w4 : IntKind.i64.wrap (a * b) = a * b := by
        have : (a * b).natAbs ≤ 2147483648 * 2147483648 := by rw [Int.natAbs_mul]; exact Nat.mul_le_mul (by omega) (by omega)
        rw [wrap64] <;> omega
      have hq1 : (a.tdiv b).natAbs ≤ a.natAbs := by rw [Int.natAbs_tdiv]; exact Nat.div_le_self _ _
      have hr1 : (a.tmod b).natAbs ≤ a.natAbs := by rw [Int.natAbs_tmod]; exact Nat.mod_le _ _
      have hfm := fm_tm a b
      have w5 : IntKind.i64.wrap (a.tdiv b) = a.tdiv b := by rw [wrap64] <;> omega
      have w6 : IntKind.i64.wrap (a.tdiv b - 1) = a.tdiv b - 1 := by rw [wrap64] <;> omega
      have w7 : IntKind.i64.wrap (a.tmod b + b) = a.tmod b + b := by rw [wrap64] <;> omega
      conv => whnf
      repeat' first
        | (refine sel_split (fun _ => ?_) (fun _ => ?_) <;> conv => whnf)
        | (refine ⟨_, ⟨by omega, rfl⟩, ?_⟩; conv => whnf)
        | (refine ⟨_, _, may2_ok _ _ _, fun _ => rfl, ?_⟩; conv => whnf)
        | refine ⟨rfl, res2 ?_, rfl⟩
        | (refine ⟨by simp_all; done, ?_⟩; conv => whnf)
      all_goals
        simp only [w1, w2, w4, w5, w6, w7, bne_iff_ne, bne_eq_false_iff_eq, beq_iff_eq, beq_eq_false_iff_ne, ne_eq, bytes_eq, Bool.not_eq_true', Bool.not_eq_false', decide_eq_true_eq, decide_eq_false_iff_not, decide_eq_decide] at * <;>
        grind [finI, bAbs, two, bAdd, bSub, bMul, bDiv, bMod, bMin, bMax]
    · rw [reckon_many (by simp) (by simp)]
      conv => whnf
      repeat' (refine sel_split (fun _ => ?_) (fun _ => ?_) <;> conv => whnf)
      all_goals first
        | exact ⟨rfl, rfl, rfl⟩
        | (exfalso; simp_all; omega)
end Tree

set_option autoImplicit false
set_option linter.unusedVariables false
set_option linter.unusedSimpArgs false
namespace Tree
open Go
set_option maxHeartbeats 8000000
set_option maxRecDepth 100000
def zi (n : Int) : LV := .int .i64 n
def marks (k : Nat) : List Int := (List.range k).map fun (j : Nat) => (-700 - (j : Int) : Int)
theorem splice_at (a r : List LV) (x v : LV) : splice (a ++ x :: r) a.length [v] = some (a ++ v :: r) := by
  simp [splice]
def hand1 (l : List Int) (i : Nat) : List LV := (l.take i).map zi ++ List.replicate (l.length + 9 - i) (zi 0)
def hand2 (l : List Int) (k : Nat) : List LV := (l ++ marks k).map zi ++ List.replicate (9 - k) (zi 0)
theorem hand1_step (l : List Int) (i : Nat) (n : Int) (h : l[i]? = some n) : splice (hand1 l i) i [zi n] = some (hand1 l (i + 1)) := by
  have hi := (List.getElem?_eq_some_iff.1 h).1
  have e1 : l.length + 9 - i = (l.length + 9 - (i + 1)) + 1 := by omega
  have hl : ((l.take i).map zi).length = i := by simp; omega
  have := splice_at ((l.take i).map zi) (List.replicate (l.length + 9 - (i + 1)) (zi 0)) (zi 0) (zi n)
  rw [hl] at this
  unfold hand1
  rw [e1, List.replicate_succ, this]
  rw [List.take_add_one, h]
  simp
theorem hand2_step (l : List Int) (k : Nat) (hk : k < 9) : splice (hand2 l k) (l.length + k) [zi (-700 - (k : Int))] = some (hand2 l (k + 1)) := by
  have e1 : 9 - k = (9 - (k + 1)) + 1 := by omega
  have hl : ((l ++ marks k).map zi).length = l.length + k := by simp [marks]
  have := splice_at ((l ++ marks k).map zi) (List.replicate (9 - (k + 1)) (zi 0)) (zi 0) (zi (-700 - (k : Int)))
  rw [hl] at this
  unfold hand2
  rw [e1, List.replicate_succ, this]
  congr 1
  have : marks (k + 1) = marks k ++ [-700 - (k : Int)] := by simp [marks, List.range_succ]
  rw [this]; simp
theorem hand12 (l : List Int) : hand1 l l.length = hand2 l 0 := by simp [hand1, hand2, marks]
theorem hand10 (l : List Int) : hand1 l 0 = (List.replicate (l.length + 9) [zi 0]).flatten := by
  simp only [hand1, List.take_zero, List.map_nil, List.nil_append, Nat.sub_zero]
  generalize l.length + 9 = n
  induction n with
  | zero => rfl
  | succ n ih => rw [List.replicate_succ, List.replicate_succ, List.flatten_cons, ← ih]; rfl
theorem notmap1 (l : List Int) (i : Nat) : isMapC (hand1 l i) = false := by
  unfold hand1
  cases h : (l.take i) with
  | nil =>
    rw [List.map_nil, List.nil_append]
    cases l.length + 9 - i <;> rfl
  | cons a r => rfl
theorem notmap2 (l : List Int) (k : Nat) : isMapC (hand2 l k) = false := by
  unfold hand2
  cases h : (l ++ marks k) with
  | nil =>
    rw [List.map_nil, List.nil_append]
    cases 9 - k <;> rfl
  | cons a r => rfl
theorem hand_raw (l : List Int) (hl : l.length ≤ 1048576) (lab : Nat) (sp : List (List LV)) : Gives env6r 221 [zsl false lab l sp] [] 0 (.msl 0 0 l.length (l.length + 9) 1, [hand2 l 9]) := by
  have hlen : (l.map zrow).length = l.length := by simp
  have e9 : IntKind.i64.wrap (((l.map zrow).length : Int) + 9) = ((l.length + 9 : Nat) : Int) := by rw [hlen, wrap64] <;> omega
  refine gives_code (f := tf221) rfl ?_
  conv => whnf
  refine ⟨l.length + 9, l.length + 9, hand1 l 0, ⟨⟨by rw [e9]; omega, by rw [e9]; exact Int.le_refl _, by rw [e9]; omega, rfl, rfl⟩, by rw [e9]; rfl, by rw [e9]; rfl, by rw [e9, hand10]; rfl⟩, ?_⟩
  conv => whnf
  refine loop_v (V := fun i : Nat => [(4, .int .i64 i)]) (O := fun i => [hand1 l i]) (m := fun i => l.length - i) (P := fun i => i ≤ l.length) ?_ 0 (Nat.zero_le _) rfl
  intro R i hi hN hE hR
  conv => whnf
  refine sel_split (fun h => ?_) (fun h => ?_)
  · conv => whnf
    have h := of_decide_eq_true h
    rw [hlen] at h
    obtain ⟨n, hg⟩ : ∃ n, l[i]? = some n := ⟨_, List.getElem?_eq_getElem (show i < l.length by omega)⟩
    have e : IntKind.i64.wrap ((i : Int) + 1) = ((i + 1 : Nat) : Int) := by rw [wrap64] <;> omega
    refine ⟨_, ⟨by omega, idx_z hg⟩, ?_⟩
    conv => whnf
    refine ⟨i, ⟨by omega, by omega, by simp⟩, ?_⟩
    conv => whnf
    refine ⟨hand1 l i, hand1 l (i + 1), ⟨Nat.zero_le _, rfl, notmap1 l i, hand1_step l i n hg⟩, ?_⟩
    conv => whnf
    refine hN (i + 1) _ (by omega) (by omega) ?_
    rw [← e]; rfl
  · conv => whnf
    have h := of_decide_eq_false h
    rw [hlen] at h
    have : i = l.length := by omega
    subst this
    refine hE _ _ ?_
    conv => whnf
    refine loop_v (V := fun k : Nat => [(5, .int .i64 ((l.length + k : Nat) : Int))]) (O := fun k => [hand2 l k]) (m := fun k => 9 - k) (P := fun k => k ≤ 9) ?_ 0 (Nat.zero_le _) ?_
    · intro R2 k hk hN2 hE2 hR2
      conv => whnf
      refine sel_split (fun h2 => ?_) (fun h2 => ?_)
      · conv => whnf
        have h2 := of_decide_eq_true h2
        have hk9 : k < 9 := by omega
        have e : IntKind.i64.wrap (((l.length + k : Nat) : Int) + 1) = ((l.length + (k + 1) : Nat) : Int) := by rw [wrap64] <;> omega
        have e2 : IntKind.i64.wrap (IntKind.i64.wrap (-700 - ((l.length + k : Nat) : Int)) + ((l.map zrow).length : Int)) = -700 - (k : Int) := by
          rw [hlen]
          have : IntKind.i64.wrap (-700 - ((l.length + k : Nat) : Int)) = -700 - ((l.length + k : Nat) : Int) := by rw [wrap64] <;> omega
          rw [this, wrap64] <;> omega
        refine ⟨l.length + k, ⟨by omega, by omega, by rw [Int.toNat_natCast]; omega⟩, ?_⟩
        conv => whnf
        refine ⟨hand2 l k, hand2 l (k + 1), ⟨Nat.zero_le _, rfl, notmap2 l k, by rw [← hand2_step l k hk9]; simp only [zi, e2]; rfl⟩, ?_⟩
        conv => whnf
        refine hN2 (k + 1) _ (by omega) (by omega) ?_
        rw [← e]; rfl
      · conv => whnf
        have h2 := of_decide_eq_false h2
        have : k = 9 := by omega
        subst this
        refine hE2 _ _ ?_
        conv => whnf
        refine ⟨0, l.length, l.length + 9, ⟨⟨by omega, by omega, by rw [hlen]; omega⟩, by simp, by rw [hlen]; simp, by simp⟩, ?_⟩
        conv => whnf
        exact ⟨rfl, rfl, rfl⟩
    · show _ = WSt.head _ _ [(5, .int .i64 ((l.length + 0 : Nat) : Int))] [hand2 l 0]
      have e5 : ((l.length + 0 : Nat) : Int) = ((l.map zrow).length : Int) := by rw [hlen]; rfl
      rw [← hand12, e5]; rfl
def handV (l : List Int) : LV := .sl false 0 1 (l.map zrow) ((marks 9).map zrow)
theorem frz_hand (l : List Int) : frz [hand2 l 9] (.msl 0 0 l.length (l.length + 9) 1) = some (handV l) := by
  have hr : frzRows (hand2 l 9) 0 (l.length + 9) 1 = (l ++ marks 9).map zrow := by
    apply List.ext_getElem?; intro i
    by_cases hi : i < l.length + 9
    · have hm : i < (l ++ marks 9).length := by simp [marks]; omega
      have e1 : hand2 l 9 = (l ++ marks 9).map zi := by simp [hand2]
      have hc : ((hand2 l 9).drop (0 + i * 1)).take 1 = [zi (l ++ marks 9)[i]] := by
        rw [e1, Nat.zero_add, Nat.mul_one]
        generalize l ++ marks 9 = L at hm
        rw [List.drop_eq_getElem_cons (by rw [List.length_map]; exact hm), List.take_succ_cons, List.take_zero, List.getElem_map]
      rw [frzRows, List.getElem?_map, List.getElem?_range hi, Option.map_some, hc, List.getElem?_map, List.getElem?_eq_getElem hm]
      rfl
    · rw [List.getElem?_eq_none (by simp [frzRows]; omega), List.getElem?_eq_none (by simp [marks]; omega)]
  have hn : ∀ (n : Nat) (l : List Int), LV.noRefs n (l.map zi) = true := by
    intro n l
    induction l with
    | nil => simp [LV.noRefs]
    | cons a l ih => simp [LV.noRefs, ih, zi, LV.noRef]
  have e1 : hand2 l 9 = (l ++ marks 9).map zi := by simp [hand2]
  simp only [frz, List.getElem?_cons_zero]
  rw [if_pos ⟨notmap2 l 9, by rw [e1]; simp [marks], by omega, by rw [e1]; exact hn _ _⟩, hr]
  congr 1
  unfold handV
  congr 1
  · rw [← List.map_take, List.take_left]
  · rw [← List.map_drop, List.drop_left]
theorem noRefs_z (n : Nat) (l : List Int) : LV.noRefss n (l.map zrow) = true := by
  induction l with
  | nil => simp [LV.noRefss]
  | cons a l ih => simp [LV.noRefss, ih, zrow, LV.noRefs, LV.noRef]
theorem hand_ok (l : List Int) (hl : l.length ≤ 1048576) (lab : Nat) (sp : List (List LV)) (hs : LV.noRefss 0 sp = true) (ob : Obs) (pb : Nat) : Gives env6 221 [zsl false lab l sp] ob pb (handV l, ob) := by
  have hf : frzF env6r 221 [zsl false lab l sp] = some (handV l) := frzF_of (hand_raw l hl lab sp) (frz_hand l) (by simp [LV.noRefs, LV.noRef, zsl, noRefs_z, hs]) rfl
  exact gives_ext (F := frzF env6r 221) rfl hf
end Tree

set_option autoImplicit false
set_option linter.unusedVariables false
set_option linter.unusedSimpArgs false
namespace Tree
open Go
set_option maxHeartbeats 8000000
set_option maxRecDepth 100000
theorem sameInts_ok (l : List Int) (hl : l.length ≤ 1048576) (la lb : Nat) (sa sb : List (List LV)) (ob : Obs) (pb : Nat) : Gives env6 64 [zsl false la l sa, zsl false lb l sb] ob pb (.bool true, ob) := by
  have hlen : (l.map zrow).length = l.length := by simp
  refine gives_code (f := tf64) rfl ?_
  conv => whnf
  refine sel_f (by simp) ?_
  conv => whnf
  refine loop_v (V := fun i : Nat => [(5, .int .i64 i)]) (O := fun _ => ob) (m := fun i => l.length - i) (P := fun i => i ≤ l.length) ?_ 0 (Nat.zero_le _) rfl
  intro R i hi hN hE hR
  conv => whnf
  refine sel_split (fun h => ?_) (fun h => ?_)
  · conv => whnf
    have h := of_decide_eq_true h
    rw [hlen] at h
    obtain ⟨n, hg⟩ : ∃ n, l[i]? = some n := ⟨_, List.getElem?_eq_getElem (show i < l.length by omega)⟩
    have e : IntKind.i64.wrap ((i : Int) + 1) = ((i + 1 : Nat) : Int) := by rw [wrap64] <;> omega
    refine ⟨_, ⟨by omega, idx_z hg⟩, ?_⟩
    conv => whnf
    refine ⟨_, ⟨by omega, idx_z hg⟩, ?_⟩
    conv => whnf
    refine sel_f (by simp) ?_
    conv => whnf
    refine hN (i + 1) _ (by omega) (by omega) ?_
    rw [← e]; rfl
  · conv => whnf
    refine hE _ _ ?_
    conv => whnf
    exact ⟨rfl, rfl, rfl⟩
theorem idx_m {l : List Int} {k : Nat} (hk : k < 9) : ((l ++ marks 9).map zrow)[l.length + k]? = some [.int .i64 (-700 - (k : Int))] := by
  rw [List.getElem?_map, List.getElem?_append_right (by omega), show l.length + k - l.length = k by omega]
  have : (marks 9)[k]? = some (-700 - (k : Int)) := by
    unfold marks; rw [List.getElem?_map, List.getElem?_range hk]; rfl
  rw [this]; rfl
theorem keptInts_ok (l : List Int) (hl : l.length ≤ 1048576) (lab : Nat) (sp : List (List LV)) (ob : Obs) (pb : Nat) : Gives env6 224 [handV l, zsl false lab l sp] ob pb (.bool true, ob) := by
  have hlen : (l.map zrow).length = l.length := by simp
  have e9 : IntKind.i64.wrap (((l.map zrow).length : Int) + 9) = ((l.length + 9 : Nat) : Int) := by rw [hlen, wrap64] <;> omega
  refine gives_code (f := tf224) rfl ?_
  conv => whnf
  refine ⟨_, _, sameInts_ok l hl 0 lab ((marks 9).map zrow) sp _ _, fun _ => rfl, ?_⟩
  conv => whnf
  refine ⟨(l ++ marks 9).map zrow, [], ⟨⟨by omega, by rw [e9]; omega, by rw [e9]; simp [marks]⟩, ?_, ?_⟩, ?_⟩
  · rw [e9, Int.toNat_natCast, ← List.map_append, List.take_of_length_le (by simp [marks])]; rfl
  · rw [e9, Int.toNat_natCast, List.drop_of_length_le (by simp [marks])]
  conv => whnf
  have hal : ((l ++ marks 9).map zrow).length = l.length + 9 := by simp [marks]
  refine loop_v (V := fun k : Nat => [(6, .int .i64 ((l.length + k : Nat) : Int))]) (O := fun _ => ob) (m := fun k => 9 - k) (P := fun k => k ≤ 9) ?_ 0 (Nat.zero_le _) ?_
  · intro R2 k hk hN2 hE2 hR2
    conv => whnf
    refine sel_split (fun h2 => ?_) (fun h2 => ?_)
    · conv => whnf
      have h2 := of_decide_eq_true h2
      rw [hal] at h2
      have hk9 : k < 9 := by omega
      have e : IntKind.i64.wrap (((l.length + k : Nat) : Int) + 1) = ((l.length + (k + 1) : Nat) : Int) := by rw [wrap64] <;> omega
      have e2 : IntKind.i64.wrap (IntKind.i64.wrap (-700 - ((l.length + k : Nat) : Int)) + ((l.map zrow).length : Int)) = -700 - (k : Int) := by
        rw [hlen]
        have : IntKind.i64.wrap (-700 - ((l.length + k : Nat) : Int)) = -700 - ((l.length + k : Nat) : Int) := by rw [wrap64] <;> omega
        rw [this, wrap64] <;> omega
      refine ⟨_, ⟨by omega, by rw [Int.toNat_natCast]; exact idx_m hk9⟩, ?_⟩
      conv => whnf
      refine sel_f ?_ ?_
      · show (_ != _) = false
        rw [e2]; simp
      conv => whnf
      refine hN2 (k + 1) _ (by omega) (by omega) ?_
      rw [← e]; rfl
    · conv => whnf
      refine hE2 _ _ ?_
      conv => whnf
      exact ⟨rfl, rfl, rfl⟩
  · show _ = WSt.head _ _ [(6, .int .i64 ((l.length + 0 : Nat) : Int))] ob
    have e5 : ((l.length + 0 : Nat) : Int) = ((l.map zrow).length : Int) := by rw [hlen]; rfl
    rw [e5]; rfl
theorem reckons_ok (op : ByteArray) (l : List Int) (hl : l.length ≤ 1048576) (lab : Nat) (sp : List (List LV)) (hs : LV.noRefss 0 sp = true) (ob : Obs) (pb : Nat) : Gives env6 578 [.str op, zsl false lab l sp] ob pb (.bool true, ob) := by
  refine gives_code (f := tf578) rfl ?_
  conv => whnf
  refine ⟨_, _, hand_ok l hl lab sp hs _ _, fun h => (by cases h), ?_⟩
  conv => whnf
  refine ⟨_, _, reckon_ok op l (by omega) false 0 ((marks 9).map zrow) _ _, fun _ => rfl, ?_⟩
  conv => whnf
  refine ⟨_, _, refReckon_ok op l (by omega) false lab sp _ _, fun _ => rfl, ?_⟩
  conv => whnf
  refine ⟨_, _, live6_ok _ _, fun _ => rfl, ?_⟩
  conv => whnf
  refine sel_t (by simp) ?_
  conv => whnf
  refine sel_t (by simp) ?_
  conv => whnf
  refine ⟨_, _, keptInts_ok l hl lab sp _ _, fun _ => rfl, ?_⟩
  conv => whnf
  exact ⟨rfl, rfl, rfl⟩
end Tree
