/- Terms handed over, and kept: in every environment that has the hands' code. -/
import Derived.Test.YtmhblapchnldhaaDoorHCode
import Derived.Test.YtmhblapchnldhaaDoorTW
import Derived.Test.YtmhblapchnldhaaDoorTLa
import Derived.Test.YtmhblapchnldhaaDoorTLb
import Derived.Test.YtmhblapchnldhaaDoorTZ
import Derived.Test.YtmhblapchnldhaaDoorL4bCode
import Derived.Test.YtmhblapchnldhaaDoorTLc
set_option autoImplicit false
set_option linter.unusedVariables false
set_option linter.unusedSimpArgs false
namespace Tree
open Go
set_option maxHeartbeats 8000000
set_option maxRecDepth 100000
def c0 : C := ⟨0, ⟨#[]⟩, 0, 0, 0⟩
def cm (j : Nat) : C := ⟨0, ⟨#[]⟩, -700 - (j : Int), 0, 0⟩
def marksC (k : Nat) : List C := (List.range k).map cm
def flatC (l : List C) : List LV := l.flatMap C.row
theorem row_len (c : C) : c.row.length = 5 := rfl
theorem flatC_len (l : List C) : (flatC l).length = l.length * 5 := by
  unfold flatC
  induction l with
  | nil => rfl
  | cons c l ih => simp only [List.flatMap_cons, List.length_append, row_len, ih, List.length_cons]; omega
theorem flatC_app (a b : List C) : flatC (a ++ b) = flatC a ++ flatC b := by simp [flatC]
theorem splice_c (a r : List C) (x v : C) : splice (flatC (a ++ x :: r)) (a.length * 5) v.row = some (flatC (a ++ v :: r)) := by
  have h1 := flatC_len a
  have e1 : flatC (a ++ x :: r) = flatC a ++ (x.row ++ flatC r) := by simp [flatC]
  have e2 : flatC (a ++ v :: r) = flatC a ++ (v.row ++ flatC r) := by simp [flatC]
  have h2 : (x.row ++ flatC r).drop 5 = flatC r := by
    have := row_len x
    rw [← this, List.drop_left]
  have h3 : (flatC a ++ (x.row ++ flatC r)).drop (a.length * 5 + v.row.length) = flatC r := by
    rw [row_len, ← h1, ← List.drop_drop, List.drop_left, h2]
  have h4 : (flatC a ++ (x.row ++ flatC r)).take (a.length * 5) = flatC a := by rw [← h1, List.take_left]
  rw [e1, e2]
  unfold splice
  rw [if_pos (by simp only [List.length_append, row_len, h1]; omega), h3, h4, List.append_assoc]
def handC1 (l : List C) (i : Nat) : List C := l.take i ++ List.replicate (l.length + 9 - i) c0
def handC2 (l : List C) (k : Nat) : List C := (l ++ marksC k) ++ List.replicate (9 - k) c0
theorem handC1_step (l : List C) (i : Nat) (c : C) (h : l[i]? = some c) : splice (flatC (handC1 l i)) (i * 5) c.row = some (flatC (handC1 l (i + 1))) := by
  have hi := (List.getElem?_eq_some_iff.1 h).1
  have e1 : l.length + 9 - i = (l.length + 9 - (i + 1)) + 1 := by omega
  have hl : (l.take i).length = i := by simp; omega
  have := splice_c (l.take i) (List.replicate (l.length + 9 - (i + 1)) c0) c0 c
  rw [hl] at this
  unfold handC1
  rw [e1, List.replicate_succ, this]
  rw [List.take_add_one, h]
  simp
theorem handC2_step (l : List C) (k : Nat) (hk : k < 9) : splice (flatC (handC2 l k)) ((l.length + k) * 5) (cm k).row = some (flatC (handC2 l (k + 1))) := by
  have e1 : 9 - k = (9 - (k + 1)) + 1 := by omega
  have hl : (l ++ marksC k).length = l.length + k := by simp [marksC]
  have := splice_c (l ++ marksC k) (List.replicate (9 - (k + 1)) c0) c0 (cm k)
  rw [hl] at this
  unfold handC2
  rw [e1, List.replicate_succ, this]
  have : marksC (k + 1) = marksC k ++ [cm k] := by simp [marksC, List.range_succ]
  rw [this]; simp
theorem handC12 (l : List C) : handC1 l l.length = handC2 l 0 := by simp [handC1, handC2, marksC]
theorem handC10 (l : List C) : flatC (handC1 l 0) = (List.replicate (l.length + 9) c0.row).flatten := by
  simp only [handC1, List.take_zero, List.nil_append, Nat.sub_zero]
  generalize l.length + 9 = n
  induction n with
  | zero => rfl
  | succ n ih =>
    rw [List.replicate_succ, List.replicate_succ, List.flatten_cons, ← ih]; rfl
theorem notmapC : ∀ l : List C, isMapC (flatC l) = false
  | [] => rfl
  | c :: r => rfl
theorem idx_cell {l : List C} {i : Nat} {c : C} (h : l[i]? = some c) : (l.map C.row)[i]? = some c.row := by
  rw [List.getElem?_map, h]; rfl
attribute [local irreducible] flatC handC1 handC2
theorem cm_row (k : Nat) (n : Int) (h : n = -700 - (k : Int)) : [LV.int .u8 0, .str ⟨#[]⟩, .int .i64 n, .int .i64 0, .int .i64 0] = (cm k).row := by subst h; rfl
theorem handC_raw {E : Env} (hE0 : E.fns 209 = some (.code tf209)) (l : List C) (hl : l.length ≤ 1048576) (lab : Nat) (sp : List (List LV)) : Gives E 209 [sl5 false lab l sp] [] 0 (.msl 0 0 l.length (l.length + 9) 5, [flatC (handC2 l 9)]) := by
  have hlen : (l.map C.row).length = l.length := by simp
  have e9 : IntKind.i64.wrap (((l.map C.row).length : Int) + 9) = ((l.length + 9 : Nat) : Int) := by rw [hlen, wrap64] <;> omega
  refine gives_code (f := tf209) hE0 ?_
  conv => whnf
  refine ⟨l.length + 9, l.length + 9, flatC (handC1 l 0), ⟨⟨by rw [e9]; omega, by rw [e9]; exact Int.le_refl _, by rw [e9]; omega, rfl, rfl⟩, by rw [e9]; rfl, by rw [e9]; rfl, by rw [e9, handC10]; rfl⟩, ?_⟩
  conv => whnf
  refine loop_v (V := fun i : Nat => [(4, .int .i64 i)]) (O := fun i => [flatC (handC1 l i)]) (m := fun i => l.length - i) (P := fun i => i ≤ l.length) ?_ 0 (Nat.zero_le _) rfl
  intro R i hi hN hE hR
  conv => whnf
  refine sel_split (fun h => ?_) (fun h => ?_)
  · conv => whnf
    have h := of_decide_eq_true h
    rw [hlen] at h
    obtain ⟨n, hg⟩ : ∃ n, l[i]? = some n := ⟨_, List.getElem?_eq_getElem (show i < l.length by omega)⟩
    have e : IntKind.i64.wrap ((i : Int) + 1) = ((i + 1 : Nat) : Int) := by rw [wrap64] <;> omega
    refine ⟨_, ⟨by omega, idx_cell hg⟩, ?_⟩
    conv => whnf
    refine ⟨i * 5, ⟨by omega, by omega, by rw [Int.toNat_natCast]; omega⟩, ?_⟩
    conv => whnf
    refine ⟨flatC (handC1 l i), flatC (handC1 l (i + 1)), ⟨Nat.zero_le _, rfl, notmapC _, handC1_step l i n hg⟩, ?_⟩
    conv => whnf
    refine hN (i + 1) _ (by omega) (by omega) ?_
    rw [← e]; rfl
  · conv => whnf
    have h := of_decide_eq_false h
    rw [hlen] at h
    have : i = l.length := by omega
    subst this
    refine hE _ _ ?_
    conv => whnf
    refine loop_v (V := fun k : Nat => [(5, .int .i64 ((l.length + k : Nat) : Int))]) (O := fun k => [flatC (handC2 l k)]) (m := fun k => 9 - k) (P := fun k => k ≤ 9) ?_ 0 (Nat.zero_le _) ?_
    · intro R2 k hk hN2 hE2 hR2
      conv => whnf
      refine sel_split (fun h2 => ?_) (fun h2 => ?_)
      · conv => whnf
        have h2 := of_decide_eq_true h2
        have hk9 : k < 9 := by omega
        have e : IntKind.i64.wrap (((l.length + k : Nat) : Int) + 1) = ((l.length + (k + 1) : Nat) : Int) := by rw [wrap64] <;> omega
        have e2 : IntKind.i64.wrap (IntKind.i64.wrap (-700 - ((l.length + k : Nat) : Int)) + ((l.map C.row).length : Int)) = -700 - (k : Int) := by
          rw [hlen]
          have : IntKind.i64.wrap (-700 - ((l.length + k : Nat) : Int)) = -700 - ((l.length + k : Nat) : Int) := by rw [wrap64] <;> omega
          rw [this, wrap64] <;> omega
        refine ⟨(l.length + k) * 5, ⟨by omega, by omega, by rw [Int.toNat_natCast]; omega⟩, ?_⟩
        conv => whnf
        refine ⟨flatC (handC2 l k), flatC (handC2 l (k + 1)), ⟨Nat.zero_le _, rfl, notmapC _, (congrArg (splice (flatC (handC2 l k)) ((l.length + k) * 5)) (cm_row k _ e2)).trans (handC2_step l k hk9)⟩, ?_⟩
        conv => whnf
        refine hN2 (k + 1) _ (by omega) (by omega) ?_
        rw [← e]; rfl
      · conv => whnf
        have h2 := of_decide_eq_false h2
        have : k = 9 := by omega
        subst this
        refine hE2 _ _ ?_
        conv => whnf
        refine ⟨0, l.length, l.length + 9, ⟨⟨by omega, by omega, by rw [hlen]; omega⟩, by simp, by rw [hlen]; simp, by simp⟩, ?_⟩
        conv => whnf
        exact ⟨rfl, rfl, rfl⟩
    · show _ = WSt.head _ _ [(5, .int .i64 ((l.length + 0 : Nat) : Int))] [flatC (handC2 l 0)]
      have e5 : ((l.length + 0 : Nat) : Int) = ((l.map C.row).length : Int) := by rw [hlen]; rfl
      rw [← handC12, e5]; rfl
def handCV (l : List C) : LV := .sl false 0 5 (l.map C.row) ((marksC 9).map C.row)
theorem flatC_noRefs (n : Nat) : ∀ l : List C, LV.noRefs n (flatC l) = true
  | [] => by unfold flatC; simp [LV.noRefs]
  | c :: r => by
    have ih := flatC_noRefs n r
    unfold flatC at ih ⊢
    simp [List.flatMap_cons, C.row, LV.noRefs, LV.noRef, ih]
theorem flatC_chunk (l : List C) (i : Nat) (h : i < l.length) : ((flatC l).drop (i * 5)).take 5 = l[i].row := by
  have e : l = l.take i ++ l[i] :: l.drop (i + 1) := by rw [List.getElem_cons_drop, List.take_append_drop]
  have h1 : (flatC (l.take i)).length = i * 5 := by rw [flatC_len, List.length_take]; congr 1; omega
  have e2 : flatC l = flatC (l.take i) ++ (l[i].row ++ flatC (l.drop (i + 1))) := by
    conv => lhs; rw [e]
    rw [flatC_app]; congr 1; unfold flatC; rfl
  rw [e2, ← h1, List.drop_left]
  have := row_len l[i]
  rw [← this, List.take_left]
theorem rows_bare : ∀ (c : C), c.row.map LV.bare1 = c.row := fun c => rfl
theorem frz_handC (l : List C) : frz [flatC (handC2 l 9)] (.msl 0 0 l.length (l.length + 9) 5) = some (handCV l) := by
  have e1 : handC2 l 9 = l ++ marksC 9 := by unfold handC2; simp
  have hlen : (l ++ marksC 9).length = l.length + 9 := by simp [marksC]
  have hr : frzRows (flatC (l ++ marksC 9)) 0 (l.length + 9) 5 = (l ++ marksC 9).map C.row := by
    apply List.ext_getElem?; intro i
    by_cases hi : i < l.length + 9
    · rw [frzRows, List.getElem?_map, List.getElem?_range hi, Option.map_some, List.getElem?_map, List.getElem?_eq_getElem (by omega), Nat.zero_add, flatC_chunk _ i (by omega), rows_bare]
      rfl
    · rw [List.getElem?_eq_none (by simp [frzRows]; omega), List.getElem?_eq_none (by rw [List.length_map]; omega)]
  rw [e1]
  simp only [frz, List.getElem?_cons_zero]
  rw [if_pos ⟨notmapC _, by rw [flatC_len]; omega, by omega, flatC_noRefs _ _⟩, hr]
  congr 1
  unfold handCV
  congr 1
  · rw [← List.map_take, List.take_left]
  · rw [← List.map_drop, List.drop_left]
theorem noRefss_c (n : Nat) : ∀ l : List C, LV.noRefss n (l.map C.row) = true
  | [] => by simp [LV.noRefss]
  | c :: r => by simp [LV.noRefss, noRefss_c n r, C.row, LV.noRefs, LV.noRef]
theorem handC_frz {E : Env} (hE0 : E.fns 209 = some (.code tf209)) (l : List C) (hl : l.length ≤ 1048576) (lab : Nat) (sp : List (List LV)) (hs : LV.noRefss 0 sp = true) (ob : Obs) : frzF E 209 [sl5 false lab l sp] ob = some (handCV l) :=
  frzF_of (handC_raw hE0 l hl lab sp) (frz_handC l) (by simp [LV.noRefs, LV.noRef, noRefss_c, hs]) rfl ob
end Tree

set_option autoImplicit false
set_option linter.unusedVariables false
set_option linter.unusedSimpArgs false
namespace Tree
open Go
set_option maxHeartbeats 8000000
set_option maxRecDepth 100000
theorem sameC_ok {E : Env} (h0 : E.fns 214 = some (.code tf214)) (l : List C) (hl : l.length ≤ 1048576) (la lb : Nat) (sa sb : List (List LV)) (ob : Obs) (pb : Nat) : Gives E 214 [sl5 false la l sa, sl5 false lb l sb] ob pb (.bool true, ob) := by
  have hlen : (l.map C.row).length = l.length := by simp
  refine gives_code (f := tf214) h0 ?_
  conv => whnf
  refine sel_f (by simp) ?_
  conv => whnf
  refine loop_v (V := fun i : Nat => [(5, .int .i64 i)]) (O := fun _ => ob) (m := fun i => l.length - i) (P := fun i => i ≤ l.length) ?_ 0 (Nat.zero_le _) rfl
  intro R i hi hN hE hR
  conv => whnf
  refine sel_split (fun h => ?_) (fun h => ?_)
  · conv => whnf
    have h := of_decide_eq_true h
    rw [hlen] at h
    obtain ⟨n, hg⟩ : ∃ n, l[i]? = some n := ⟨_, List.getElem?_eq_getElem (show i < l.length by omega)⟩
    have e : IntKind.i64.wrap ((i : Int) + 1) = ((i + 1 : Nat) : Int) := by rw [wrap64] <;> omega
    refine ⟨_, ⟨by omega, idx_cell hg⟩, ?_⟩
    conv => whnf
    refine ⟨_, ⟨by omega, idx_cell hg⟩, ?_⟩
    conv => whnf
    refine sel_f (by simp) ?_
    conv => whnf
    refine hN (i + 1) _ (by omega) (by omega) ?_
    rw [← e]; rfl
  · conv => whnf
    refine hE _ _ ?_
    conv => whnf
    exact ⟨rfl, rfl, rfl⟩
theorem idx_mc {l : List C} {k : Nat} (hk : k < 9) : ((l ++ marksC 9).map C.row)[l.length + k]? = some (cm k).row := by
  rw [List.getElem?_map, List.getElem?_append_right (by omega), show l.length + k - l.length = k by omega]
  have : (marksC 9)[k]? = some (cm k) := by
    unfold marksC; rw [List.getElem?_map, List.getElem?_range hk]; rfl
  rw [this]; rfl
theorem keptC_ok {E : Env} (h0 : E.fns 214 = some (.code tf214)) (h1 : E.fns 211 = some (.code tf211)) (l : List C) (hl : l.length ≤ 1048576) (lab : Nat) (sp : List (List LV)) (ob : Obs) (pb : Nat) : Gives E 211 [handCV l, sl5 false lab l sp] ob pb (.bool true, ob) := by
  have hlen : (l.map C.row).length = l.length := by simp
  have e9 : IntKind.i64.wrap (((l.map C.row).length : Int) + 9) = ((l.length + 9 : Nat) : Int) := by rw [hlen, wrap64] <;> omega
  refine gives_code (f := tf211) h1 ?_
  conv => whnf
  refine ⟨_, _, sameC_ok h0 l hl 0 lab ((marksC 9).map C.row) sp _ _, fun _ => rfl, ?_⟩
  conv => whnf
  refine ⟨(l ++ marksC 9).map C.row, [], ⟨⟨by omega, by rw [e9]; omega, by rw [e9]; simp [marksC]⟩, ?_, ?_⟩, ?_⟩
  · rw [e9, Int.toNat_natCast, ← List.map_append, List.take_of_length_le (by simp [marksC])]; rfl
  · rw [e9, Int.toNat_natCast, List.drop_of_length_le (by simp [marksC])]
  conv => whnf
  have hal : ((l ++ marksC 9).map C.row).length = l.length + 9 := by simp [marksC]
  refine loop_v (V := fun k : Nat => [(6, .int .i64 ((l.length + k : Nat) : Int))]) (O := fun _ => ob) (m := fun k => 9 - k) (P := fun k => k ≤ 9) ?_ 0 (Nat.zero_le _) ?_
  · intro R2 k hk hN2 hE2 hR2
    conv => whnf
    refine sel_split (fun h2 => ?_) (fun h2 => ?_)
    · conv => whnf
      have h2 := of_decide_eq_true h2
      rw [hal] at h2
      have hk9 : k < 9 := by omega
      have e : IntKind.i64.wrap (((l.length + k : Nat) : Int) + 1) = ((l.length + (k + 1) : Nat) : Int) := by rw [wrap64] <;> omega
      have e2 : IntKind.i64.wrap (IntKind.i64.wrap (-700 - ((l.length + k : Nat) : Int)) + ((l.map C.row).length : Int)) = -700 - (k : Int) := by
        rw [hlen]
        have : IntKind.i64.wrap (-700 - ((l.length + k : Nat) : Int)) = -700 - ((l.length + k : Nat) : Int) := by rw [wrap64] <;> omega
        rw [this, wrap64] <;> omega
      refine ⟨_, ⟨by omega, by rw [Int.toNat_natCast]; exact idx_mc hk9⟩, ?_⟩
      conv => whnf
      refine sel_f ?_ ?_
      · rw [e2]; simp [cm]
      conv => whnf
      refine hN2 (k + 1) _ (by omega) (by omega) ?_
      rw [← e]; rfl
    · conv => whnf
      refine hE2 _ _ ?_
      conv => whnf
      exact ⟨rfl, rfl, rfl⟩
  · show _ = WSt.head _ _ [(6, .int .i64 ((l.length + 0 : Nat) : Int))] ob
    have e5 : ((l.length + 0 : Nat) : Int) = ((l.map C.row).length : Int) := by rw [hlen]; rfl
    rw [e5]; rfl
end Tree

set_option autoImplicit false
set_option linter.unusedVariables false
set_option linter.unusedSimpArgs false
namespace Tree
open Go
set_option maxHeartbeats 8000000
set_option maxRecDepth 100000
/-- HandCells, wherever it is called. -/
def HandE (E : Env) : Prop := ∀ (l : List C) (lab : Nat) (sp : List (List LV)), l.length ≤ 1048576 → LV.noRefss 0 sp = true → ∀ (ob : Obs) (pb : Nat), Gives E 209 [sl5 false lab l sp] ob pb (handCV l, ob)
theorem handE_of {E E0 : Env} (h : E.fns 209 = some (.ext (frzF E0 209))) (h0 : E0.fns 209 = some (.code tf209)) : HandE E :=
  fun l lab sp hl hs ob pb => gives_ext h (handC_frz h0 l hl lab sp hs ob)
theorem handCV_noRef (n : Nat) (l : List C) : (handCV l).noRef n = true := by simp [handCV, LV.noRef, noRefss_c]
def marksR : List (List LV) := (marksC 9).map C.row
theorem marksR_noRef (n : Nat) : LV.noRefss n marksR = true := noRefss_c n _
def T1.hand (t : T1) : T1 := ⟨0, t.cs, marksR⟩
theorem handT_ok {E : Env} (h0 : E.fns 216 = some (.code tf216)) (H : HandE E) (l : List C) (lab : Nat) (sp : List (List LV)) (hl : l.length ≤ 1048576) (hs : LV.noRefss 0 sp = true) (ob : Obs) (pb : Nat) : Gives E 216 [sl5 false lab l sp] ob pb (handCV l, ob) := by
  refine gives_code (f := tf216) h0 ?_
  conv => whnf
  refine ⟨_, _, H l lab sp hl hs ob _, fun _ => handCV_noRef _ _, ?_⟩
  conv => whnf
  exact ⟨rfl, rfl, rfl⟩
theorem keptT_ok {E : Env} (h0 : E.fns 214 = some (.code tf214)) (h1 : E.fns 211 = some (.code tf211)) (h2 : E.fns 220 = some (.code tf220)) (l : List C) (hl : l.length ≤ 1048576) (lab : Nat) (sp : List (List LV)) (ob : Obs) (pb : Nat) : Gives E 220 [handCV l, sl5 false lab l sp] ob pb (.bool true, ob) := by
  refine gives_code (f := tf220) h2 ?_
  conv => whnf
  refine ⟨_, _, keptC_ok h0 h1 l hl lab sp ob _, fun _ => rfl, ?_⟩
  conv => whnf
  exact ⟨rfl, rfl, rfl⟩
def Cl.hand (c : Cl) : Cl := ⟨0, c.head, marksR, 0, c.guards.map T1.hand, [], 0, c.body.map T1.hand, [], c.locals⟩
theorem Cl.fine.hand {c : Cl} (h : c.fine) : c.hand.fine where
  hl := h.hl
  hf := h.hf
  gl := by show (c.guards.map T1.hand).length ≤ _; rw [List.length_map]; exact h.gl
  gf := fun t ht => by obtain ⟨u, hu, rfl⟩ := List.mem_map.1 ht; exact h.gf u hu
  bl := by show (c.body.map T1.hand).length ≤ _; rw [List.length_map]; exact h.bl
  bf := fun t ht => by obtain ⟨u, hu, rfl⟩ := List.mem_map.1 ht; exact h.bf u hu
  hn := fun n => marksR_noRef n
  gn := fun t ht n => by obtain ⟨u, hu, rfl⟩ := List.mem_map.1 ht; exact marksR_noRef n
  bn := fun t ht n => by obtain ⟨u, hu, rfl⟩ := List.mem_map.1 ht; exact marksR_noRef n
  gc := fun t ht => by obtain ⟨u, hu, rfl⟩ := List.mem_map.1 ht; exact h.gc u hu
  bc := fun t ht => by obtain ⟨u, hu, rfl⟩ := List.mem_map.1 ht; exact h.bc u hu
end Tree
