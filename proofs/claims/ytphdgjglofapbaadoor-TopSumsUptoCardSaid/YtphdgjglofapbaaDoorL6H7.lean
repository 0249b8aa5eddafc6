/- Layer 6: sums, by the program and by the document. -/
import Derived.Test.YtphdgjglofapbaaDoorL6H6
set_option autoImplicit false
set_option linter.unusedVariables false
set_option linter.unusedSimpArgs false
namespace Tree.H6
open Go
set_option maxHeartbeats 8000000
set_option maxRecDepth 100000
/-- What comes of a part: its number, whether it fails, for which variables it waits. -/
abbrev Rz := Int × Bool × List NV
def Rz.lv (x : Rz) : LV := sumL x.1 x.2.1 false x.2.2
def nz (x : Rz) : Int := if x.2.1 then 0 else match x.2.2 with | [] => x.1 | _ => 0
def uz (x : Rz) : List NV := if x.2.1 then [] else x.2.2
def Rz.out (x : Rz) : LV := .tup [.int .i64 (nz x), .int .u8 (outZ x.2.1 x.2.2), sl2 false 0 (uz x) []]
def fz (rs : List Rz) : Bool := rs.any (·.2.1)
def wz (rs : List Rz) : List NV := rs.foldl (fun acc x => bothS acc x.2.2) []
theorem any_take (rs : List Rz) (i : Nat) (x : Rz) (h : rs[i]? = some x) : fz (rs.take (i + 1)) = (fz (rs.take i) || x.2.1) := by
  unfold fz; rw [List.take_add_one, h, List.any_append]; simp
theorem wz_take (rs : List Rz) (i : Nat) (x : Rz) (h : rs[i]? = some x) : wz (rs.take (i + 1)) = bothS (wz (rs.take i)) x.2.2 := by
  unfold wz; rw [List.take_add_one, h, List.foldl_append]; rfl
theorem wz_len (rs : List Rz) : (wz rs).length ≤ (rs.map fun x => x.2.2.length).sum := by
  have : ∀ (rs : List Rz) (acc : List NV), (rs.foldl (fun acc x => bothS acc x.2.2) acc).length ≤ acc.length + (rs.map fun x => x.2.2.length).sum := by
    intro rs
    induction rs with
    | nil => intro acc; simp
    | cons x rs ih =>
      intro acc
      have h1 := ih (bothS acc x.2.2)
      have h2 := bothS_len x.2.2 acc
      simp only [List.foldl_cons, List.map_cons, List.sum_cons] at *
      omega
  have := this rs []
  simpa [wz] using this
theorem sum_take (l : List Nat) (i : Nat) : (l.take i).sum ≤ l.sum := by
  have := congrArg List.sum (List.take_append_drop i l)
  rw [List.sum_append] at this; omega
theorem noRefss_n (n : Nat) : ∀ l : List NV, LV.noRefss n (l.map nrow) = true
  | [] => by simp [LV.noRefss]
  | c :: l => by
    have ih := noRefss_n n l
    simp [List.map_cons, LV.noRefss, ih, nrow, LV.noRefs, LV.noRef]
section
variable {ob : Obs} {c : C} {t : List C} (hR : RightP (c :: t)) (hf : ∀ d ∈ c :: t, d.fine) (hk : c.k = 3) (ho : SumOp c) {rs : List Rz} (hlen : rs.length = (argsR (c :: t)).length) (hw : (rs.map fun x => x.2.2.length).sum ≤ 256)
include hR hf hk ho hlen hw
theorem reckon_op {p : LV} (hp : isPtr p) (hg : ∀ (i : Nat) a x, (argsR (c :: t))[i]? = some a → rs[i]? = some x → ∀ pb, Gives env6 238 [p, sl5 false 0 a []] ob pb (Rz.lv x, ob)) (lab : Nat) (sp : List (List LV)) (pb : Nat) (x : Rz) (hx : x = if outZ (fz rs) (wz rs) ≠ 1 then (0, fz rs, wz rs) else ((reckonS c.text (rs.map (·.1))).1, !(reckonS c.text (rs.map (·.1))).2, [])) : Gives env6 238 [p, sl5 false lab (c :: t) sp] ob pb (Rz.lv x, ob) := by
  have hl : (c :: t).length ≤ 4611686018427387904 := by have := hR.2.1; omega
  have hla := argsR_len (c :: t)
  have hlen2 : (((argsR (c :: t)).map T1.mk0).map T1.row).length = (argsR (c :: t)).length := by simp
  have gA := fun ob pb => (args_ok lab (c :: t) sp hl hf ob pb).le le16
  have gO := fun ob pb => isOp_ok c ob pb true (by simp [hk, ho])
  have gR : ∀ ob pb, Gives env6 222 [.str c.text, .sl false 0 1 ((rs.map fun x : Rz => x.1).map zrow) []] ob pb (recV (reckonS c.text (rs.map fun x : Rz => x.1)), ob) := fun ob pb => reckon_ok c.text (rs.map fun x : Rz => x.1) (by rw [List.length_map]; omega) false 0 [] ob pb
  rcases hp with rfl | ⟨id, rfl⟩
  all_goals
    refine gives_code (f := tf238) rfl ?_
    conv => whnf
    refine ⟨_, ⟨by omega, idx_row (cs := c :: t) (i := 0) rfl⟩, ?_⟩
    conv => whnf
    refine sel_f (by simp; omega) ?_
    conv => whnf
    refine sel_f (by simp; omega) ?_
    conv => whnf
    refine ⟨_, _, gO _ _, fun _ => rfl, ?_⟩
    conv => whnf
    refine ⟨_, _, gA _ _, fun _ => noRefM _ _, ?_⟩
    conv => whnf
    refine loop_x (V := fun i : Nat => [(7, .box [.int .i64 0, .bool (fz (rs.take i)), sl2 true 0 (wz (rs.take i)) []]), (8, .val (zsl true 0 ((rs.take i).map (·.1)) [])), (59, .val (.int .i64 i))]) (O := fun _ => ob) (m := fun i => (argsR (c :: t)).length - i) (P := fun i => i ≤ (argsR (c :: t)).length) ?_ 0 (Nat.zero_le _) rfl
    intro R i hi hN hE hR
    have hwi : (wz (rs.take i)).length ≤ 256 := by
      have h1 := wz_len (rs.take i)
      rw [List.map_take] at h1
      have h2 := sum_take (rs.map fun x => x.2.2.length) i
      omega
    conv => whnf
    refine sel_split (fun h => ?_) (fun h => ?_)
    · conv => whnf
      have h := of_decide_eq_true h
      rw [hlen2] at h
      obtain ⟨a, ha⟩ : ∃ a, (argsR (c :: t))[i]? = some a := ⟨_, List.getElem?_eq_getElem (show i < (argsR (c :: t)).length by omega)⟩
      obtain ⟨y, hy⟩ : ∃ y, rs[i]? = some y := ⟨_, List.getElem?_eq_getElem (show i < rs.length by omega)⟩
      have e : IntKind.i64.wrap ((i : Int) + 1) = ((i + 1 : Nat) : Int) := by rw [wrap64] <;> omega
      have ht : ((argsR (c :: t)).map T1.mk0)[i]? = some (T1.mk0 a) := by rw [List.getElem?_map, ha]; rfl
      refine ⟨_, ⟨by omega, idx_t ht⟩, ?_⟩
      conv => whnf
      obtain ⟨yv, yf, yw⟩ := y
      refine ⟨_, _, hg i a _ ha hy _, fun _ => ?_, ?_⟩
      · simp only [Rz.lv, sumL, LV.noRef, LV.noRefs, noRefss_n, LV.noRefss, Bool.and_self]
      have hwy : yw.length ≤ 256 := by
        have h1 : yw.length ∈ rs.map fun x => x.2.2.length := List.mem_map.2 ⟨_, List.mem_of_getElem? hy, rfl⟩
        have h2 : ∀ (l : List Nat) (n : Nat), n ∈ l → n ≤ l.sum := by
          intro l n
          induction l with
          | nil => intro h; cases h
          | cons a l ih =>
            intro h
            simp only [List.sum_cons]
            rcases List.mem_cons.1 h with rfl | h
            · omega
            · have := ih h; omega
        have := h2 _ _ h1
        omega
      have hF := any_take rs i _ hy
      have hW := wz_take rs i _ hy
      have hM : (rs.take (i + 1)).map (·.1) = (rs.take i).map (·.1) ++ [yv] := by rw [List.take_add_one, hy, List.map_append]; rfl
      conv => whnf
      refine sel_split (fun h2 => ?_) (fun h2 => ?_)
      · conv => whnf
        refine ⟨_, _, more_ok (wz (rs.take i)) yw 0 [] (by omega) ob _, fun _ => by simp only [LV.noRef, noRefss_n, LV.noRefss, Bool.and_self], ?_⟩
        conv => whnf
        refine ⟨(((rs.take (i + 1)).map (·.1))).map zrow, ⟨.inl rfl, ?_, ?_⟩, ?_⟩
        · show ((((rs.take i).map (·.1)).map zrow).length + 1) * 8 ≤ _
          rw [List.length_map, List.length_map, List.length_take]; omega
        · rw [hM, List.map_append]; rfl
        conv => whnf
        refine hN (i + 1) _ (by omega) (by omega) ?_
        rw [hF, hW, h2, ← e]; rfl
      · conv => whnf
        refine ⟨_, _, more_ok (wz (rs.take i)) yw 0 [] (by omega) ob _, fun _ => by simp only [LV.noRef, noRefss_n, LV.noRefss, Bool.and_self], ?_⟩
        conv => whnf
        refine ⟨(((rs.take (i + 1)).map (·.1))).map zrow, ⟨.inl rfl, ?_, ?_⟩, ?_⟩
        · show ((((rs.take i).map (·.1)).map zrow).length + 1) * 8 ≤ _
          rw [List.length_map, List.length_map, List.length_take]; omega
        · rw [hM, List.map_append]; rfl
        conv => whnf
        refine hN (i + 1) _ (by omega) (by omega) ?_
        rw [hF, hW, h2, ← e]; rfl
    · conv => whnf
      have h := of_decide_eq_false h
      rw [hlen2] at h
      have : i = rs.length := by omega
      subst this
      refine hE _ _ ?_
      rw [List.take_length]
      conv => whnf
      refine ⟨_, _, outcome_ok 0 (fz rs) false (wz rs) ob _, fun _ => rfl, ?_⟩
      conv => whnf
      refine sel_split (fun h2 => ?_) (fun h2 => ?_)
      · conv => whnf
        have h2 : outZ (fz rs) (wz rs) ≠ 1 := by simpa using h2
        rw [if_pos h2] at hx
        subst hx
        exact ⟨rfl, rfl, rfl⟩
      · conv => whnf
        have h2 : outZ (fz rs) (wz rs) = 1 := by simpa using h2
        rw [if_neg (by simp [h2])] at hx
        refine ⟨_, ⟨by omega, idx_row (cs := c :: t) (i := 0) rfl⟩, ?_⟩
        conv => whnf
        refine ⟨_, _, gR ob _, fun _ => rfl, ?_⟩
        conv => whnf
        refine ⟨rfl, ?_, rfl⟩
        rw [hx]; rfl
end
end Tree.H6
