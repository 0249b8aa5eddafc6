/- Layer 15: tables; the program's methods, what E answers. -/
import Derived.Test.YtfdamolkgfcoiaaL15Env
set_option autoImplicit false
set_option linter.unusedVariables false
set_option linter.unusedSimpArgs false
namespace Tree.O15
open Go
set_option maxHeartbeats 8000000
set_option maxRecDepth 100000
def irow (n : Int) : List LV := [.int .i64 n]
abbrev slI (o : Bool) (l : List Int) : LV := .sl o 0 1 (l.map irow) []
theorem idx_i {l : List Int} {i : Nat} {n : Int} (h : l[i]? = some n) : (l.map irow)[i]? = some [.int .i64 n] := by
  rw [List.getElem?_map, h]; rfl
theorem noRefI (n : Nat) : ∀ l : List Int, LV.noRefss n (l.map irow) = true
  | [] => by simp [LV.noRefss]
  | a :: r => by
    have := noRefI n r
    simp only [List.map_cons, LV.noRefss, irow, LV.noRefs, LV.noRef, Bool.and_self]; exact this
theorem noRefSI (n : Nat) (o : Bool) (l : List Int) : (slI o l).noRef n = true := by
  simp only [LV.noRef, noRefI, LV.noRefss, Bool.and_self]
/-- Who waits, by variables. -/
abbrev Wm := List (NV × List Int × Int)
def wE (W : Wm) : List En := W.map fun e => (e.1, slI false e.2.1, e.2.2)
def gE (G : List (NV × Int)) : List En := G.map fun e => (e.1, .bool true, e.2)
def lkW (W : Wm) (k : NV) : List Int := ((W.find? fun e => decide (e.1 = k)).map (·.2.1)).getD []
theorem lk_wE (k : NV) : ∀ W : Wm, lk (wE W) k = (W.find? fun e => decide (e.1 = k)).map fun e => slI false e.2.1
  | [] => rfl
  | e :: r => by
    have ih := lk_wE k r
    simp only [wE, List.map_cons, lk, List.find?_cons]
    by_cases h : e.1 = k
    · simp [h]
    · rw [if_neg h]; simp only [h, decide_false]; exact ih
theorem lkD_wE (k : NV) (W : Wm) : (lk (wE W) k).getD (.sl true 0 1 [] []) = .sl (lk (wE W) k).isNone 0 1 ((lkW W k).map irow) [] := by
  rw [lk_wE]; unfold lkW
  cases W.find? fun e => decide (e.1 = k) <;> rfl
/-- A table and its two maps. -/
structure Tb (ob : Obs) (id w g : Nat) (c : Int) (W : Wm) (d : Int) (G : List (NV × Int)) : Prop where
  t : ob[id]? = some [.mref w, .mref g]
  hw : ob[w]? = some (mE c (wE W))
  hg : ob[g]? = some (mE d (gE G))
  wg : w ≠ g
  tw : id ≠ w
  tg : id ≠ g
theorem get_set_ne {ob : Obs} {i j : Nat} {v x : List LV} (h : ob[i]? = some x) (hn : j ≠ i) : (ob.set j v)[i]? = some x := by
  rw [List.getElem?_set_ne hn]; exact h
theorem get_set_eq {ob : Obs} {i : Nat} {v x : List LV} (h : ob[i]? = some x) : (ob.set i v)[i]? = some v := by
  have := (List.getElem?_eq_some_iff.1 h).1
  rw [List.getElem?_set_self this]
section
variable {ob : Obs} {id w g : Nat} {c : Int} {W : Wm} {d : Int} {G : List (NV × Int)} (h : Tb ob id w g c W d G)
include h
theorem Tb.setW (c' : Int) (W' : Wm) : Tb (ob.set w (mE c' (wE W'))) id w g c' W' d G :=
  ⟨get_set_ne h.t h.tw.symm, get_set_eq h.hw, get_set_ne h.hg h.wg, h.wg, h.tw, h.tg⟩
theorem waiters_raw0 (v : NV) (hl : lkW W v = []) (pb : Nat) : Gives env15r 60 [.optr id 0, nm v.1 v.2] ob pb (.sl true 0 1 [] [], ob) := by
  refine gives_code (f := tf60) rfl ?_
  conv => whnf
  refine ⟨_, _, ⟨h.t, rfl, rfl⟩, ?_⟩
  conv => whnf
  refine ⟨_, _, look_of h.hw _ v, ?_⟩
  rw [lkD_wE, hl]
  conv => whnf
  exact ⟨rfl, rfl, rfl⟩
omit h in
theorem flat_i : ∀ l : List Int, (l.map irow).flatten = l.map fun n => LV.int .i64 n
  | [] => rfl
  | a :: r => by simp only [List.map_cons, List.flatten_cons, irow, flat_i r]; rfl
theorem waiters_raw1 (v : NV) (hl : lkW W v ≠ []) (hm : (lkW W v).length ≤ 4294967296) (pb : Nat) (hpb : pb ≤ ob.length) : Gives env15r 60 [.optr id 0, nm v.1 v.2] ob pb (.msl ob.length 0 (lkW W v).length (lkW W v).length 1, ob ++ [(lkW W v).map fun n => LV.int .i64 n]) := by
  have hlen : ((lkW W v).map irow).length = (lkW W v).length := by simp
  have h0 : (lkW W v).length ≠ 0 := fun e => hl (List.length_eq_zero_iff.1 e)
  have hob : ∀ (i : Nat) (x y : List LV), ob[i]? = some x → (ob ++ [y])[i]? = some x := fun i x y e => by
    rw [List.getElem?_append_left (List.getElem?_eq_some_iff.1 e).1]; exact e
  refine gives_code (f := tf60) rfl ?_
  conv => whnf
  refine ⟨_, _, ⟨h.t, rfl, rfl⟩, ?_⟩
  conv => whnf
  refine ⟨_, _, look_of h.hw _ v, ?_⟩
  rw [lkD_wE]
  conv => whnf
  refine sel_f (by rw [hlen]; simp; omega) ?_
  conv => whnf
  refine ⟨_, _, ⟨h.t, rfl, rfl⟩, ?_⟩
  conv => whnf
  refine ⟨_, _, look_of h.hw _ v, ?_⟩
  rw [lkD_wE]
  conv => whnf
  refine ⟨(lkW W v).length, (lkW W v).length, List.replicate (lkW W v).length (.int .i64 0), ⟨⟨by omega, Int.le_refl _, by rw [hlen]; omega, rfl, rfl⟩, by rw [hlen]; rfl, by rw [hlen]; rfl, ?_⟩, ?_⟩
  · rw [hlen, Int.toNat_natCast, List.flatten_replicate_singleton]
  conv => whnf
  refine ⟨_, _, ⟨hob _ _ _ h.t, rfl, rfl⟩, ?_⟩
  conv => whnf
  refine ⟨_, _, look_of (hob _ _ _ h.hw) _ v, ?_⟩
  rw [lkD_wE]
  conv => whnf
  refine ⟨(1, (lkW W v).map irow), List.replicate (lkW W v).length (.int .i64 0), (lkW W v).map (fun n => LV.int .i64 n), (lkW W v).length, ⟨hpb, rfl, .inl rfl, by simp, ?_, ?_, ?_⟩, ?_⟩
  · cases (lkW W v).length <;> rfl
  · rw [List.take_of_length_le (by rw [hlen]; exact Nat.le_refl _), flat_i]
    have e1 : ((lkW W v).map fun n => LV.int .i64 n).map LV.bare1 = (lkW W v).map fun n => LV.int .i64 n := by rw [List.map_map]; rfl
    rw [e1]
    unfold splice
    rw [if_pos (by simp)]
    simp
  · rw [hlen]; simp
  conv => whnf
  refine ⟨rfl, rfl, ?_⟩
  show (ob ++ [_]).set ob.length _ = _
  simp
omit h in
theorem frz_w (v : NV) (n0 : Nat) (hn : n0 ≤ ob.length) : frzO n0 (ob ++ [(lkW W v).map fun n => LV.int .i64 n]) (.msl ob.length 0 (lkW W v).length (lkW W v).length 1) = some (slI true (lkW W v)) := by
  have e : (ob ++ [(lkW W v).map fun n => LV.int .i64 n])[ob.length]? = some ((lkW W v).map fun n => LV.int .i64 n) := by simp
  have hr : frzRows ((lkW W v).map fun n => LV.int .i64 n) 0 (lkW W v).length 1 = (lkW W v).map irow := by
    apply List.ext_getElem?; intro i
    by_cases hi : i < (lkW W v).length
    · rw [frzRows, List.getElem?_map, List.getElem?_range hi, Option.map_some, List.getElem?_map, List.getElem?_eq_getElem hi]
      simp only [Nat.zero_add, Nat.mul_one, Option.map_some]
      rw [List.drop_eq_getElem_cons (by simpa using hi)]
      simp [irow, LV.bare1]
    · rw [List.getElem?_eq_none (by simp [frzRows]; omega), List.getElem?_eq_none (by rw [List.length_map]; omega)]
  have hno : LV.noRefs n0 ((lkW W v).map fun n => LV.int .i64 n) = true := by
    generalize lkW W v = l
    induction l with
    | nil => simp [LV.noRefs]
    | cons a l ih => simp only [List.map_cons, LV.noRefs, LV.noRef, ih, Bool.and_self]
  have hmp : isMapC ((lkW W v).map fun n => LV.int .i64 n) = false := by cases lkW W v <;> rfl
  simp only [frzO, if_pos hn, e]
  rw [if_pos ⟨hmp, by simp, Nat.le_refl _, hno⟩, hr, List.take_of_length_le (by simp), List.drop_of_length_le (by simp)]
  simp
theorem waiters_ok (v : NV) (hm : (lkW W v).length ≤ 4294967296) (pb : Nat) : Gives env15 60 [.optr id 0, nm v.1 v.2] ob pb (slI true (lkW W v), ob) := by
  have hf : frzOF env15r 60 [.optr id 0, nm v.1 v.2] ob = some (slI true (lkW W v)) := by
    by_cases hl : lkW W v = []
    · have := frzOF_of (r' := .sl true 0 1 [] []) (waiters_raw0 h v hl ob.length) (by simp [frzO, LV.noRef, LV.noRefss]) rfl
      rw [hl]; exact this
    · exact frzOF_of (waiters_raw1 h v hl hm ob.length (Nat.le_refl _)) (frz_w (W := W) v ob.length (Nat.le_refl _)) rfl
  exact gives_ext (F := frzOF env15r 60) rfl hf
end
end Tree.O15
