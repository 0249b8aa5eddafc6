/- A part of the interpreter over trees and of its proof. -/
import Derived.Test.YtfdamolkgfcoiaaL15O1
set_option autoImplicit false
set_option linter.unusedVariables false
set_option linter.unusedSimpArgs false
namespace Tree.O15
open Go
set_option maxHeartbeats 8000000
set_option maxRecDepth 100000
theorem index_ok (l : List Int) (n : Int) (hl : l.length ≤ 4611686018427387904) (ob : Obs) (pb : Nat) : ∃ j : Int, (j ≥ 0 ↔ n ∈ l) ∧ Gives env15 85 [slI false l, .int .i64 n] ob pb (.int .i64 j, ob) := by
  have hlen : (l.map irow).length = l.length := by simp
  by_cases hm : n ∈ l
  · obtain ⟨i0, hi0, hb⟩ : ∃ i : Nat, l[i]? = some n ∧ ∀ (k : Nat) y, k < i → l[k]? = some y → y ≠ n := by
      apply Classical.byContradiction
      intro hn
      have all : ∀ m : Nat, ∀ (k : Nat), k < m → l[k]? ≠ some n := by
        intro m
        induction m with
        | zero => intro k hk; omega
        | succ m ih =>
          intro k hk hd
          by_cases hkn : k < m
          · exact ih k hkn hd
          · have : k = m := by omega
            subst this
            exact hn ⟨k, hd, fun j y hj hy e => ih j hj (by rw [hy, e])⟩
      obtain ⟨i, hi, e⟩ := List.getElem_of_mem hm
      exact all (i + 1) i (by omega) (by rw [List.getElem?_eq_getElem hi, e])
    refine ⟨i0, ⟨fun _ => hm, fun _ => by omega⟩, ?_⟩
    have hil := (List.getElem?_eq_some_iff.1 hi0).1
    refine gives_code (f := tf85) rfl ?_
    conv => whnf
    refine loop_v (V := fun i : Nat => [(8, .int .i64 i)]) (O := fun _ => ob) (m := fun i => l.length - i) (P := fun i => i ≤ i0) ?_ 0 (Nat.zero_le _) rfl
    intro R i hi hN hE hR
    conv => whnf
    refine sel_t (by rw [hlen]; simp; omega) ?_
    conv => whnf
    obtain ⟨x, hx⟩ : ∃ x, l[i]? = some x := ⟨_, List.getElem?_eq_getElem (show i < l.length by omega)⟩
    refine ⟨_, ⟨by omega, idx_i hx⟩, ?_⟩
    conv => whnf
    refine sel_split (fun h3 => ?_) (fun h3 => ?_)
    · conv => whnf
      refine hR _ ?_
      conv => whnf
      have hnx : n = x := by simpa using h3
      have : i = i0 := by
        by_cases hlt : i < i0
        · exact absurd hnx.symm (hb i x hlt hx)
        · omega
      subst this
      exact ⟨rfl, rfl, rfl⟩
    · conv => whnf
      have hnx : n ≠ x := by simpa using h3
      have e : IntKind.i64.wrap ((i : Int) + 1) = ((i + 1 : Nat) : Int) := by rw [wrap64] <;> omega
      refine hN (i + 1) _ ?_ (by omega) ?_
      · by_cases hlt : i = i0
        · subst hlt; rw [hx] at hi0; injection hi0 with hi0; exact absurd hi0.symm hnx
        · omega
      · rw [← e]; rfl
  · refine ⟨-1, ⟨fun h => by omega, fun h => absurd h hm⟩, ?_⟩
    refine gives_code (f := tf85) rfl ?_
    conv => whnf
    refine loop_v (V := fun i : Nat => [(8, .int .i64 i)]) (O := fun _ => ob) (m := fun i => l.length - i) (P := fun i => i ≤ l.length) ?_ 0 (Nat.zero_le _) rfl
    intro R i hi hN hE hR
    conv => whnf
    refine sel_split (fun h => ?_) (fun h => ?_)
    · conv => whnf
      have h := of_decide_eq_true h
      rw [hlen] at h
      obtain ⟨x, hx⟩ : ∃ x, l[i]? = some x := ⟨_, List.getElem?_eq_getElem (show i < l.length by omega)⟩
      refine ⟨_, ⟨by omega, idx_i hx⟩, ?_⟩
      conv => whnf
      have hnx : n ≠ x := fun e => hm (by rw [e]; exact List.mem_of_getElem? hx)
      refine sel_f (by simpa using hnx) ?_
      conv => whnf
      have e : IntKind.i64.wrap ((i : Int) + 1) = ((i + 1 : Nat) : Int) := by rw [wrap64] <;> omega
      refine hN (i + 1) _ (by omega) (by omega) ?_
      rw [← e]; rfl
    · conv => whnf
      refine hE _ _ ?_
      conv => whnf
      exact ⟨rfl, rfl, rfl⟩
theorem contains_ok (l : List Int) (n : Int) (hl : l.length ≤ 4611686018427387904) (ob : Obs) (pb : Nat) (r : Bool) (hr : r = true ↔ n ∈ l) : Gives env15 583 [slI false l, .int .i64 n] ob pb (.bool r, ob) := by
  obtain ⟨j, hj, hg⟩ := index_ok l n hl ob (max pb ob.length)
  refine gives_code (f := tf583) rfl ?_
  conv => whnf
  refine ⟨_, _, hg, fun _ => rfl, ?_⟩
  conv => whnf
  refine ⟨rfl, bool_of hr ?_, rfl⟩
  rw [decide_eq_true_iff, hj]
theorem new_ok (ob : Obs) (pb : Nat) : Gives env15 59 [] ob pb (.optr (ob.length + 2) 0, ob ++ [mE 0 (wE [])] ++ [mE 0 (gE [])] ++ [[.mref ob.length, .mref (ob.length + 1)]]) := by
  refine gives_code (f := tf59) rfl ?_
  conv => whnf
  refine ⟨rfl, ?_, ?_⟩
  · show LV.optr ((ob ++ [_]) ++ [_]).length 0 = _
    simp
  · show ((ob ++ [_]) ++ [_]) ++ [[LV.mref ob.length, LV.mref (ob ++ [_]).length]] = _
    simp [mE, wE, gE]
theorem new_tb (ob : Obs) : Tb (ob ++ [mE 0 (wE [])] ++ [mE 0 (gE [])] ++ [[.mref ob.length, .mref (ob.length + 1)]]) (ob.length + 2) ob.length (ob.length + 1) 0 [] 0 [] where
  t := by simp [List.append_assoc]
  hw := by simp [List.append_assoc]
  hg := by simp [List.append_assoc]
  wg := by omega
  tw := by omega
  tg := by omega
/-- Of a variable: those that wait for it. -/
def setW (W : Wm) (k : NV) (l : List Int) (c : Int) : Wm := match W with
  | [] => [(k, l, c)]
  | e :: r => if e.1 = k then (e.1, l, e.2.2) :: r else e :: setW r k l c
def delW (W : Wm) (k : NV) : Wm := match W with
  | [] => []
  | e :: r => if e.1 = k then r else e :: delW r k
theorem pt_wE (k : NV) (l : List Int) (c : Int) : ∀ W : Wm, pt (wE W) k (slI false l) c = wE (setW W k l c)
  | [] => rfl
  | e :: r => by
    have ih := pt_wE k l c r
    simp only [wE, List.map_cons, pt, setW] at ih ⊢
    split
    · rfl
    · rw [ih]; rfl
theorem dl_wE (k : NV) : ∀ W : Wm, dl (wE W) k = wE (delW W k)
  | [] => rfl
  | e :: r => by
    have ih := dl_wE k r
    simp only [wE, List.map_cons, dl, delW] at ih ⊢
    split
    · rfl
    · rw [ih]; rfl
theorem lkW_set (k : NV) (l : List Int) (c : Int) (x : NV) : ∀ W : Wm, lkW (setW W k l c) x = if x = k then l else lkW W x
  | [] => by
    simp only [setW, lkW, List.find?_cons, List.find?_nil]
    by_cases h : x = k
    · simp [h]
    · have : ¬ k = x := fun e => h e.symm
      simp [h, this]
  | e :: r => by
    have ih := lkW_set k l c x r
    unfold lkW at ih ⊢
    simp only [setW]
    by_cases h : e.1 = k
    · rw [if_pos h]
      simp only [List.find?_cons]
      by_cases hx : x = k
      · rw [if_pos hx]
        have : e.1 = x := by rw [h, hx]
        simp [this]
      · rw [if_neg hx]
        have : ¬ e.1 = x := by rw [h]; exact fun e => hx e.symm
        simp [this]
    · rw [if_neg h]
      simp only [List.find?_cons]
      by_cases hx : e.1 = x
      · have : x ≠ k := by rw [← hx]; exact h
        simp [hx, this]
      · simp only [hx, decide_false]; exact ih
/-- Each variable stands once. -/
def onceW (W : Wm) : Prop := (W.map (·.1)).Nodup
theorem lkW_not {W : Wm} {x : NV} (h : x ∉ W.map (·.1)) : lkW W x = [] := by
  induction W with
  | nil => rfl
  | cons e r ih =>
    simp only [List.map_cons, List.mem_cons, not_or] at h
    unfold lkW at ih ⊢
    have h1 : ¬ e.1 = x := fun e' => h.1 e'.symm
    simp only [List.find?_cons, h1, decide_false]
    exact ih h.2
theorem lkW_del {W : Wm} (h : onceW W) (k x : NV) : lkW (delW W k) x = if x = k then [] else lkW W x := by
  induction W with
  | nil => simp [delW, lkW]
  | cons e r ih =>
    unfold onceW at h
    simp only [List.map_cons, List.nodup_cons] at h
    simp only [delW]
    by_cases hk : e.1 = k
    · rw [if_pos hk]
      by_cases hx : x = k
      · rw [if_pos hx]; exact lkW_not (by rw [hx, ← hk]; exact h.1)
      · rw [if_neg hx]
        unfold lkW
        simp only [List.find?_cons, decide_eq_false (fun e' : e.1 = x => hx (by rw [← e', hk]))]
    · rw [if_neg hk]
      have ih := ih h.2
      unfold lkW at ih ⊢
      simp only [List.find?_cons]
      by_cases hx : e.1 = x
      · have : x ≠ k := by rw [← hx]; exact hk
        simp [hx, this]
      · simp only [hx, decide_false]; exact ih
theorem setW_keys (k : NV) (l : List Int) (c : Int) : ∀ (W : Wm) (x : NV), x ∈ (setW W k l c).map (·.1) → x ∈ W.map (·.1) ∨ x = k
  | [], x, h => by simp [setW] at h; exact .inr h
  | e :: r, x, h => by
    simp only [setW] at h
    split at h
    · exact .inl h
    · simp only [List.map_cons, List.mem_cons] at h ⊢
      rcases h with h | h
      · exact .inl (.inl h)
      · rcases setW_keys k l c r x h with h | h
        · exact .inl (.inr h)
        · exact .inr h
theorem once_set {W : Wm} (h : onceW W) (k : NV) (l : List Int) (c : Int) : onceW (setW W k l c) := by
  induction W with
  | nil => simp [onceW, setW]
  | cons e r ih =>
    unfold onceW at h
    simp only [List.map_cons, List.nodup_cons] at h
    simp only [setW]
    split
    · simp only [onceW, List.map_cons, List.nodup_cons]; exact h
    · rename_i hk
      simp only [onceW, List.map_cons, List.nodup_cons]
      refine ⟨fun hm => ?_, ih h.2⟩
      rcases setW_keys k l c r e.1 hm with h1 | h1
      · exact h.1 h1
      · exact hk h1
section
variable {ob : Obs} {id w g pb : Nat} {c : Int} {W : Wm} {d : Int} {G : List (NV × Int)} (h : Tb ob id w g c W d G) (hw : pb ≤ w) (hg : pb ≤ g)
include h
theorem ask_no (v : NV) (n : Int) (hm : (lkW W v).length ≤ 4294967295) (hn : n ∈ lkW W v) : Gives env15 61 [.optr id 0, nm v.1 v.2, .int .i64 n] ob pb (.bool false, ob) := by
  refine gives_code (f := tf61) rfl ?_
  conv => whnf
  refine ⟨_, _, ⟨h.t, rfl, rfl⟩, ?_⟩
  conv => whnf
  refine ⟨_, _, look_of h.hw _ v, ?_⟩
  rw [lkD_wE]
  conv => whnf
  refine ⟨_, _, contains_ok (lkW W v) n (by omega) ob _ true (by simp [hn]), fun _ => rfl, ?_⟩
  conv => whnf
  exact ⟨rfl, rfl, rfl⟩
include hw
theorem ask_yes (v : NV) (n : Int) (hm : (lkW W v).length ≤ 4294967295) (hn : n ∉ lkW W v) : Gives env15 61 [.optr id 0, nm v.1 v.2, .int .i64 n] ob pb (.bool true, ob.set w (mE (ck (wE W) v c) (wE (setW W v (lkW W v ++ [n]) c)))) := by
  refine gives_code (f := tf61) rfl ?_
  conv => whnf
  refine ⟨_, _, ⟨h.t, rfl, rfl⟩, ?_⟩
  conv => whnf
  refine ⟨_, _, look_of h.hw _ v, ?_⟩
  rw [lkD_wE]
  conv => whnf
  refine ⟨_, _, contains_ok (lkW W v) n (by omega) ob _ false (by simp [hn]), fun _ => rfl, ?_⟩
  conv => whnf
  refine ⟨_, _, ⟨h.t, rfl, rfl⟩, ?_⟩
  conv => whnf
  refine ⟨_, _, waiters_ok h v (by omega) _, fun _ => noRefSI _ _ _, ?_⟩
  conv => whnf
  refine ⟨(lkW W v ++ [n]).map irow, ⟨.inl rfl, ?_, by rw [List.map_append]; rfl⟩, ?_⟩
  · show (((lkW W v).map irow).length + 1) * 8 ≤ _
    rw [List.length_map]; omega
  conv => whnf
  refine ⟨_, _, ⟨hw, h.hw, (mapPut_n v (slI false (lkW W v ++ [n])) c (wE W))⟩, ?_⟩
  rw [pt_wE]
  conv => whnf
  exact ⟨rfl, rfl, rfl⟩
theorem tell_ok (v : NV) (hm : (lkW W v).length ≤ 4294967295) : Gives env15 62 [.optr id 0, nm v.1 v.2] ob pb (slI true (lkW W v), ob.set w (mE c (wE (delW W v)))) := by
  refine gives_code (f := tf62) rfl ?_
  conv => whnf
  refine ⟨_, _, waiters_ok h v (by omega) _, fun _ => noRefSI _ _ _, ?_⟩
  conv => whnf
  refine ⟨_, _, ⟨h.t, rfl, rfl⟩, ?_⟩
  conv => whnf
  refine ⟨_, _, ⟨hw, h.hw, mapOff_n v c (wE W)⟩, ?_⟩
  rw [dl_wE]
  conv => whnf
  exact ⟨rfl, rfl, rfl⟩
omit hw
include hg
end
end Tree.O15
