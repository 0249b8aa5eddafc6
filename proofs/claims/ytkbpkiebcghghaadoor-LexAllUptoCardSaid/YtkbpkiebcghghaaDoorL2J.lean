/- purlinlaw02.LexAll: what E answers. -/
import Derived.Test.YtkbpkiebcghghaaDoorL2I
import Derived.Test.YtkbpkiebcghghaaDoorL2Live
set_option autoImplicit false
set_option linter.unusedVariables false
set_option linter.unusedSimpArgs false
namespace Tree.X02
open Go
set_option maxHeartbeats 8000000
set_option maxRecDepth 100000
theorem same_ok (t : Tk) (hk : t.k ≤ 5) (ob : Obs) (pb : Nat) : Gives env2 338 [.agg (t.cells .u8), .agg (t.cells .i64)] ob pb (.bool true, ob) := by
  have e : IntKind.i64.wrap ((t.k : Nat) : Int) = t.k := by rw [wrap64] <;> omega
  refine gives_code (f := tf338) rfl ?_
  conv => whnf
  rw [e]
  refine sel_t (by simp) ?_
  conv => whnf
  refine sel_t (by simp) ?_
  conv => whnf
  refine sel_t (by simp) ?_
  conv => whnf
  refine sel_t (by simp) ?_
  conv => whnf
  refine ⟨rfl, ?_, rfl⟩
  simp
  rfl
theorem lx_kinds {s : ByteArray} {a : Nat} {ts : List Tk} {e p : Nat} (h : Lx s a ts e p) : a ≤ s.size → (∀ t ∈ ts, t.k ≤ 5) ∧ ts.length ≤ s.size - a + 1 := by
  induction h with
  | bad _ _ => intro _; exact ⟨fun t ht => (nomatch ht), Nat.zero_le _⟩
  | @stop a r h he hk =>
    intro ha
    refine ⟨fun t ht => ?_, by simp⟩
    rw [List.mem_singleton] at ht; subst ht; omega
  | @go a r ts e p h he hk ht ih =>
    intro ha
    have h1 := next_prog s a ha (by rw [h]; exact he)
    rw [h] at h1
    have h2 := h1.2.1 hk
    have := ih h1.1
    refine ⟨fun t ht => ?_, by rw [List.length_cons]; omega⟩
    rcases List.mem_cons.1 ht with rfl | ht
    · exact h1.2.2
    · exact this.1 t ht
theorem row_tk {kk : IntKind} {ts : List Tk} {i : Nat} {t : Tk} (h : ts[i]? = some t) : (ts.map (Tk.cells kk))[((i : Nat) : Int).toNat]? = some (t.cells kk) := by
  show (ts.map (Tk.cells kk))[i]? = _
  rw [List.getElem?_map, h]; rfl
theorem all_law (s : ByteArray) (hs : s.size ≤ 1048576) : Gives env2z 601 [.str s] [] 0 (.bool true, []) := by
  obtain ⟨ts, e, p, hL⟩ := lx_ex s s.size 0 (Nat.zero_le _) (by omega)
  have g1 := fun ob pb => allZ_ok s hs ts e p hL ob pb
  have g2 := fun ob pb => (allR_ok s hs ts e p hL ob pb).le le22
  obtain ⟨k1, k2⟩ := lx_kinds hL (Nat.zero_le _)
  have n1 := resA_noRef .u8 ts e p
  have n2 := resA_noRef .i64 ts e p
  unfold resA at g1 g2 n1 n2
  obtain ⟨us, hus⟩ : ∃ us, us = (if e = 0 then ts else []) := ⟨_, rfl⟩
  rw [← hus] at g1 g2 n1 n2
  have ku : (∀ t ∈ us, t.k ≤ 5) ∧ us.length ≤ 1048577 := by
    rw [hus]
    split
    · exact ⟨k1, by omega⟩
    · exact ⟨fun t ht => (nomatch ht), by simp⟩
  clear hus k1 k2 hL
  have hl1 : (us.map (Tk.cells .u8)).length = us.length := by simp
  have hl2 : (us.map (Tk.cells .i64)).length = us.length := by simp
  refine gives_code (f := tf601) rfl ?_
  conv => whnf
  refine ⟨_, _, g1 _ _, fun _ => n1 _, ?_⟩
  conv => whnf
  refine ⟨_, _, g2 _ _, fun _ => n2 _, ?_⟩
  conv => whnf
  refine ⟨_, _, live2_ok _ _, fun _ => rfl, ?_⟩
  conv => whnf
  refine sel_f (by simp) ?_
  conv => whnf
  refine sel_f (by simp) ?_
  conv => whnf
  refine sel_f (by simp) ?_
  conv => whnf
  refine loop_v (V := fun i : Nat => [(9, .int .i64 i)]) (O := fun _ => []) (m := fun i => us.length - i) (P := fun i => i ≤ us.length) ?_ 0 (Nat.zero_le _) rfl
  intro R i hi hN hE hR
  conv => whnf
  refine sel_split (fun h => ?_) (fun h => ?_)
  · conv => whnf
    have h := of_decide_eq_true h
    rw [hl1] at h
    obtain ⟨t, ht⟩ : ∃ t, us[i]? = some t := ⟨_, List.getElem?_eq_getElem (show i < us.length by omega)⟩
    have gs := fun ob pb => (same_ok t (ku.1 t (List.mem_of_getElem? ht)) ob pb).le le22
    have e1 : IntKind.i64.wrap ((i : Int) + 1) = ((i + 1 : Nat) : Int) := by rw [wrap64] <;> omega
    refine ⟨_, ⟨by omega, row_tk ht⟩, ?_⟩
    conv => whnf
    refine ⟨_, ⟨by omega, row_tk ht⟩, ?_⟩
    conv => whnf
    refine ⟨_, _, gs _ _, fun _ => rfl, ?_⟩
    conv => whnf
    refine hN (i + 1) _ (by omega) (by omega) ?_
    rw [← e1]; rfl
  · conv => whnf
    refine hE _ _ ?_
    conv => whnf
    exact ⟨rfl, rfl, rfl⟩
end Tree.X02
