/- Layer 1: the document's IsSign, cell, End, Right, what E answers. -/
import Derived.Test.YtpjoppajohmmnaaDoorL1Right3
set_option autoImplicit false
set_option linter.unusedVariables false
set_option linter.unusedSimpArgs false
namespace Tree
open Go
set_option maxHeartbeats 4000000
set_option maxRecDepth 100000
def S54 (s : ByteArray) (i : Int) (ob : Obs) : WSt := ⟨.val (.str s) :: .val .undef :: .val .undef :: .box (sgnB.map LV.str) :: .val (.int .i64 i) :: List.replicate 10 (.val .undef), ob, []⟩
theorem isSign_ok (s : ByteArray) (ob : Obs) (pb : Nat) (r : Bool) (hr : r = true ↔ SignP s) : Gives env1 54 [.str s] ob pb (.bool r, ob) := by
  rw [← sign_mem] at hr
  refine gives_code (f := tf54) rfl ?_
  conv => whnf
  refine loop_abs (S := fun i : Nat => S54 s i ob) (m := fun i => 12 - i) (P := fun i => i ≤ 12 ∧ ∀ k, k < i → sgnB[k]? ≠ some s) ?_ 0 ⟨Nat.zero_le _, fun k h => by omega⟩ rfl
  rintro R i ⟨hi, hP⟩ hN hE hR
  by_cases h : i < 12
  · have step : ∀ (t : ByteArray), sgnB[i]? = some t → (s.toList == t.toList) = false → ∀ k, k < i + 1 → sgnB[k]? ≠ some s := by
      intro t ht hne k hk hks
      by_cases hki : k = i
      · subst hki; rw [ht] at hks; cases hks; simp at hne
      · exact hP k (by omega) hks
    have yes : ∀ (t : ByteArray), sgnB[i]? = some t → (s.toList == t.toList) = true → LV.bool true = LV.bool r := by
      intro t ht he
      have : s = t := bytes_eq.1 (by simpa using he)
      subst this
      exact bool_of hr ⟨fun _ => List.mem_of_getElem? ht, fun _ => rfl⟩
    rcases i with _ | _ | _ | _ | _ | _ | _ | _ | _ | _ | _ | _ | i
    case succ.succ.succ.succ.succ.succ.succ.succ.succ.succ.succ.succ => omega
    all_goals
      conv => whnf
      refine ⟨by decide, ?_⟩
      conv => whnf
      refine sel_split (fun h2 => ?_) (fun h2 => ?_)
      · conv => whnf
        refine hR _ ?_
        conv => whnf
        exact ⟨rfl, yes _ rfl h2, rfl⟩
      · conv => whnf
        exact hN _ _ ⟨by omega, step _ rfl h2⟩ (by omega) rfl
  · have : i = 12 := by omega
    subst this
    conv => whnf
    refine hE _ _ ?_
    conv => whnf
    refine ⟨rfl, bool_of hr ⟨fun e => (nomatch e), fun hm => ?_⟩, rfl⟩
    obtain ⟨k, hk, e⟩ := List.getElem_of_mem hm
    exact absurd (by rw [List.getElem?_eq_getElem hk, e]) (hP k hk)
theorem empty_iff (s : ByteArray) : (s.toList == (⟨#[]⟩ : ByteArray).toList) = true ↔ s = emptyS := by
  rw [beq_iff_eq, bytes_eq]; rfl
theorem refCell_ok (c : C) (hs : c.text.size ≤ maxLen) (ob : Obs) (pb : Nat) (r : Bool) (hr : r = true ↔ okC c) : Gives env1 36 [c.lv] ob pb (.bool r, ob) := by
  obtain ⟨k, text, n, node, num⟩ := c
  obtain ⟨p, hp⟩ := boolOf (NameP text.data.toList)
  obtain ⟨g, hg⟩ := boolOf (SignP text)
  simp only [okC, zeroVar, ← empty_iff, ← hp, ← hg] at hr
  by_cases e1 : k = 1
  · subst e1
    refine gives_code (f := tf36) rfl ?_
    conv => whnf
    repeat' (refine sel_split (fun _ => ?_) (fun _ => ?_) <;> (conv => whnf))
    all_goals
      refine ⟨rfl, bool_of hr ?_, rfl⟩
      simp at *
      first | omega | (simp_all; done) | (simp_all; omega) | (simp_all; intros; omega)
  by_cases e2 : k = 2
  · subst e2
    refine gives_code (f := tf36) rfl ?_
    conv => whnf
    refine ⟨_, _, refIsName_ok text hs ob _ p hp, fun _ => rfl, ?_⟩
    conv => whnf
    repeat' (refine sel_split (fun _ => ?_) (fun _ => ?_) <;> (conv => whnf))
    all_goals
      refine ⟨rfl, bool_of hr ?_, rfl⟩
      simp at *
      first | omega | (simp_all; done) | (simp_all; omega) | (simp_all; intros; omega)
  by_cases e3 : k = 3
  · subst e3
    refine gives_code (f := tf36) rfl ?_
    conv => whnf
    refine sel_split (fun _ => ?_) (fun _ => ?_)
    · conv => whnf
      refine ⟨_, _, refIsName_ok text hs ob _ p hp, fun _ => rfl, ?_⟩
      conv => whnf
      repeat' (first | (refine sel_split (fun _ => ?_) (fun _ => ?_) <;> (conv => whnf)) | (refine ⟨_, _, isSign_ok text ob _ g hg, fun _ => rfl, ?_⟩; conv => whnf))
      all_goals
        refine ⟨rfl, bool_of hr ?_, rfl⟩
        simp at *
        first | omega | (simp_all; done) | (simp_all; omega) | (simp_all; intros; omega)
    · conv => whnf
      refine ⟨rfl, bool_of hr ?_, rfl⟩
      simp at *
      first | omega | (simp_all; done) | (simp_all; omega) | (simp_all; intros; omega)
  by_cases e4 : k = 4
  · subst e4
    refine gives_code (f := tf36) rfl ?_
    conv => whnf
    repeat' (refine sel_split (fun _ => ?_) (fun _ => ?_) <;> (conv => whnf))
    all_goals
      refine ⟨rfl, bool_of hr ?_, rfl⟩
      simp at *
      first | omega | (simp_all; done) | (simp_all; omega) | (simp_all; intros; omega)
  refine gives_code (f := tf36) rfl ?_
  conv => whnf
  refine sel_f (by simpa using e1) ?_
  conv => whnf
  refine sel_f (by simpa using e2) ?_
  conv => whnf
  refine sel_f (by simpa using e3) ?_
  conv => whnf
  refine sel_f (by simpa using e4) ?_
  conv => whnf
  refine ⟨rfl, bool_of hr ?_, rfl⟩
  simp [e1, e2, e3, e4]
end Tree
