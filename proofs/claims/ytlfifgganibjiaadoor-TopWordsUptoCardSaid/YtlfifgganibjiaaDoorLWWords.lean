/- purlintop.TopWords: what E answers. -/
import Derived.Test.YtlfifgganibjiaaDoorLWEnv
import Derived.Test.YtlfifgganibjiaaDoorL2W
import Derived.Test.YtlfifgganibjiaaDoorL2I
import Derived.Test.YtlfifgganibjiaaDoorTLb
import Derived.Test.YtlfifgganibjiaaDoorTLa
import Derived.Test.YtlfifgganibjiaaDoorTE
set_option autoImplicit false
set_option linter.unusedVariables false
set_option linter.unusedSimpArgs false
namespace Tree
open Go
open Tree.X02 (nextN Lx lx_ex allZ_ok resA_noRef name_lx lx_name lx_kinds lx_e Tk row_tk)
set_option maxHeartbeats 8000000
set_option maxRecDepth 100000
theorem nameA : NameP [97] := ⟨by simp, by decide, fun j b h => by
  match j, h with
  | 0, h => injection h with h; subst h; unfold okB smallB; decide⟩
theorem okAtom (s : ByteArray) : okC (cAtom s) ↔ NameP s.data.toList := by
  simp [okC, cAtom, zeroVar]
theorem words_law (s : ByteArray) (hs : s.size ≤ 1048576) : Gives envW 626 [.str s] [] 0 (.bool true, []) := by
  obtain ⟨ts, e, p, hL⟩ := lx_ex s s.size 0 (Nat.zero_le _) (by omega)
  have hm : s.size ≤ maxLen := by unfold maxLen; omega
  have g0 := fun ob pb => (isName_ok ⟨#[97]⟩ (by decide) ob pb true ⟨fun _ => nameA, fun _ => rfl⟩).le le1W
  have gA := fun ob pb => (allZ_ok s (by omega) ts e p hL ob pb).le le2W
  have nA := resA_noRef .u8 ts e p
  unfold X02.resA at gA nA
  by_cases hn : NameP s.data.toList
  · obtain ⟨rfl, rfl⟩ := name_lx hn hL
    have gN := fun ob pb => (isName_ok s hm ob pb true ⟨fun _ => hn, fun _ => rfl⟩).le le1W
    have gO := fun ob pb => (ofAtom_ok s hm ob pb true ⟨fun _ => (okAtom s).2 hn, fun _ => rfl⟩).le le1W
    have gR := fun ob pb => (right_ok 0 [cAtom s] [] (by simp) (fun c hc => by rw [List.mem_singleton] at hc; subst hc; exact fineAtom s hm) ob pb true ⟨fun _ => (single_right (cAtom s) (by simp [cAtom])).2 ((okAtom s).2 hn), fun _ => rfl⟩).le le1W
    rw [if_pos rfl] at gA nA
    have hss : (s.toList == s.toList) = true := by simp
    refine gives_code (f := tf626) rfl ?_
    conv => whnf
    refine ⟨_, _, g0 _ _, fun _ => rfl, ?_⟩
    conv => whnf
    refine ⟨_, _, gA _ _, fun _ => nA _, ?_⟩
    conv => whnf
    refine ⟨_, ⟨by omega, rfl⟩, ?_⟩
    conv => whnf
    refine ⟨_, ⟨by omega, rfl⟩, ?_⟩
    conv => whnf
    rw [hss]
    refine ⟨_, _, gO _ _, fun _ => rfl, ?_⟩
    conv => whnf
    refine ⟨_, _, gN _ _, fun _ => rfl, ?_⟩
    conv => whnf
    refine ⟨_, _, gR _ _, fun _ => rfl, ?_⟩
    conv => whnf
    exact ⟨rfl, rfl, rfl⟩
  · have gN := fun ob pb => (isName_ok s hm ob pb false ⟨fun h => (nomatch h), fun h => absurd h hn⟩).le le1W
    have gO := fun ob pb => (ofAtom_ok s hm ob pb false ⟨fun h => (nomatch h), fun h => absurd ((okAtom s).1 h) hn⟩).le le1W
    refine gives_code (f := tf626) rfl ?_
    conv => whnf
    refine ⟨_, _, g0 _ _, fun _ => rfl, ?_⟩
    conv => whnf
    refine ⟨_, _, gA _ _, fun _ => nA _, ?_⟩
    conv => whnf
    refine sel_split (fun h1 => ?_) (fun h1 => ?_)
    · conv => whnf
      have h1 : e = 0 := by simp at h1; omega
      subst h1
      rw [if_pos rfl] at *
      refine sel_split (fun h2 => ?_) (fun h2 => ?_)
      · conv => whnf
        have h2 : ts.length = 2 := by simp at h2; omega
        obtain ⟨t, u, rfl⟩ : ∃ t u, ts = [t, u] := by
          match ts, h2 with
          | [t, u], _ => exact ⟨t, u, rfl⟩
        refine ⟨_, ⟨by omega, rfl⟩, ?_⟩
        conv => whnf
        refine sel_split (fun h3 => ?_) (fun h3 => ?_)
        · conv => whnf
          have h3 : t.k = 1 := by simp at h3; omega
          have h4 : (t.text.toList == s.toList) = false := by
            cases hq : (t.text.toList == s.toList) with
            | false => rfl
            | true => exact absurd (lx_name hL h3 (bytes_inj hq)) hn
          refine ⟨_, ⟨by omega, rfl⟩, ?_⟩
          conv => whnf
          rw [h4]
          refine ⟨_, _, gO _ _, fun _ => rfl, ?_⟩
          conv => whnf
          refine ⟨_, _, gN _ _, fun _ => rfl, ?_⟩
          conv => whnf
          exact ⟨rfl, rfl, rfl⟩
        · conv => whnf
          refine ⟨_, _, gO _ _, fun _ => rfl, ?_⟩
          conv => whnf
          refine ⟨_, _, gN _ _, fun _ => rfl, ?_⟩
          conv => whnf
          exact ⟨rfl, rfl, rfl⟩
      · conv => whnf
        refine ⟨_, _, gO _ _, fun _ => rfl, ?_⟩
        conv => whnf
        refine ⟨_, _, gN _ _, fun _ => rfl, ?_⟩
        conv => whnf
        exact ⟨rfl, rfl, rfl⟩
    · conv => whnf
      refine ⟨_, _, gO _ _, fun _ => rfl, ?_⟩
      conv => whnf
      refine ⟨_, _, gN _ _, fun _ => rfl, ?_⟩
      conv => whnf
      exact ⟨rfl, rfl, rfl⟩
end Tree
