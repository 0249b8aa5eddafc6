/- Layer 2: lex.All. -/
import Derived.Test.YtlfifgganibjiaaDoorL2H
set_option autoImplicit false
set_option linter.unusedVariables false
set_option linter.unusedSimpArgs false
namespace Tree.X02
open Go
set_option maxHeartbeats 8000000
set_option maxRecDepth 100000
theorem walk0_ok (s : ByteArray) (ob : Obs) (pb : Nat) : Gives env2 607 [.str s] ob pb (.fn 366 [.iptr 0 [.str s] 0], ob) := by
  refine gives_code (f := tf607) rfl ?_
  conv => whnf
  exact ⟨rfl, rfl, rfl⟩
theorem all_ok (s : ByteArray) (hs : s.size ≤ 2097152) (ts : List Tk) (e p : Nat) (hL : Lx s 0 ts e p) : ∃ ob', Gives env2r 335 [.str s] [] 0 (resA .u8 ts e p, ob') := by
  obtain ⟨r, ob', ⟨rfl, h0, h1⟩, gW⟩ := walk_ok s hs ts e p hL
  have gW := gW.le le22r
  have g0 := fun ob pb => (walk0_ok s ob pb).le le22r
  have hp := lx_e hL
  refine gives_codeE (f := tf335) rfl ?_
  conv => whnf
  refine ⟨_, _, g0 _ _, fun _ => rfl, ?_⟩
  conv => whnf
  by_cases he : e = 0
  · have h0 := h0 he
    subst h0
    refine ⟨rfl, Nat.zero_le _, _, _, 0, snapA, .normal, gW, rfl, rfl, ?_⟩
    conv => whnf
    obtain rfl := he
    obtain rfl := hp rfl
    refine ⟨_, _, ⟨rfl, rfl, rfl⟩, ?_⟩
    conv => whnf
    refine .inl ⟨_, _, _, _, ⟨Nat.zero_le _, rfl, rfl⟩, ?_⟩
    conv => whnf
    refine ⟨_, _, ⟨Nat.zero_le _, rfl, rfl, rfl⟩, ?_⟩
    conv => whnf
    refine ⟨_, _, ⟨Nat.zero_le _, rfl, rfl, rfl⟩, ?_⟩
    conv => whnf
    refine ⟨_, _, ⟨Nat.zero_le _, rfl, rfl, rfl⟩, ?_⟩
    conv => whnf
    exact ⟨rfl, rfl⟩
  · obtain ⟨l, rfl⟩ := h1 he
    refine ⟨rfl, Nat.zero_le _, _, _, 1, snapA, .ret, gW, rfl, rfl, ?_⟩
    conv => whnf
    unfold resA
    rw [if_neg he]
    exact ⟨rfl, rfl⟩
theorem noRefs_tk (kk : IntKind) (n : Nat) : ∀ ts : List Tk, LV.noRefss n (ts.map (Tk.cells kk)) = true
  | [] => rfl
  | t :: r => by
    simp only [List.map_cons, LV.noRefss, Tk.cells, LV.noRefs, LV.noRef, Bool.true_and, noRefs_tk kk n r]
theorem resA_noRef (kk : IntKind) (ts : List Tk) (e p n : Nat) : (resA kk ts e p).noRef n = true := by
  simp only [resA, slT, LV.noRef, LV.noRefs, LV.noRefss, noRefs_tk, Bool.and_self, Bool.true_and]
theorem allZ_ok (s : ByteArray) (hs : s.size ≤ 2097152) (ts : List Tk) (e p : Nat) (hL : Lx s 0 ts e p) (ob : Obs) (pb : Nat) : Gives env2z 335 [.str s] ob pb (resA .u8 ts e p, ob) := by
  obtain ⟨ob1, h⟩ := all_ok s hs ts e p hL
  have hf : frzF env2r 335 [.str s] ob = some (resA .u8 ts e p) := frzF_of h (by
    show (if (resA .u8 ts e p).noRef 0 = true then some (resA .u8 ts e p).bare else none) = _
    rw [if_pos (resA_noRef _ _ _ _ _)]; rfl) rfl rfl ob
  exact gives_ext (F := frzF env2r 335) rfl hf
end Tree.X02
