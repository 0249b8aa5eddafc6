/- Layer 2: lex.All: a range over a function. -/
import Derived.Test.YtlfifgganibjiaaDoorL2G
set_option autoImplicit false
set_option linter.unusedVariables false
set_option linter.unusedSimpArgs false
namespace Tree.X02
open Go
set_option maxHeartbeats 8000000
set_option maxRecDepth 100000
/-- What the rounds find. -/
def snapA : List LV := [.undef, .undef, .optr 0 0, .optr 1 0, .optr 2 0, .optr 3 0] ++ List.replicate 16 .undef
def obA (a b c l : LV) (z : Int) (snap : List LV) : Obs := [[a], [b], [c], [l], loopObj 2 z snap]
theorem rnd (done : List Tk) (t : Tk) (hd : done.length ≤ 2097152) (a b c : LV) :
    roundW env2 0 4 2 lp2.1 lp2.2.1 lp2.2.2 [.agg (t.cells .u8), .int .i64 0] snapA (obA a b c (slT .u8 true done) 0 snapA) (fun q ob' => q = true ∧ ob' = obA a b c (slT .u8 true (done ++ [t])) 0 snapA) := by
  unfold roundW
  conv => whnf
  refine ⟨snapA, rfl, ?_⟩
  conv => whnf
  refine ⟨_, _, ⟨rfl, rfl, rfl⟩, ?_⟩
  conv => whnf
  refine ⟨_, _, _, _, ⟨by omega, rfl, rfl⟩, ?_⟩
  conv => whnf
  refine ⟨(done ++ [t]).map (Tk.cells .u8), ⟨.inl rfl, ?_, by rw [List.map_append]; rfl⟩, ?_⟩
  · show ((done.map (Tk.cells .u8)).length + 1) * 48 ≤ _
    rw [List.length_map]; omega
  conv => whnf
  refine ⟨_, _, ⟨by omega, rfl, rfl, rfl⟩, ?_⟩
  conv => whnf
  exact ⟨-1, snapA, rfl, rfl, rfl⟩
theorem rndE (l : LV) (t : Tk) (er : Nat) (he : er ≠ 0) :
    roundW env2 0 4 2 lp2.1 lp2.2.1 lp2.2.2 [.agg (t.cells .u8), .int .i64 er] snapA (obA (.sl true 0 5 [] []) (.int .i64 0) (.int .i64 0) l 0 snapA) (fun q ob' => q = false ∧ ob' = obA (.sl true 0 5 [] []) (.int .i64 er) (.int .i64 t.at_) l 1 snapA) := by
  unfold roundW
  conv => whnf
  refine ⟨snapA, rfl, ?_⟩
  conv => whnf
  refine sel_t (by simp; omega) ?_
  conv => whnf
  refine ⟨_, _, ⟨by omega, rfl, rfl, rfl⟩, ?_⟩
  conv => whnf
  refine ⟨_, _, ⟨by omega, rfl, rfl, rfl⟩, ?_⟩
  conv => whnf
  refine ⟨_, _, ⟨by omega, rfl, rfl, rfl⟩, ?_⟩
  conv => whnf
  exact ⟨-1, snapA, rfl, rfl, rfl⟩
theorem walk_ok (s : ByteArray) (hs : s.size ≤ 2097152) (ts : List Tk) (e p : Nat) (hL : Lx s 0 ts e p) : ∃ r ob', ((r = .tup []) ∧ (e = 0 → ob' = obA (.sl true 0 5 [] []) (.int .i64 0) (.int .i64 0) (slT .u8 true ts) 0 snapA) ∧ (e ≠ 0 → ∃ l, ob' = obA (.sl true 0 5 [] []) (.int .i64 e) (.int .i64 p) l 1 snapA)) ∧
    Gives env2 366 [.fn YG [.optr 4 0], .iptr 0 [.str s] 0] (obA (.sl true 0 5 [] []) (.int .i64 0) (.int .i64 0) (.sl true 0 5 [] []) 0 snapA) 0 (r, ob') := by
  refine gives_codeQ (f := tf366) rfl ?_
  conv => whnf
  refine loop_v (V := fun i : Nat × List Tk => [(3, .int .i64 i.1)]) (O := fun i => obA (.sl true 0 5 [] []) (.int .i64 0) (.int .i64 0) (slT .u8 true i.2) 0 snapA) (m := fun i => s.size - i.1) (P := fun i => i.1 ≤ s.size ∧ i.2.length ≤ i.1 ∧ ∃ rest, ts = i.2 ++ rest ∧ Lx s i.1 rest e p) ?_ (0, []) ⟨Nat.zero_le _, Nat.zero_le _, ts, rfl, hL⟩ rfl
  rintro R ⟨a, done⟩ ⟨ha, hdl, rest, rfl, hx⟩ hN hE hR
  dsimp only at ha hdl hx
  have gN := fun ob pb => next_ok s (by omega) a ha ob pb
  have hpr := next_prog s a ha
  cases hx with
  | @bad _ r h he =>
    rw [h] at gN
    clear hpr h
    obtain ⟨⟨k, t, n, nd, at_⟩, nx, er⟩ := r
    dsimp only at he ⊢
    obtain ⟨b, ob', ⟨rfl, rfl⟩, gy⟩ := gives_yld (E := env2) (id := 4) (s := 2) (ps := lp2.1) (ta := lp2.2.1) (tb := lp2.2.2) rfl rfl rfl (Nat.zero_le _) rfl rfl rfl (rndE (slT .u8 true done) ⟨k, t, n, nd, nx⟩ er he)
    conv => whnf
    refine ⟨_, _, gN _ _, fun _ => rfl, ?_⟩
    conv => whnf
    refine sel_t (by simp; omega) ?_
    conv => whnf
    refine ⟨_, _, gy, fun e => (nomatch e), ?_⟩
    conv => whnf
    refine hR _ ?_
    conv => whnf
    exact ⟨rfl, rfl, fun h => absurd h he, fun _ => ⟨_, rfl⟩⟩
  | @stop _ r h he hk =>
    rw [h] at gN
    clear hpr h
    obtain ⟨⟨k, t, n, nd, at_⟩, nx, er⟩ := r
    dsimp only at he hk ⊢
    subst he; subst hk
    obtain ⟨b, ob', ⟨rfl, rfl⟩, gy⟩ := gives_yld (E := env2) (id := 4) (s := 2) (ps := lp2.1) (ta := lp2.2.1) (tb := lp2.2.2) rfl rfl rfl (Nat.zero_le _) rfl rfl rfl (rnd done ⟨0, t, n, nd, at_⟩ (by omega) (.sl true 0 5 [] []) (.int .i64 0) (.int .i64 0))
    conv => whnf
    refine ⟨_, _, gN _ _, fun _ => rfl, ?_⟩
    conv => whnf
    refine ⟨_, _, gy, fun e => (nomatch e), ?_⟩
    conv => whnf
    refine hR _ ?_
    conv => whnf
    exact ⟨rfl, rfl, fun _ => rfl, fun h => absurd rfl h⟩
  | @go _ r ts' _ _ h he hk ht =>
    rw [h] at gN hpr
    clear h
    obtain ⟨⟨k, t, n, nd, at_⟩, nx, er⟩ := r
    dsimp only at he hk ht hpr ⊢
    subst he
    obtain ⟨p1, p2, p3⟩ := hpr rfl
    have p2 := p2 hk
    obtain ⟨b, ob', ⟨rfl, rfl⟩, gy⟩ := gives_yld (E := env2) (id := 4) (s := 2) (ps := lp2.1) (ta := lp2.2.1) (tb := lp2.2.2) rfl rfl rfl (Nat.zero_le _) rfl rfl rfl (rnd done ⟨k, t, n, nd, at_⟩ (by omega) (.sl true 0 5 [] []) (.int .i64 0) (.int .i64 0))
    conv => whnf
    refine ⟨_, _, gN _ _, fun _ => rfl, ?_⟩
    conv => whnf
    refine ⟨_, _, gy, fun e => (nomatch e), ?_⟩
    conv => whnf
    refine sel_f (by simp; omega) ?_
    conv => whnf
    refine hN (nx, done ++ [(⟨k, t, n, nd, at_⟩ : Tk)]) _ ⟨p1, ?_, ts', by simp, ht⟩ (by dsimp only; omega) ?_
    · rw [List.length_append, List.length_singleton]; dsimp only; omega
    · rfl
end Tree.X02
