/- Layer 6: the maps of the laws. -/
import Derived.Test.YtmhblapchnldhaaDoorL6H4
import Derived.Test.YtmhblapchnldhaaDoorWpQ
set_option autoImplicit false
set_option linter.unusedVariables false
set_option linter.unusedSimpArgs false
namespace Tree.H6
open Go
set_option maxHeartbeats 8000000
set_option maxRecDepth 100000
theorem newP_ok (ob : Obs) (pb : Nat) : Gives env6 234 [] ob pb (.optr (ob.length + 1) 0, ob ++ [mE 0 []] ++ [[.mref ob.length]]) := by
  refine gives_code (f := tf234) rfl ?_
  conv => whnf
  refine ⟨rfl, ?_, rfl⟩
  show LV.optr (ob ++ [_]).length 0 = _
  rw [List.length_append]; rfl
theorem newR_ok (ob : Obs) (pb : Nat) : Gives env6 235 [] ob pb (.optr ob.length 0, ob ++ [[.sl true 0 3 [] []]]) := by
  refine gives_code (f := tf235) rfl ?_
  conv => whnf
  exact ⟨rfl, rfl, rfl⟩
/-- A binding as it comes. -/
structure Bn where
  k : NV
  lab : Nat
  cs : List C
  sp : List (List LV)
def Bn.row (b : Bn) : List LV := [.int .i64 b.k.1, .int .i64 b.k.2, sl5 false b.lab b.cs b.sp]
def Bn.fine (b : Bn) : Prop := b.cs.length ≤ 1048576 ∧ ∀ c ∈ b.cs, c.fine
theorem idx_n {bs : List Bn} {i : Nat} {b : Bn} (h : bs[i]? = some b) : (bs.map Bn.row)[i]? = some [.int .i64 b.k.1, .int .i64 b.k.2, .sl false b.lab 5 (b.cs.map C.row) b.sp] := by
  rw [List.getElem?_map, h]; rfl
theorem mok_nil : MOk fun _ => none := ⟨⟨[], fun k h => (nomatch h)⟩, fun k cs h => (nomatch h), fun k c h => (nomatch h)⟩
theorem mok_upd {M : Mp} (hM : MOk M) {k : NV} {cs : List C} (hA : Acc M k cs) (hf : ∀ c ∈ cs, c.fine) : MOk (upd M k cs) := by
  obtain ⟨K, hK⟩ := hM.keys
  refine ⟨⟨k :: K, fun x hx => ?_⟩, fun x u hx => ?_, fun x c hx hc => ?_⟩
  · unfold upd at hx
    split at hx
    · rename_i h; rw [h]; exact List.mem_cons_self ..
    · exact List.mem_cons_of_mem _ (hK x hx)
  · unfold upd at hx
    split at hx
    · cases hx; exact ⟨hA.2.2.1, hf⟩
    · exact hM.glob x u hx
  · unfold upd at hx
    split at hx
    · rename_i h; cases hx; rw [h]; exact hA.2.2.2.2 _ _ rfl hc
    · exact hM.less x c hx hc
/-- What the objects are while the maps are made. -/
def obM (c : Int) (es : List En) (L : List Bd) : Obs := [mE c es, [.mref 0], [.sl true 0 3 (L.map brow) []]]
structure Mx where
  M : Mp
  c : Int
  es : List En
  L : List Bd
structure Mx.Ok (x : Mx) (n : Nat) : Prop where
  mok : MOk x.M
  hp : ∀ k, lk x.es k = (x.M k).map fun cs => sl5 false 0 cs []
  hr : ∀ k, lkB x.L k = x.M k
  hn : x.L.length ≤ n
theorem Mx.Ok.p {x : Mx} {n : Nat} (h : x.Ok n) : HpP (obM x.c x.es x.L) 1 0 x.c x.es x.M := ⟨rfl, rfl, h.hp⟩
theorem Mx.Ok.r {x : Mx} {n : Nat} (h : x.Ok n) : HpR (obM x.c x.es x.L) 2 x.L x.M := ⟨rfl, h.hr⟩
theorem bind_both {x : Mx} {n : Nat} (h : x.Ok n) (hn : n ≤ 1048576) (b : Bn) (hb : b.fine) : ∃ (y : Mx) (e1 e2 : Int), y.Ok (n + 1) ∧ Gives env6 236 [.optr 1 0, nm b.k.1 b.k.2, sl5 false b.lab b.cs b.sp] (obM x.c x.es x.L) 0 (.int .i64 e1, obM y.c y.es x.L) ∧ Gives env6 237 [.optr 2 0, nm b.k.1 b.k.2, sl5 false b.lab b.cs b.sp] (obM y.c y.es x.L) 0 (.int .i64 e2, obM y.c y.es y.L) := by
  have hxn := h.hn
  by_cases hA : Acc x.M b.k b.cs
  · refine ⟨⟨upd x.M b.k b.cs, ck x.es b.k x.c, pt x.es b.k (sl5 false 0 b.cs []) x.c, ins x.L (b.k, b.cs)⟩, 0, 0, ⟨mok_upd h.mok hA hb.2, ?_, ?_, ?_⟩, ?_, ?_⟩
    · intro k
      show lk (pt _ _ _ _) k = (upd _ _ _ k).map _
      rw [lk_pt, h.hp]
      unfold upd
      split <;> rfl
    · intro k
      show lkB (ins _ _) k = upd _ _ _ k
      rw [lk_ins _ _ _ (by rw [h.hr]; exact hA.2.2.2.1), h.hr]
      rfl
    · show (ins _ _).length ≤ _
      rw [ins_len]; omega
    · exact bindP_yes h.p b.k b.lab b.cs b.sp hb.1 hb.2 hA 0 (Nat.le_refl _)
    · have hr : HpR (obM (ck x.es b.k x.c) (pt x.es b.k (sl5 false 0 b.cs []) x.c) x.L) 2 x.L x.M := ⟨rfl, h.hr⟩
      exact bindR_yes hr (by omega) b.k b.lab b.cs b.sp hb.1 hb.2 hA 0 (Nat.zero_le _)
  · obtain ⟨e1, h1⟩ := bindP_no h.p b.k b.lab b.cs b.sp hb.1 hb.2 hA 0
    obtain ⟨e2, h2⟩ := bindR_no h.r (by omega) b.k b.lab b.cs b.sp hb.1 hb.2 hA 0
    exact ⟨x, e1, e2, ⟨h.mok, h.hp, h.hr, by omega⟩, h1, h2⟩
theorem maps_ok (lab : Nat) (bs : List Bn) (sp : List (List LV)) (hl : bs.length ≤ 1048576) (hf : ∀ b ∈ bs, b.fine) : ∃ x : Mx, x.Ok bs.length ∧ Gives env6 215 [.sl false lab 3 (bs.map Bn.row) sp] [] 0 (.tup [.optr 1 0, .optr 2 0], obM x.c x.es x.L) := by
  have hlen : (bs.map Bn.row).length = bs.length := by simp
  suffices h : ∃ r ob', (r = .tup [.optr 1 0, .optr 2 0] ∧ ∃ x : Mx, x.Ok bs.length ∧ ob' = obM x.c x.es x.L) ∧ Gives env6 215 [.sl false lab 3 (bs.map Bn.row) sp] [] 0 (r, ob') by
    obtain ⟨r, ob', ⟨rfl, x, hx, rfl⟩, hg⟩ := h
    exact ⟨x, hx, hg⟩
  refine gives_codeQ (f := tf215) rfl ?_
  conv => whnf
  refine ⟨_, _, newP_ok _ _, fun e => (nomatch e), ?_⟩
  conv => whnf
  refine ⟨_, _, newR_ok _ _, fun e => (nomatch e), ?_⟩
  conv => whnf
  refine loop_v (V := fun i : Nat × Mx => [(6, .int .i64 i.1)]) (O := fun i => obM i.2.c i.2.es i.2.L) (m := fun i => bs.length - i.1) (P := fun i => i.1 ≤ bs.length ∧ i.2.Ok i.1) ?_ (0, ⟨fun _ => none, 0, [], []⟩) ⟨Nat.zero_le _, ⟨mok_nil, fun _ => rfl, fun _ => rfl, Nat.zero_le _⟩⟩ rfl
  rintro R ⟨i, x⟩ ⟨hi, hx⟩ hN hE hR
  dsimp only at hi hx
  conv => whnf
  refine sel_split (fun h => ?_) (fun h => ?_)
  · conv => whnf
    have h := of_decide_eq_true h
    rw [hlen] at h
    obtain ⟨b, hb⟩ : ∃ b, bs[i]? = some b := ⟨_, List.getElem?_eq_getElem (show i < bs.length by omega)⟩
    have e : IntKind.i64.wrap ((i : Int) + 1) = ((i + 1 : Nat) : Int) := by rw [wrap64] <;> omega
    obtain ⟨y, e1, e2, hy, g1, g2⟩ := bind_both hx (by omega) b (hf b (List.mem_of_getElem? hb))
    refine ⟨_, ⟨by omega, idx_n hb⟩, ?_⟩
    conv => whnf
    refine ⟨_, ⟨by omega, idx_n hb⟩, ?_⟩
    conv => whnf
    refine ⟨_, _, g1, fun e => (nomatch e), ?_⟩
    conv => whnf
    refine ⟨_, ⟨by omega, idx_n hb⟩, ?_⟩
    conv => whnf
    refine ⟨_, ⟨by omega, idx_n hb⟩, ?_⟩
    conv => whnf
    refine ⟨_, _, g2, fun e => (nomatch e), ?_⟩
    conv => whnf
    refine hN (i + 1, y) _ ⟨by dsimp only; omega, hy⟩ (by dsimp only; omega) ?_
    show _ = _
    rw [← e]; rfl
  · conv => whnf
    have h := of_decide_eq_false h
    rw [hlen] at h
    have : i = bs.length := by omega
    subst this
    refine hE _ _ ?_
    conv => whnf
    exact ⟨rfl, rfl, x, hx, rfl⟩
end Tree.H6
