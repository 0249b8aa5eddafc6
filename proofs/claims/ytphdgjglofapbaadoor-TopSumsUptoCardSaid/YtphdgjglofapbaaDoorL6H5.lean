/- Layer 6: the maps of the laws. -/
import Derived.Test.YtphdgjglofapbaaDoorL6H4
import Derived.Test.YtphdgjglofapbaaDoorWpQ
set_option autoImplicit false
set_option linter.unusedVariables false
set_option linter.unusedSimpArgs false
namespace Tree.H6
open Go
set_option maxHeartbeats 8000000
set_option maxRecDepth 100000
theorem newP_ok (ob : Obs) (pb : Nat) : Gives env6 234 [] ob pb (.optr (ob.length + 1) 0, ob ++ [mE 0 []] ++ [[.mref ob.length]]) := by
  refine gives_code (f := tf234) rfl ?_
  conv => whnf
  refine ⟨rfl, ?_, rfl⟩
  show LV.optr (ob ++ [_]).length 0 = _
  rw [List.length_append]; rfl
/-- A binding as it comes. -/
structure Bn where
  k : NV
  lab : Nat
  cs : List C
  sp : List (List LV)
def Bn.row (b : Bn) : List LV := [.int .i64 b.k.1, .int .i64 b.k.2, sl5 false b.lab b.cs b.sp]
def Bn.fine (b : Bn) : Prop := b.cs.length ≤ 1048576 ∧ ∀ c ∈ b.cs, c.fine
theorem idx_n {bs : List Bn} {i : Nat} {b : Bn} (h : bs[i]? = some b) : (bs.map Bn.row)[i]? = some [.int .i64 b.k.1, .int .i64 b.k.2, .sl false b.lab 5 (b.cs.map C.row) b.sp] := by
  rw [List.getElem?_map, h]; rfl
theorem mok_nil : MOk fun _ => none := ⟨⟨[], fun k h => (nomatch h)⟩, fun k cs h => (nomatch h), fun k c h => (nomatch h)⟩
theorem mok_upd {M : Mp} (hM : MOk M) {k : NV} {cs : List C} (hA : Acc M k cs) (hf : ∀ c ∈ cs, c.fine) : MOk (upd M k cs) := by
  obtain ⟨K, hK⟩ := hM.keys
  refine ⟨⟨k :: K, fun x hx => ?_⟩, fun x u hx => ?_, fun x c hx hc => ?_⟩
  · unfold upd at hx
    split at hx
    · rename_i h; rw [h]; exact List.mem_cons_self ..
    · exact List.mem_cons_of_mem _ (hK x hx)
  · unfold upd at hx
    split at hx
    · cases hx; exact ⟨hA.2.2.1, hf⟩
    · exact hM.glob x u hx
  · unfold upd at hx
    split at hx
    · rename_i h; cases hx; rw [h]; exact hA.2.2.2.2 _ _ rfl hc
    · exact hM.less x c hx hc
/-- What the objects are while the maps are made. -/
def obM (c : Int) (es : List En) (L : List Bd) : Obs := [mE c es, [.mref 0], [.sl true 0 3 (L.map brow) []]]
structure Mx where
  M : Mp
  c : Int
  es : List En
  L : List Bd
structure Mx.Ok (x : Mx) (n : Nat) : Prop where
  mok : MOk x.M
  hp : ∀ k, lk x.es k = (x.M k).map fun cs => sl5 false 0 cs []
  hr : ∀ k, lkB x.L k = x.M k
  hn : x.L.length ≤ n
theorem Mx.Ok.p {x : Mx} {n : Nat} (h : x.Ok n) : HpP (obM x.c x.es x.L) 1 0 x.c x.es x.M := ⟨rfl, rfl, h.hp⟩
theorem Mx.Ok.r {x : Mx} {n : Nat} (h : x.Ok n) : HpR (obM x.c x.es x.L) 2 x.L x.M := ⟨rfl, h.hr⟩
end Tree.H6
