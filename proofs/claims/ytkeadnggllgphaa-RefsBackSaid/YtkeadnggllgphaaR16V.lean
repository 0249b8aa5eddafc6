/- RefsSafe: a move. -/
import Derived.Test.YtkeadnggllgphaaR16U
set_option autoImplicit false
set_option linter.unusedVariables false
set_option linter.unusedSimpArgs false
namespace Tree.R16
open Go Tree
set_option maxHeartbeats 8000000
set_option maxRecDepth 100000
structure Ws where
  E : Int → Int
  H : Nat → Int
  w : Ways
abbrev WS (a : Nat) (y : Int) (ob : Obs) (S : Ws) (L : Nat) : Prop := WI a y ob S.E S.H S.w L
def comesS (S : Ws) (f t : Nat) : Ws := match S.w f t with
  | [] => S
  | m :: r => ⟨cE S.E f t m, cH S.H f t m, upW S.w f t r⟩
def sendS (S : Ws) (f t : Nat) (m : Nte) : Ws := ⟨S.E, S.H, upW S.w f t (S.w f t ++ [m])⟩
def moveS (S : Ws) (kind : Int) (f t : Nat) : Ws :=
  if f = t then S
  else if kind = 0 then
    (if f = 0 then sendS ⟨upE S.E t 1, S.H, S.w⟩ 0 t (0, 0, 0)
     else if 0 < S.H f then (if t = 0 then sendS S f t (0, 0, 0) else sendS (sendS S f 0 (1, t, 0)) f t (0, 0, 0)) else S)
  else if kind = 1 then (if f = 0 then S else if 0 < S.H f then sendS ⟨S.E, upH S.H f 0, S.w⟩ f 0 (2, 0, S.H f) else S)
  else comesS S f t
structure OkS (S : Ws) : Prop where
  held : ∀ i, 0 ≤ S.H i ∧ S.H i ≤ 1000000
  len : ∀ f t, (S.w f t).length ≤ 1000000
  note : ∀ f t, f < 4 → t < 4 → f ≠ t → ∀ m ∈ S.w f t, okN f t m
end Tree.R16
