/- Layer 1: where slices.Clone and slices.Grow lie in this program: the library's layings in plain words (printed by its tool). -/
import Derived.Shelf.SlicesE.Clone
import Derived.Shelf.Spec.SlicesGrow
import Derived.Ground.SlgnProg
import Derived.Ground.Names8Prog
import Derived.Test.YtfcmmgldkanliaaDoorChecked
namespace Go.Proofs
open Go.Shelf
def Tryd.cloneT_ren : Go.Shelf.Ren := ⟨fun | 41 => 47 | n => n, fun | 22 => 33 | 23 => 48 | 4 => 4 | n => n, fun | n => n⟩
theorem Tryd.cloneT : Go.Proofs.SlLaysE0.n41 Tryd.prog Tryd.cloneT_ren := {
  mixed := by kernel_rfl
  f41 := ⟨Tryd.f47.name, by decide, Tryd.func47.trans (congrArg some (by kernel_rfl))⟩
  t4 := Tryd.underlying4
  a4 := Tryd.isAgg4
  z4 := Tryd.sizeOf4
  v4 := Tryd.zeroValue4
  t22 := Tryd.underlying33
  a22 := Tryd.isAgg33
  z22 := Tryd.sizeOf33
  v22 := Tryd.zeroValue33 }
def Tryd.growT_ren : Go.Shelf.Ren := ⟨fun | 4 => 64 | n => n, fun | 22 => 33 | 25 => 48 | 3 => 3 | 4 => 4 | 9 => 9 | 20 => 20 | 0 => 0 | n => n, fun | n => n⟩
theorem Tryd.growT : Go.Proofs.Lays8.n4 Tryd.prog Tryd.growT_ren := {
  mixed := by kernel_rfl
  f4 := ⟨Tryd.f64.name, by decide, Tryd.func64.trans (congrArg some (by kernel_rfl))⟩
  t0 := Tryd.underlying0
  a0 := Tryd.isAgg0
  z0 := Tryd.sizeOf0
  v0 := Tryd.zeroValue0
  t3 := Tryd.underlying3
  a3 := Tryd.isAgg3
  z3 := Tryd.sizeOf3
  v3 := Tryd.zeroValue3
  t4 := Tryd.underlying4
  a4 := Tryd.isAgg4
  z4 := Tryd.sizeOf4
  v4 := Tryd.zeroValue4
  t9 := Tryd.underlying9
  a9 := Tryd.isAgg9
  z9 := Tryd.sizeOf9
  v9 := Tryd.zeroValue9
  t20 := Tryd.underlying20
  a20 := Tryd.isAgg20
  z20 := Tryd.sizeOf20
  v20 := Tryd.zeroValue20
  t22 := Tryd.underlying33
  a22 := Tryd.isAgg33
  z22 := Tryd.sizeOf33
  v22 := Tryd.zeroValue33 }
end Go.Proofs
