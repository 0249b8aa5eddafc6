/- Layer 4b: where slices.Clone and slices.Grow lie in this program: the library's layings in plain words (as its tool prints them). -/
import Derived.Shelf.SlicesE.Clone
import Derived.Ground.SlgnProg
import Derived.Shelf.Spec.SlicesGrow
import Derived.Ground.Names8Prog
import Derived.Test.YtpjoppajohmmnaaDoorChecked
namespace Go.Proofs
open Go.Shelf
def Tryd.cloneT39_ren : Go.Shelf.Ren := ⟨fun | 41 => 93 | n => n, fun | 22 => 37 | 23 => 70 | 4 => 4 | n => n, fun | n => n⟩
theorem Tryd.cloneT39 : Go.Proofs.SlLaysE0.n41 Tryd.prog Tryd.cloneT39_ren := {
  mixed := by kernel_rfl
  f41 := ⟨Tryd.f93.name, by decide, Tryd.func93.trans (congrArg some (by kernel_rfl))⟩
  t4 := Tryd.underlying4
  a4 := Tryd.isAgg4
  z4 := Tryd.sizeOf4
  v4 := Tryd.zeroValue4
  t22 := Tryd.underlying37
  a22 := Tryd.isAgg37
  z22 := Tryd.sizeOf37
  v22 := Tryd.zeroValue37 }
def Tryd.growT574_ren : Go.Shelf.Ren := ⟨fun | 4 => 113 | n => n, fun | 22 => 38 | 25 => 37 | 0 => 0 | 3 => 3 | 4 => 4 | 9 => 9 | 20 => 20 | n => n, fun | n => n⟩
theorem Tryd.growT574 : Go.Proofs.Lays8.n4 Tryd.prog Tryd.growT574_ren := {
  mixed := by kernel_rfl
  f4 := ⟨Tryd.f113.name, by decide, Tryd.func113.trans (congrArg some (by kernel_rfl))⟩
  t0 := Tryd.underlying0
  a0 := Tryd.isAgg0
  z0 := Tryd.sizeOf0
  v0 := Tryd.zeroValue0
  t3 := Tryd.underlying3
  a3 := Tryd.isAgg3
  z3 := Tryd.sizeOf3
  v3 := Tryd.zeroValue3
  t4 := Tryd.underlying4
  a4 := Tryd.isAgg4
  z4 := Tryd.sizeOf4
  v4 := Tryd.zeroValue4
  t9 := Tryd.underlying9
  a9 := Tryd.isAgg9
  z9 := Tryd.sizeOf9
  v9 := Tryd.zeroValue9
  t20 := Tryd.underlying20
  a20 := Tryd.isAgg20
  z20 := Tryd.sizeOf20
  v20 := Tryd.zeroValue20
  t22 := Tryd.underlying38
  a22 := Tryd.isAgg38
  z22 := Tryd.sizeOf38
  v22 := Tryd.zeroValue38 }
end Go.Proofs
