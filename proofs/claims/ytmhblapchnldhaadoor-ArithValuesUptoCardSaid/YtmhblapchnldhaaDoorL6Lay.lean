/- Layer 6: where slices.Clone and slices.Grow lie in this program: the library's layings in plain words (as its tool prints them). -/
import Derived.Shelf.SlicesE.Clone
import Derived.Ground.SlgnProg
import Derived.Shelf.Bits.Mul64
import Derived.Test.YtmhblapchnldhaaDoorChecked
namespace Go.Proofs
open Go.Shelf
def Tryd.cloneT39_ren : Go.Shelf.Ren := ⟨fun | 41 => 60 | n => n, fun | 22 => 24 | 23 => 59 | 4 => 4 | n => n, fun | n => n⟩
theorem Tryd.cloneT39 : Go.Proofs.SlLaysE0.n41 Tryd.prog Tryd.cloneT39_ren := {
  mixed := by kernel_rfl
  f41 := ⟨Tryd.f60.name, by decide, Tryd.func60.trans (congrArg some (by kernel_rfl))⟩
  t4 := Tryd.underlying4
  a4 := Tryd.isAgg4
  z4 := Tryd.sizeOf4
  v4 := Tryd.zeroValue4
  t22 := Tryd.underlying24
  a22 := Tryd.isAgg24
  z22 := Tryd.sizeOf24
  v22 := Tryd.zeroValue24 }
def Tryd.mulT265_ren : Go.Shelf.Ren := ⟨fun | 264 => 90 | n => n, fun | 46 => 138 | 53 => 123 | n => n, fun | n => n⟩
theorem Tryd.mulT265 : Go.Proofs.Lays.n264 Tryd.prog Tryd.mulT265_ren := {
  mixed := by kernel_rfl
  f264 := Tryd.func90.trans (congrArg some (by kernel_rfl))
  t46 := Tryd.underlying138
  a46 := Tryd.isAgg138
  z46 := Tryd.sizeOf138
  v46 := Tryd.zeroValue138
  t53 := Tryd.underlying123
  a53 := Tryd.isAgg123
  z53 := Tryd.sizeOf123
  v53 := Tryd.zeroValue123 }
end Go.Proofs
