/- Layer T: where slices.Clone and slices.Grow lie in this program: the library's layings in plain words (as its tool prints them). -/
import Derived.Shelf.SlicesE.Clone
import Derived.Ground.SlgnProg
import Derived.Shelf.Bits.Mul64
import Derived.Test.YtphdgjglofapbaaDoorChecked
namespace Go.Proofs
open Go.Shelf
def Tryd.cloneT39_ren : Go.Shelf.Ren := ⟨fun | 41 => 29 | n => n, fun | 22 => 23 | 23 => 85 | 4 => 4 | n => n, fun | n => n⟩
theorem Tryd.cloneT39 : Go.Proofs.SlLaysE0.n41 Tryd.prog Tryd.cloneT39_ren := {
  mixed := by kernel_rfl
  f41 := ⟨Tryd.f29.name, by decide, Tryd.func29.trans (congrArg some (by kernel_rfl))⟩
  t4 := Tryd.underlying4
  a4 := Tryd.isAgg4
  z4 := Tryd.sizeOf4
  v4 := Tryd.zeroValue4
  t22 := Tryd.underlying23
  a22 := Tryd.isAgg23
  z22 := Tryd.sizeOf23
  v22 := Tryd.zeroValue23 }
def Tryd.mulT265_ren : Go.Shelf.Ren := ⟨fun | 264 => 115 | n => n, fun | 46 => 162 | 53 => 181 | n => n, fun | n => n⟩
theorem Tryd.mulT265 : Go.Proofs.Lays.n264 Tryd.prog Tryd.mulT265_ren := {
  mixed := by kernel_rfl
  f264 := Tryd.func115.trans (congrArg some (by kernel_rfl))
  t46 := Tryd.underlying162
  a46 := Tryd.isAgg162
  z46 := Tryd.sizeOf162
  v46 := Tryd.zeroValue162
  t53 := Tryd.underlying181
  a53 := Tryd.isAgg181
  z53 := Tryd.sizeOf181
  v53 := Tryd.zeroValue181 }
end Go.Proofs
