/- Layer 10: where slices.Clone and slices.Grow lie in this program: the library's layings in plain words (as its tool prints them). -/
import Derived.Shelf.SlicesE.Clone
import Derived.Ground.SlgnProg
import Derived.Test.YtjbdicceeocgeaaChecked
namespace Go.Proofs
open Go.Shelf
def Try.cloneT39_ren : Go.Shelf.Ren := ⟨fun | 41 => 74 | n => n, fun | 22 => 31 | 23 => 100 | 4 => 4 | n => n, fun | n => n⟩
theorem Try.cloneT39 : Go.Proofs.SlLaysE0.n41 Try.prog Try.cloneT39_ren := {
  mixed := by kernel_rfl
  f41 := ⟨Try.f74.name, by decide, Try.func74.trans (congrArg some (by kernel_rfl))⟩
  t4 := Try.underlying4
  a4 := Try.isAgg4
  z4 := Try.sizeOf4
  v4 := Try.zeroValue4
  t22 := Try.underlying31
  a22 := Try.isAgg31
  z22 := Try.sizeOf31
  v22 := Try.zeroValue31 }
end Go.Proofs
