/- TopLast: where slices.Clone and bytes.Clone lie in this program: the library's layings in plain words (as its tool prints them). -/
import Derived.Shelf.SlicesE.Clone
import Derived.Shelf.Bytes.SlClone
import Derived.Ground.SlgnProg
import Derived.Ground.SlbCloneProg
import Derived.Test.YtogeefachdlkiaaChecked
namespace Go.Proofs
open Go.Shelf
def Try.cloneT142_ren : Go.Shelf.Ren := ⟨fun | 41 => 24 | n => n, fun | 22 => 29 | 23 => 5 | 4 => 4 | n => n, fun | n => n⟩
theorem Try.cloneT142 : Go.Proofs.SlLaysE0.n41 Try.prog Try.cloneT142_ren := {
  mixed := by kernel_rfl
  f41 := ⟨Try.f24.name, by decide, Try.func24.trans (congrArg some (by kernel_rfl))⟩
  t4 := Try.underlying4
  a4 := Try.isAgg4
  z4 := Try.sizeOf4
  v4 := Try.zeroValue4
  t22 := Try.underlying29
  a22 := Try.isAgg29
  z22 := Try.sizeOf29
  v22 := Try.zeroValue29 }
def Try.bcloneT_ren : Go.Shelf.Ren := ⟨fun | 4 => 18 | n => n, fun | 22 => 29 | 4 => 4 | 5 => 5 | n => n, fun | n => n⟩
theorem Try.bcloneT : Go.Proofs.SlLaysK.n4 Try.prog Try.bcloneT_ren := {
  mixed := by kernel_rfl
  f4 := Try.func18.trans (congrArg some (by kernel_rfl))
  t4 := Try.underlying4
  a4 := Try.isAgg4
  z4 := Try.sizeOf4
  v4 := Try.zeroValue4
  t22 := Try.underlying29
  a22 := Try.isAgg29
  z22 := Try.sizeOf29
  v22 := Try.zeroValue29
  t5 := Try.underlying5
  i5 := by kernel_rfl }
end Go.Proofs
