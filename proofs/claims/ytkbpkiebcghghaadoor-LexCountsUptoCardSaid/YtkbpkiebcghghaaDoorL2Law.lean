/- Layer 2: from E's answer to the law's call: the listed variables, what stands behind the call. -/
import Derived.Test.YtkbpkiebcghghaaDoorTG
import Derived.Test.YtkbpkiebcghghaaDoorTF
import Derived.Test.YtkbpkiebcghghaaDoorL2Ext
import Derived.Stop.LaidErr
import Derived.Test.YtkbpkiebcghghaaDoorCards
import Derived.Test.YtkbpkiebcghghaaDoorTie
import Derived.ProofKit
import Derived.Deep.DeepHandedRow
set_option autoImplicit false
set_option linter.unusedVariables false
namespace Tree
open Go Go.Proofs Go.Proofs.YtkbpkiebcghghaaDoor
theorem own2 : ownKnob Tryd.prog.godebug = none := by kernel_rfl
theorem laidOut2 : laidOutB Tryd.prog = true := by kernel_rfl
theorem gER2 : Tryd.prog.globalNamed "strconv.ErrRange" = some 2 := by kernel_rfl
theorem star2 : "*" ++ "errors.errorString" = "*errors.errorString" := by decide
theorem row2 (u : TypeId) (h : Tryd.prog.typeName? 3 u = some "*errors.errorString") : u = 108 := by
  exact typeName_ptr_named (nm := "errors.errorString") (by rw [star2]; kernel_rfl) (by kernel_rfl) (by decide) u (by rw [star2]; exact h)
theorem globs2 {W : World} (h : laidMet Tryd.prog [("math/bits.deBruijn32tab", Rows.laid_math_bits_deBruijn32tab), ("math/bits.deBruijn64tab", Rows.laid_math_bits_deBruijn64tab), ("internal/strconv.uint64pow10", Rows.laid_internal_strconv_uint64pow10), ("strconv.ErrRange", Rows.laid_strconv_ErrRange), ("strconv.ErrSyntax", Rows.laid_strconv_ErrSyntax)] W) : Globs tab2 env2z.gl (Mem.start W) := by
  refine ⟨fun g h hg => by simp [tab2] at hg, fun g hg => ?_⟩
  obtain rfl : g = 2 := by simpa [tab2] using hg
  obtain ⟨a, s, hv, -, -, -⟩ := laid_sentinel (tp := 108) (te := 110) (ts := 9) h.tail.tail.tail gER2 (show _ = some 74 by kernel_rfl) Tryd.underlying74 row2 Tryd.underlying108 Tryd.underlying110 rfl rfl Tryd.underlying9 (by kernel_rfl) (by kernel_rfl)
  exact ⟨0, 108, .pointer (some a), rfl, by have h0 := World.var?_cell gER2 hv 0; show W.cell? _ = _; simpa using h0⟩
theorem bulky2 {H : Type} : Bulky (Rows.uptoBulk (H := H)) (Rows.uptoBulkAll (H := H)) where
  str := fun b => by simp [Rows.uptoBulk]
  lit := fun l => by cases l <;> simp [Rows.uptoBulk]
  nil := by simp [Rows.uptoBulk]
  slice := fun a b => by simp [Rows.uptoBulk]
  agg := fun a => by simp [Rows.uptoBulk]
  nilA := by simp [Rows.uptoBulkAll]
  consA := fun d r => by simp [Rows.uptoBulkAll]
abbrev synS : ByteArray := ⟨#[105, 110, 118, 97, 108, 105, 100, 32, 115, 121, 110, 116, 97, 120]⟩
abbrev rngS : ByteArray := ⟨#[118, 97, 108, 117, 101, 32, 111, 117, 116, 32, 111, 102, 32, 114, 97, 110, 103, 101]⟩
noncomputable def low2 : Nat := (World.holding Tryd.prog default ⟨#[], #[], []⟩).heap.size
noncomputable def tab32 : Array Value := ([0, 1, 28, 2, 29, 14, 24, 3, 30, 22, 20, 15, 25, 17, 4, 8, 31, 27, 13, 23, 21, 19, 16, 7, 26, 12, 18, 6, 11, 5, 10, 9] : List Int).map (fun n => Value.int .u8 n) |>.toArray
noncomputable def tab64 : Array Value := ([0, 1, 56, 2, 57, 49, 28, 3, 61, 58, 42, 50, 38, 29, 17, 4, 62, 47, 59, 36, 45, 43, 51, 22, 53, 39, 33, 30, 24, 18, 12, 5, 63, 55, 48, 27, 60, 41, 37, 16, 46, 35, 44, 21, 52, 32, 23, 11, 54, 26, 40, 15, 34, 20, 31, 10, 25, 14, 19, 9, 13, 8, 7, 6] : List Int).map (fun n => Value.int .u8 n) |>.toArray
noncomputable def tabP10 : Array Value := ([1, 10, 100, 1000, 10000, 100000, 1000000, 10000000, 100000000, 1000000000, 10000000000, 100000000000, 1000000000000, 10000000000000, 100000000000000, 1000000000000000, 10000000000000000, 100000000000000000, 1000000000000000000, 10000000000000000000] : List Int).map (fun n => Value.int .u64 n) |>.toArray
noncomputable def setB (cs : Array Value) : Obj → Obj := fun
  | .cells _ t frozen => .cells cs t frozen
  | o => o
/-- A world for the witness: the settled one, the listed variables holding what their initialisers lay. -/
noncomputable def laidWorld (os : Os) : World :=
  let w0 := World.holding Tryd.prog os ⟨#[.cells #[.string synS] 110, .cells #[.string rngS] 110], #[], []⟩
  { w0 with heap := ((((w0.heap.modify 1 (setB #[.iface 108 (.pointer (some ⟨low2, 0, none⟩))])).modify 2 (setB #[.iface 108 (.pointer (some ⟨low2 + 1, 0, none⟩))])).modify 3 (setB tabP10)).modify 4 (setB tab32)).modify 5 (setB tab64) }
end Tree
