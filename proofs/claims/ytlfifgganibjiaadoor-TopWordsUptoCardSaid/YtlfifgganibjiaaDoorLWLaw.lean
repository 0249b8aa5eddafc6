/- TopWords: from E's answer to the law's call: the listed variables, what stands behind the call. -/
import Derived.Test.YtlfifgganibjiaaDoorTG
import Derived.Test.YtlfifgganibjiaaDoorTF
import Derived.Test.YtlfifgganibjiaaDoorLWExt
import Derived.Test.YtlfifgganibjiaaDoorTY
import Derived.Stop.LaidErr
import Derived.Test.YtlfifgganibjiaaDoorCards
import Derived.Test.YtlfifgganibjiaaDoorTie
import Derived.ProofKit
import Derived.Deep.DeepHandedRow
set_option autoImplicit false
set_option linter.unusedVariables false
namespace Tree
open Go Go.Proofs Go.Proofs.YtlfifgganibjiaaDoor
theorem ownW : ownKnob Tryd.prog.godebug = none := by kernel_rfl
theorem laidOutW : laidOutB Tryd.prog = true := by kernel_rfl
theorem gERW : Tryd.prog.globalNamed "strconv.ErrRange" = some 2 := by kernel_rfl
theorem starW : "*" ++ "errors.errorString" = "*errors.errorString" := by decide
theorem rowW (u : TypeId) (h : Tryd.prog.typeName? 3 u = some "*errors.errorString") : u = 90 := by
  exact typeName_ptr_named (nm := "errors.errorString") (by rw [starW]; kernel_rfl) (by kernel_rfl) (by decide) u (by rw [starW]; exact h)
theorem gSignsW : Tryd.prog.globalNamed "purlin/term.signs" = some 0 := by kernel_rfl
/-- Whether errors are told apart is no matter of what a value reads as. -/
theorem rep_tab {T : Tab} {l : List Nat} {m : Mem} {lv : LV} {v : Value} (h : Rep { T with ifs := l } m lv v) : Rep T m lv v := by
  induction h with
  | bool b => exact .bool b
  | int k n => exact .int k n
  | str s => exact .str s
  | nil o l z => exact .nil o l z
  | emp o l z a => exact .emp o l z a
  | sl o l z xs sp b off cap val hc hz hm hr hM ih => exact .sl o l z xs sp b off cap val hc hz hm ih hM
  | agg cs vs hl hr ih => exact .agg cs vs hl ih
  | tup cs vs hl hr ih => exact .tup cs vs hl ih
  | iptr l cs off b base val hm hr ih => exact .iptr l cs off b base val hm ih
  | optr id off h => exact .optr id off h
  | nilptr => exact .nilptr
  | fn g cap f vs hf hl hr ih => exact .fn g cap f vs hf hl ih
  | nilfn => exact .nilfn
  | undef v => exact .undef v
  | mref id h => exact .mref id h
  | nilmap => exact .nilmap
  | yld id h => exact .yld id h
  | msl id off len cap sz h hM hl => exact .msl id off len cap sz h hM hl
theorem globsW {W : World} (h : laidMet Tryd.prog [("math/bits.deBruijn32tab", Rows.laid_math_bits_deBruijn32tab), ("math/bits.deBruijn64tab", Rows.laid_math_bits_deBruijn64tab), ("internal/strconv.uint64pow10", Rows.laid_internal_strconv_uint64pow10), ("purlin/term.signs", Rows.laid_purlin_term_signs), ("strconv.ErrRange", Rows.laid_strconv_ErrRange), ("strconv.ErrSyntax", Rows.laid_strconv_ErrSyntax)] W) : Globs tabW envW.gl (Mem.start W) := by
  have h1 := globs_signs (T := { tabW with ifs := [] }) (gl := envW.gl) (g := 0) (t := 57) (e := 9) rfl rfl rfl rfl gSignsW (by kernel_rfl) (by kernel_rfl) (by kernel_rfl) (by kernel_rfl) (by kernel_rfl) h.tail.tail.tail
  refine ⟨fun g h' hg => rep_tab (h1.1 g h' hg), fun g hg => ?_⟩
  obtain rfl : g = 2 := by simpa [tabW] using hg
  obtain ⟨a, s, hv, -, -, -⟩ := laid_sentinel (tp := 90) (te := 92) (ts := 9) h.tail.tail.tail.tail gERW (show _ = some 68 by kernel_rfl) Tryd.underlying68 rowW Tryd.underlying90 Tryd.underlying92 rfl rfl Tryd.underlying9 (by kernel_rfl) (by kernel_rfl)
  exact ⟨0, 90, .pointer (some a), rfl, by have h0 := World.var?_cell gERW hv 0; show W.cell? _ = _; simpa using h0⟩
theorem bulkyW {H : Type} : Bulky (Rows.uptoBulk (H := H)) (Rows.uptoBulkAll (H := H)) where
  str := fun b => by simp [Rows.uptoBulk]
  lit := fun l => by cases l <;> simp [Rows.uptoBulk]
  nil := by simp [Rows.uptoBulk]
  slice := fun a b => by simp [Rows.uptoBulk]
  agg := fun a => by simp [Rows.uptoBulk]
  nilA := by simp [Rows.uptoBulkAll]
  consA := fun d r => by simp [Rows.uptoBulkAll]
abbrev synS : ByteArray := ⟨#[105, 110, 118, 97, 108, 105, 100, 32, 115, 121, 110, 116, 97, 120]⟩
abbrev rngS : ByteArray := ⟨#[118, 97, 108, 117, 101, 32, 111, 117, 116, 32, 111, 102, 32, 114, 97, 110, 103, 101]⟩
noncomputable def lowW : Nat := (World.holding Tryd.prog default ⟨#[], #[], []⟩).heap.size
noncomputable def tab32 : Array Value := ([0, 1, 28, 2, 29, 14, 24, 3, 30, 22, 20, 15, 25, 17, 4, 8, 31, 27, 13, 23, 21, 19, 16, 7, 26, 12, 18, 6, 11, 5, 10, 9] : List Int).map (fun n => Value.int .u8 n) |>.toArray
noncomputable def tab64 : Array Value := ([0, 1, 56, 2, 57, 49, 28, 3, 61, 58, 42, 50, 38, 29, 17, 4, 62, 47, 59, 36, 45, 43, 51, 22, 53, 39, 33, 30, 24, 18, 12, 5, 63, 55, 48, 27, 60, 41, 37, 16, 46, 35, 44, 21, 52, 32, 23, 11, 54, 26, 40, 15, 34, 20, 31, 10, 25, 14, 19, 9, 13, 8, 7, 6] : List Int).map (fun n => Value.int .u8 n) |>.toArray
noncomputable def tabP10 : Array Value := ([1, 10, 100, 1000, 10000, 100000, 1000000, 10000000, 100000000, 1000000000, 10000000000, 100000000000, 1000000000000, 10000000000000, 100000000000000, 1000000000000000, 10000000000000000, 100000000000000000, 1000000000000000000, 10000000000000000000] : List Int).map (fun n => Value.int .u64 n) |>.toArray
noncomputable def setB (cs : Array Value) : Obj → Obj := fun
  | .cells _ t frozen => .cells cs t frozen
  | o => o
noncomputable def tabS : Array Value := (signBytes.map fun z => Value.string ⟨z.toArray⟩).toArray
/-- A world for the witness: the settled one, the listed variables holding what their initialisers lay. -/
noncomputable def laidWorld (os : Os) : World :=
  let w0 := World.holding Tryd.prog os ⟨#[.cells #[.string synS] 92, .cells #[.string rngS] 92], #[], []⟩
  { w0 with heap := (((((w0.heap.modify 0 (setB tabS)).modify 1 (setB #[.iface 90 (.pointer (some ⟨lowW, 0, none⟩))])).modify 2 (setB #[.iface 90 (.pointer (some ⟨lowW + 1, 0, none⟩))])).modify 3 (setB tabP10)).modify 4 (setB tab32)).modify 5 (setB tab64) }
end Tree
