/- Layer 1: its environment is the program's: with slices.Clone and slices.Grow at cells. -/
import Derived.Test.YtfcmmgldkanliaaDoorTX
import Derived.Test.YtfcmmgldkanliaaDoorL1Chk
import Derived.Test.YtfcmmgldkanliaaDoorTE
import Derived.Test.YtfcmmgldkanliaaDoorL1Lay
set_option autoImplicit false
namespace Tree
open Go Go.Proofs
theorem only39 : nuTable.all (fun e => e.2 != 39 || e.1 == 47) = true := by decide +kernel
theorem only564 : nuTable.all (fun e => e.2 != 564 || e.1 == 64) = true := by decide +kernel
theorem fn_only {T : Tab} {g k : Nat} (h : T.nu.all (fun e => e.2 != g || e.1 == k) = true) {f : FuncId} (hf : T.fn f = some g) : f = k := by
  have := List.all_eq_true.1 h _ (fn_mem hf)
  simpa using this
theorem infoC : infoB tab1.P (Tryd.cloneT_ren.t 23) 5 48 = true := by decide +kernel
theorem infoG : infoB tab1.P (Tryd.growT_ren.t 25) 5 48 = true := by decide +kernel
theorem fC : Tryd.cloneT_ren.f 41 = 47 := by decide +kernel
theorem fG : Tryd.growT_ren.f 4 = 64 := by decide +kernel
theorem env1_ok : EnvOk tab1 env1 where
  tab := tab1_tab
  mixed := tab1_mixed
  eq := tab1_eq
  code := code_of (fun e he => List.all_eq_true.1 tab1_code e he)
  ext := by
    intro g F hg args r ob pb hF
    by_cases h1 : g = 564
    · subst h1
      obtain rfl : growF 5 48 = F := by
        have : env1.fns 564 = some (.ext (growF 5 48)) := rfl
        rw [this] at hg; injection hg with hg; injection hg
      obtain ⟨i, z, a1, a2, a3, a4, a5⟩ := info_of infoG
      exact grow_ext Tryd.growT (fun f hf => (fn_only only564 hf).trans fG.symm) a1 a2 a3 a4 a5 (by decide) args r ob pb hF
    · by_cases h2 : g = 39
      · subst h2
        obtain rfl : cloneF 5 48 = F := by
          have : env1.fns 39 = some (.ext (cloneF 5 48)) := rfl
          rw [this] at hg; injection hg with hg; injection hg
        obtain ⟨i, z, a1, a2, a3, a4, a5⟩ := info_of infoC
        exact clone_ext Tryd.cloneT (fun f hf => (fn_only only39 hf).trans fC.symm) a1 a2 a3 a4 a5 (by decide) args r ob pb hF
      · simp only [env1, h1, h2, if_false] at hg
        obtain ⟨e, _, he⟩ := Option.map_eq_some_iff.1 hg
        cases he
end Tree
