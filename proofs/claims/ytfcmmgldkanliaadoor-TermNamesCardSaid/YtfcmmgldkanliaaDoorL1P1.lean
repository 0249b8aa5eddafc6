/- purlinlaw01.TermNames answers true for every text and every two names, and each argument reads afterwards as it read before. Conditions: the package variable purlin/term.signs holds what its initialiser lays (the card ties that to the text); nothing else is asked of the input. -/
import Derived.Test.YtfcmmgldkanliaaDoorL1Law
import Derived.Test.YtfcmmgldkanliaaDoorL1Names
set_option autoImplicit false
set_option linter.unusedVariables false
namespace Go.Proofs.YtfcmmgldkanliaaDoor
open Go Go.ChangeShapes Go.WideShapes Go.ChangeAt Go.RowKit Tree
namespace Names1
def S : List TypeId := [9, 3, 23]
theorem closedS : Closed tab1.P (fun t => S.contains t) := closed_of (by kernel_rfl)
theorem fn3 : tab1.fn 3 = some 565 := by decide +kernel
theorem len3 {α β : Type} {f : α → β → Prop} : True := trivial
theorem contract (H : Type) (enc : TypeId × Value → H) (W : World) (base : Nat) (args : Array Value) (ds gs : List (DataW H)) (before : List MemPlace)
    (hval : ∀ (j : Nat) t v, Tryd.f3.params[j]? = some t → args[j]? = some v → Value.okWide Tryd.prog W .any base t v)
    (hW : DataW.Whole enc Tryd.prog Tryd.f3.params.toList Rows.termNamesSpec.vars false W args.toList ds gs before) (hL : laidMetH Tryd.prog Rows.termNamesRow.laid W) :
    Calls Tryd.prog 3 args W fun e W' => ∃ v, e = .returned v ∧ Rows.termNamesSpec.post enc Tryd.prog Tryd.f3 false true false false W args v W' := by
  have hW' := hW
  obtain ⟨p, q, hA0, hV, rfl, hfz, hnd⟩ := hW
  have hA : DataW.TrodAll enc Tryd.prog W 0 (fun _ => true) true Tryd.f3.params.toList args.toList ds p := hA0
  have hp : Tryd.f3.params.toList = [9, 23, 23] := by rw [Tryd.params3]
  rw [hp] at hA
  obtain ⟨lvs, l1, l2, l3⟩ := read_args (T := tab1) closedS [9, 23, 23] args.toList ds p (by decide) (fun j t v ht hv => by
    refine hval j t v ?_ (by simpa using hv)
    rw [Tryd.params3]; simpa using ht) hA
  obtain ⟨d1, d2, d3, rfl, hal⟩ : ∃ d1 d2 d3, ds = [d1, d2, d3] ∧ args.toList.length = 3 := by
    obtain ⟨v0, vs0, d0, ds0, p0, q0, e0, rfl, rfl, _, r0⟩ := trodAll_cons hA
    obtain ⟨v1, vs1, d1, ds1, p1, q1, rfl, rfl, rfl, _, r1⟩ := trodAll_cons r0
    obtain ⟨v2, vs2, d2, ds2, p2, q2, rfl, rfl, rfl, _, r2⟩ := trodAll_cons r1
    obtain ⟨rfl, rfl, rfl⟩ := trodAll_nil r2
    exact ⟨d0, d1, d2, rfl, by simp [e0]⟩
  obtain ⟨a0, a1, a2, rfl⟩ : ∃ a0 a1 a2, lvs = [a0, a1, a2] := by
    rw [hal] at l1
    match lvs, l1 with
    | [a0, a1, a2], _ => exact ⟨a0, a1, a2, rfl⟩
  obtain ⟨s, rfl, hs⟩ : ShOk tab1.P .s a0 := arg_plain (n := 4) (by kernel_rfl) (by kernel_rfl) (l2 0 9 a0 rfl rfl)
  obtain ⟨c1, rfl, g1⟩ := arg_struct (sh := [.i .i64, .i .i64]) (n := 4) (by kernel_rfl) (by kernel_rfl) (l2 1 23 a1 rfl rfl)
  obtain ⟨c2, rfl, g2⟩ := arg_struct (sh := [.i .i64, .i .i64]) (n := 4) (by kernel_rfl) (by kernel_rfl) (l2 2 23 a2 rfl rfl)
  obtain ⟨a, b, rfl⟩ : ∃ a b, c1 = [.int .i64 a, .int .i64 b] := by
    exact g1.ints2
  obtain ⟨c, d, rfl⟩ : ∃ a b, c2 = [.int .i64 a, .int .i64 b] := by
    exact g2.ints2
  obtain ⟨n, hc⟩ := termNames_ok s hs a b c d
  have hcalls := law_calls (vals := args) env1_ok fn3 (by simpa using l1) (fun j lv hj => by
    have hjl : j < args.size := by
      have := (List.getElem?_eq_some_iff.1 hj).1
      simp at l1 this; omega
    refine ⟨by simpa [Array.getD_eq_getD_getElem?, hjl] using l3 j lv args[j] hj (by simp [hjl]), ?_⟩
    match j, hj with
    | 0, hj => cases hj; rfl
    | 1, hj => cases hj; rfl
    | 2, hj => cases hj; rfl
    | _ + 3, hj => simp at hj) (globs1 hL) (by rfl) hc
  refine hcalls.mono fun e W' ⟨he, hb⟩ => ⟨_, he, ?_⟩
  exact law_post laidOut1 (by rw [hp]; decide +kernel) rfl (tb := 4) (by kernel_rfl) (by kernel_rfl) rfl hW' hb
noncomputable def wargs : Array Value := #[.string ⟨#[]⟩, .agg #[.int .i64 0, .int .i64 0], .agg #[.int .i64 0, .int .i64 0]]
theorem laid_met (os : Os) : laidMet Tryd.prog Rows.termNamesRow.laid ((laidWorld os).forCall (fun _ _ => 0) ⟨#[], wargs, []⟩).memory :=
  laidMet_of_run' 8 (by kernel_rfl) (by kernel_rfl)
theorem reads (os : Os) {H : Type} (enc : TypeId × Value → H) : ∃ ds places, DataW.whole enc Tryd.prog ((laidWorld os).forCall (fun _ _ => 0) ⟨#[], wargs, []⟩).memory Tryd.f3.params.toList Rows.termNamesSpec.vars false wargs.toList 8 = some (ds, [], places) :=
  ⟨[.lit (.string []), .agg [.lit (.int .i64 0), .lit (.int .i64 0)], .agg [.lit (.int .i64 0), .lit (.int .i64 0)]], [], by kernel_rfl⟩
set_option maxRecDepth 100000 in
theorem lifted (os : Os) (started : os.Started) (H : Type) (enc : TypeId × Value → H) (F : Stop.Interp) :
    ReturnsInHanded {} Tryd.checked os 3 .any ((OpenSpec.ofChange Rows.termNamesSpec).preRow enc Tryd.prog Tryd.f3 Rows.termNamesRow.domain false Rows.termNamesRow.laid) (((OpenSpec.ofChange Rows.termNamesSpec).at F).post enc Tryd.prog Tryd.f3 false true false false) := by
  obtain ⟨ds, places, hx⟩ := reads os enc
  refine returnsInHanded_of_row (C := Tryd.checked) (s := OpenSpec.ofChange Rows.termNamesSpec) own1 started (by kernel_rfl) Tryd.func3
    (witness_row_at (enc := enc) (C := Tryd.checked) false (laidWorld os) wargs rfl (by kernel_rfl) (by kernel_rfl) (by kernel_rfl)
      (OpenSpec.preRow_of_cond 8 hx (by kernel_rfl) (fun k hk => by cases hk) (by kernel_rfl) (laid_met os))) ?_
  intro W base args ds gs before hval hW _ _ _ hL _ _
  exact contract H enc W base args ds gs before hval hW hL
theorem said : Rows.TermNamesSaid :=
  OpenClaim.holds_of_cond 3 Tryd.f3 rfl rfl rfl rfl rfl rfl rfl ⟨rfl, rfl, rfl, rfl, rfl⟩ rfl rfl rfl rfl rfl (by kernel_rfl) Tryd.func3 (by kernel_rfl)
    (of_decide_eq_true (by kernel_rfl)) (by unfold Func.isWrapper; first | (rw [if_pos (by decide +kernel)]; kernel_rfl) | (rw [if_neg (by decide +kernel)]; exact ⟨rfl, rfl⟩))
    (fun os started H enc _ F => by rw [OpenClaim.pre_eq_preRow]; exact lifted os started H enc F)
theorem plain (f : FuncId) (fn : Func) (hf : Tryd.pinned.checked.prog.funcNamed "purlin/purlinlaw01.TermNames" = some f) (hfn : Tryd.pinned.checked.prog.funcs[f]? = some fn) :
    false = Tryd.pinned.checked.prog.looks [] ∧ ∀ (j : Nat) t, fn.params[j]? = some t → Tryd.pinned.checked.prog.wantsStandIn t = false := by
  obtain rfl : f = 3 := Option.some.inj ((show Tryd.prog.funcNamed "purlin/purlinlaw01.TermNames" = some 3 by kernel_rfl).symm.trans hf) |>.symm
  obtain rfl : fn = Tryd.f3 := (Option.some.inj (Tryd.func3.symm.trans hfn)).symm
  refine ⟨by kernel_rfl, fun j t ht => ?_⟩
  rw [Tryd.params3] at ht
  have hm := Array.mem_of_getElem? ht
  have : t = 9 ∨ t = 23 := by simpa using hm
  rcases this with rfl | rfl
  · exact (show Tryd.prog.wantsStandIn 9 = false by kernel_rfl)
  · exact (show Tryd.prog.wantsStandIn 23 = false by kernel_rfl)
theorem card : Rows.TermNamesCardSaid :=
  Claim7.holds_tied_plain_at .later [] _ _ _ _ said (fun _ h => by cases h) (by kernel_rfl) (fun _ h => by cases h) termNames_row_tie rfl ⟨rfl, rfl⟩ (by kernel_rfl) rfl plain (by kernel_rfl)
end Names1
theorem termNames_holds : Rows.TermNamesCardSaid := Names1.card
end Go.Proofs.YtfcmmgldkanliaaDoor
