/- purlinlaw01.TermVars answers true for every term and locals, and each argument reads afterwards as it read before: the variables of what was put in. Conditions: the package variable purlin/term.signs holds what its initialiser lays (the card ties that to the text); nothing else is asked of the input. -/
import Derived.Test.YtfcmmgldkanliaaDoorL1Law
import Derived.Test.YtfcmmgldkanliaaDoorL1Data
import Derived.Test.YtfcmmgldkanliaaDoorL1TVars
set_option autoImplicit false
set_option linter.unusedVariables false
namespace Go.Proofs.YtfcmmgldkanliaaDoor
open Go Go.ChangeShapes Go.WideShapes Go.ChangeAt Go.RowKit Tree
namespace termVarsL
def S : List TypeId := [33, 48, 46, 9, 3, 23, 28]
theorem closedS : Closed tab1.P (fun t => S.contains t) := closed_of (by kernel_rfl)
theorem fnG : tab1.fn 7 = some 569 := by decide +kernel
theorem parL : Tryd.f7.params.toList = [33, 28] := by rw [Tryd.params7]
theorem parS : ∀ t ∈ Tryd.f7.params.toList, S.contains t = true ∧ (shOf tab1.P 8 t).isSome = true := by
  rw [parL]; decide +kernel
theorem parR : ∀ t ∈ Tryd.f7.params.toList, Tryd.prog.readableRec t = true ∧ t < Tryd.prog.types.size := by
  rw [parL]; decide +kernel
theorem hE (lvs : List LV) (hl : lvs.length = Tryd.f7.params.toList.length) (hA : ∀ (j : Nat) t lv, Tryd.f7.params.toList[j]? = some t → lvs[j]? = some lv → ArgTy tab1.P t lv) : ∃ ob', Gives env1 569 lvs [] 0 (.bool true, ob') := by
  rw [parL] at hl hA
  obtain ⟨a0, a1, rfl⟩ : ∃ a0 a1, lvs = [a0, a1] := by
    match lvs, hl with
    | [a0, a1], _ => exact ⟨a0, a1, rfl⟩
  obtain ⟨cs, sp, rfl, h6, h7⟩ := term_of (arg_plain (n := 8) sh33 (by kernel_rfl) (hA 0 33 a0 rfl rfl))
  obtain ⟨ts, sq, rfl, h8, h9⟩ := termsL_of (arg_plain (a := .sl 33) (n := 8) (by kernel_rfl) (by kernel_rfl) (hA 1 28 a1 rfl rfl))
  exact ⟨[], termVars_ok cs sp ts sq (by omega) h6 (by omega) (fun t ht => ⟨by have := (h8 t ht).2; omega, (h8 t ht).1⟩)⟩
theorem contract (H : Type) (enc : TypeId × Value → H) (W : World) (base : Nat) (args : Array Value) (ds gs : List (DataW H)) (before : List MemPlace) (vt : List TypeId)
    (hval : ∀ (j : Nat) t v, Tryd.f7.params[j]? = some t → args[j]? = some v → Value.okWide Tryd.prog W .any base t v)
    (hW : DataW.Whole enc Tryd.prog Tryd.f7.params.toList Rows.termVarsSpec.vars false W args.toList ds gs before) (hwt : (DataW.weightsEach Tryd.prog (Tryd.f7.params.toList ++ vt) (ds ++ gs)).all (· ≤ reachBytes) = true) (hL : laidMetH Tryd.prog Rows.termVarsRow.laid W) :
    Calls Tryd.prog 7 args W fun e W' => ∃ v, e = .returned v ∧ Rows.termVarsSpec.post enc Tryd.prog Tryd.f7 false true false false W args v W' := by
  have hW' := hW
  obtain ⟨p, q, hA0, hV, rfl, hfz, hnd⟩ := hW
  obtain ⟨n1, n2⟩ := trodAll_len _ _ _ _ hA0
  rw [parL] at n2
  have hc := law_main (T := tab1) (E := env1) (fn := Tryd.f7) env1_ok fnG closedS parS (bulky1 (H := H)) hval hW' hwt (globs1 hL) (fun lvs hl hA _ => hE lvs hl hA)
  refine hc.mono fun e W' ⟨he, hb⟩ => ⟨_, he, ?_⟩
  refine law_post laidOut1 parR rfl (tb := 4) (by kernel_rfl) (by kernel_rfl) ?_ hW' hb
  match ds, n2 with
  | [_, _], _ => rfl
noncomputable def wargs : Array Value := #[.slice none 0 0, .slice none 0 0]
theorem laid_met (os : Os) : laidMet Tryd.prog Rows.termVarsRow.laid ((laidWorld os).forCall (fun _ _ => 0) ⟨#[], wargs, []⟩).memory :=
  laidMet_of_run' 8 (by kernel_rfl) (by kernel_rfl)
theorem reads (os : Os) {H : Type} (enc : TypeId × Value → H) : ∃ places, DataW.whole enc Tryd.prog ((laidWorld os).forCall (fun _ _ => 0) ⟨#[], wargs, []⟩).memory Tryd.f7.params.toList Rows.termVarsSpec.vars false wargs.toList 8 = some ([.nil, .nil], [], places) :=
  ⟨[], by kernel_rfl⟩
set_option maxRecDepth 100000 in
theorem lifted (os : Os) (started : os.Started) (H : Type) (enc : TypeId × Value → H) (F : Stop.Interp) :
    ReturnsInHanded {} Tryd.checked os 7 .any ((OpenSpec.ofChange Rows.termVarsSpec).preRow enc Tryd.prog Tryd.f7 Rows.termVarsRow.domain false Rows.termVarsRow.laid) (((OpenSpec.ofChange Rows.termVarsSpec).at F).post enc Tryd.prog Tryd.f7 false true false false) := by
  obtain ⟨places, hx⟩ := reads os enc
  refine returnsInHanded_of_row (C := Tryd.checked) (s := OpenSpec.ofChange Rows.termVarsSpec) own1 started (by kernel_rfl) Tryd.func7
    (witness_row_at (enc := enc) (C := Tryd.checked) false (laidWorld os) wargs rfl (by kernel_rfl) (by kernel_rfl) (by kernel_rfl)
      (OpenSpec.preRow_of_cond 8 hx (by kernel_rfl) (fun k hk => by cases hk) (by kernel_rfl) (laid_met os))) ?_
  intro W base args ds gs before hval hW _ _ hwt hL _ _
  exact contract H enc W base args ds gs before _ hval hW hwt hL
theorem said : Rows.TermVarsSaid :=
  OpenClaim.holds_of_cond 7 Tryd.f7 rfl rfl rfl rfl rfl rfl rfl ⟨rfl, rfl, rfl, rfl, rfl⟩ rfl rfl rfl rfl rfl (by kernel_rfl) Tryd.func7 (by kernel_rfl)
    (of_decide_eq_true (by kernel_rfl)) (by unfold Func.isWrapper; first | (rw [if_pos (by decide +kernel)]; kernel_rfl) | (rw [if_neg (by decide +kernel)]; exact ⟨rfl, rfl⟩))
    (fun os started H enc _ F => by rw [OpenClaim.pre_eq_preRow]; exact lifted os started H enc F)
theorem stands : ([33, 28] : List TypeId).all (fun t => Tryd.prog.wantsStandIn t == false) = true := by kernel_rfl
theorem plain (f : FuncId) (fn : Func) (hf : Tryd.pinned.checked.prog.funcNamed "purlin/purlinlaw01.TermVars" = some f) (hfn : Tryd.pinned.checked.prog.funcs[f]? = some fn) :
    false = Tryd.pinned.checked.prog.looks [] ∧ ∀ (j : Nat) t, fn.params[j]? = some t → Tryd.pinned.checked.prog.wantsStandIn t = false := by
  obtain rfl : f = 7 := Option.some.inj ((show Tryd.prog.funcNamed "purlin/purlinlaw01.TermVars" = some 7 by kernel_rfl).symm.trans hf) |>.symm
  obtain rfl : fn = Tryd.f7 := (Option.some.inj (Tryd.func7.symm.trans hfn)).symm
  refine ⟨by kernel_rfl, fun j t ht => ?_⟩
  have hm : t ∈ ([33, 28] : List TypeId) := by rw [← parL]; exact Array.mem_toList_iff.2 (Array.mem_of_getElem? ht)
  have := List.all_eq_true.1 stands t hm
  exact (show Tryd.prog.wantsStandIn t = false by simpa using this)
theorem card : Rows.TermVarsCardSaid :=
  Claim7.holds_tied_plain_at .later [] _ _ _ _ said (fun _ h => by cases h) (by kernel_rfl) (fun _ h => by cases h) termVars_row_tie rfl ⟨rfl, rfl⟩ (by kernel_rfl) rfl plain (by kernel_rfl)
end termVarsL
theorem termVars_holds : Rows.TermVarsCardSaid := termVarsL.card
end Go.Proofs.YtfcmmgldkanliaaDoor
