/- purlintop.TopLast answers true for every rows of bytes and number, and each argument reads afterwards as it read before: no condition. -/
import Derived.Test.YtogeefachdlkiaaLJLaw
import Derived.Test.YtogeefachdlkiaaLJTy
set_option autoImplicit false
set_option linter.unusedVariables false
namespace Go.Proofs.Ytogeefachdlkiaa
open Go Go.ChangeShapes Go.WideShapes Go.ChangeAt Go.RowKit Tree
namespace topLastL
def S : List TypeId := [22, 29, 5, 3]
theorem closedS : Closed tabJ.P (fun t => S.contains t) := closed_of (by kernel_rfl)
theorem fnG : tabJ.fn 3 = some 633 := by decide +kernel
theorem parL : Try.f3.params.toList = [22, 3] := by rw [Try.params3]
theorem parS : ∀ t ∈ Try.f3.params.toList, S.contains t = true ∧ (shOf tabJ.P 8 t).isSome = true := by
  rw [parL]; decide +kernel
theorem parR : ∀ t ∈ Try.f3.params.toList, Try.prog.readableRec t = true ∧ t < Try.prog.types.size := by
  rw [parL]; decide +kernel
theorem hE (lvs : List LV) (hl : lvs.length = Try.f3.params.toList.length) (hA : ∀ (j : Nat) t lv, Try.f3.params.toList[j]? = some t → lvs[j]? = some lv → ArgTy tabJ.P t lv) : ∃ ob', Gives envJ 633 lvs [] 0 (.bool true, ob') := by
  rw [parL] at hl hA
  obtain ⟨a0, a1, rfl⟩ : ∃ a0 a1, lvs = [a0, a1] := by
    match lvs, hl with
    | [a0, a1], _ => exact ⟨a0, a1, rfl⟩
  obtain ⟨L, sp, rfl, h1, h2⟩ := J14.paysL_ofP (t := 29) (e := 5) (by kernel_rfl) (by kernel_rfl) (by kernel_rfl) (by kernel_rfl) (by kernel_rfl) (by kernel_rfl) (arg_plain (a := .sl 29) (n := 8) (by kernel_rfl) (by kernel_rfl) (hA 0 22 a0 rfl rfl))
  obtain ⟨n, rfl, hn⟩ := arg_plain (a := .i .i64) (n := 8) (by kernel_rfl) (by kernel_rfl) (hA 1 3 a1 rfl rfl)
  exact J14.last_law L h1 h2 sp n (J14.i64_wf hn)
set_option maxRecDepth 100000 in
theorem contract (H : Type) (enc : TypeId × Value → H) (W : World) (base : Nat) (args : Array Value) (ds gs : List (DataW H)) (before : List MemPlace) (vt : List TypeId)
    (hval : ∀ (j : Nat) t v, Try.f3.params[j]? = some t → args[j]? = some v → Value.okWide Try.prog W .any base t v)
    (hW : DataW.Whole enc Try.prog Try.f3.params.toList Rows.topLastSpec.vars false W args.toList ds gs before) (hwt : (DataW.weightsEach Try.prog (Try.f3.params.toList ++ vt) (ds ++ gs)).all (· ≤ reachBytes) = true) (hL : laidMetH Try.prog Rows.topLastRow.laid W) :
    Calls Try.prog 3 args W fun e W' => ∃ v, e = .returned v ∧ Rows.topLastSpec.post enc Try.prog Try.f3 false true false false W args v W' := by
  have hW' := hW
  obtain ⟨p, q, hA0, hV, rfl, hfz, hnd⟩ := hW
  obtain ⟨n1, n2⟩ := trodAll_len _ _ _ _ hA0
  rw [parL] at n2
  have hc := law_main (T := tabJ) (E := envJ) (fn := Try.f3) envJ_ok fnG closedS parS (bulkyJ (H := H)) hval hW' hwt (globsJ hL) (fun lvs hl hA _ => hE lvs hl hA)
  refine hc.mono fun e W' ⟨he, hb⟩ => ⟨_, he, ?_⟩
  refine law_post laidOutJ parR rfl (tb := 4) (by kernel_rfl) (by kernel_rfl) ?_ hW' hb
  match ds, n2 with
  | [_, _], _ => rfl
noncomputable def wargs : Array Value := #[.slice none 0 0, .int .i64 0]
theorem laid_met (os : Os) : laidMet Try.prog Rows.topLastRow.laid ((laidWorld os).forCall (fun _ _ => 0) ⟨#[], wargs, []⟩).memory :=
  laidMet_of_run' 8 (by kernel_rfl) (by kernel_rfl)
theorem reads (os : Os) {H : Type} (enc : TypeId × Value → H) : ∃ places, DataW.whole enc Try.prog ((laidWorld os).forCall (fun _ _ => 0) ⟨#[], wargs, []⟩).memory Try.f3.params.toList Rows.topLastSpec.vars false wargs.toList 8 = some ([.nil, .lit (.int .i64 0)], [], places) :=
  ⟨[], by kernel_rfl⟩
set_option maxRecDepth 100000 in
theorem lifted (os : Os) (started : os.Started) (H : Type) (enc : TypeId × Value → H) (F : Stop.Interp) :
    ReturnsInHanded {} Try.checked os 3 .any ((OpenSpec.ofChange Rows.topLastSpec).preRow enc Try.prog Try.f3 Rows.topLastRow.domain false Rows.topLastRow.laid) (((OpenSpec.ofChange Rows.topLastSpec).at F).post enc Try.prog Try.f3 false true false false) := by
  obtain ⟨places, hx⟩ := reads os enc
  refine returnsInHanded_of_row (C := Try.checked) (s := OpenSpec.ofChange Rows.topLastSpec) ownJ started (by kernel_rfl) Try.func3
    (witness_row_at (enc := enc) (C := Try.checked) false (laidWorld os) wargs rfl (by kernel_rfl) (by kernel_rfl) (by kernel_rfl)
      (OpenSpec.preRow_of_cond 8 hx (by kernel_rfl) (fun k hk => by cases hk) (by kernel_rfl) (laid_met os))) ?_
  intro W base args ds gs before hval hW _ _ hwt hL _ _
  exact contract H enc W base args ds gs before _ hval hW hwt hL
theorem said : Rows.TopLastSaid :=
  OpenClaim.holds_of_cond 3 Try.f3 rfl rfl rfl rfl rfl rfl rfl ⟨rfl, rfl, rfl, rfl, rfl⟩ rfl rfl rfl rfl rfl (by kernel_rfl) Try.func3 (by kernel_rfl)
    (of_decide_eq_true (by kernel_rfl)) (by unfold Func.isWrapper; first | (rw [if_pos (by decide +kernel)]; kernel_rfl) | (rw [if_neg (by decide +kernel)]; exact ⟨rfl, rfl⟩))
    (fun os started H enc _ F => by rw [OpenClaim.pre_eq_preRow]; exact lifted os started H enc F)
end topLastL
theorem topLast_holds : Rows.TopLastSaid := topLastL.said
end Go.Proofs.Ytogeefachdlkiaa
