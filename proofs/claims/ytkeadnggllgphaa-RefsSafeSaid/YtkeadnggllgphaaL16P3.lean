/- purlinlaw16.RefsSafe answers true for every name and moves, and each argument reads afterwards as it read before: no condition. -/
import Derived.Test.YtkeadnggllgphaaL16Law
import Derived.Test.YtkeadnggllgphaaL16TyS
import Derived.Test.YtkeadnggllgphaaR16ZA
set_option autoImplicit false
set_option linter.unusedVariables false
namespace Go.Proofs.Ytkeadnggllgphaa
open Go Go.ChangeShapes Go.WideShapes Go.ChangeAt Go.RowKit Tree
namespace refsSafeL
def S : List TypeId := [34, 35, 48, 3]
theorem closedS : Closed tab16.P (fun t => S.contains t) := closed_of (by kernel_rfl)
theorem fnG : tab16.fn 4 = some 664 := by decide +kernel
theorem parL : Try.f4.params.toList = [34, 35] := by rw [Try.params4]
theorem parS : ∀ t ∈ Try.f4.params.toList, S.contains t = true ∧ (shOf tab16.P 8 t).isSome = true := by
  rw [parL]; decide +kernel
theorem parR : ∀ t ∈ Try.f4.params.toList, Try.prog.readableRec t = true ∧ t < Try.prog.types.size := by
  rw [parL]; decide +kernel
theorem hE (lvs : List LV) (hl : lvs.length = Try.f4.params.toList.length) (hA : ∀ (j : Nat) t lv, Try.f4.params.toList[j]? = some t → lvs[j]? = some lv → ArgTy tab16.P t lv) : ∃ ob', Gives env16 664 lvs [] 0 (.bool true, ob') := by
  rw [parL] at hl hA
  obtain ⟨a0, a1, rfl⟩ : ∃ a0 a1, lvs = [a0, a1] := by
    match lvs, hl with
    | [a0, a1], _ => exact ⟨a0, a1, rfl⟩
  obtain ⟨cs, rfl, h4⟩ := arg_struct (n := 8) (by kernel_rfl) (by kernel_rfl) (hA 0 34 a0 rfl rfl)
  obtain ⟨a, b, rfl⟩ := h4.ints2
  obtain ⟨l, sp, rfl⟩ := R16.movesL_of (arg_plain (a := .sl 48) (n := 8) (by kernel_rfl) (by kernel_rfl) (hA 1 35 a1 rfl rfl))
  exact R16.safe_law a b 0 l sp
set_option maxRecDepth 100000 in
theorem contract (H : Type) (enc : TypeId × Value → H) (W : World) (base : Nat) (args : Array Value) (ds gs : List (DataW H)) (before : List MemPlace) (vt : List TypeId)
    (hval : ∀ (j : Nat) t v, Try.f4.params[j]? = some t → args[j]? = some v → Value.okWide Try.prog W .any base t v)
    (hW : DataW.Whole enc Try.prog Try.f4.params.toList Rows.refsSafeSpec.vars false W args.toList ds gs before) (hwt : (DataW.weightsEach Try.prog (Try.f4.params.toList ++ vt) (ds ++ gs)).all (· ≤ reachBytes) = true) (hL : laidMetH Try.prog Rows.refsSafeRow.laid W) :
    Calls Try.prog 4 args W fun e W' => ∃ v, e = .returned v ∧ Rows.refsSafeSpec.post enc Try.prog Try.f4 false true false false W args v W' := by
  have hW' := hW
  obtain ⟨p, q, hA0, hV, rfl, hfz, hnd⟩ := hW
  obtain ⟨n1, n2⟩ := trodAll_len _ _ _ _ hA0
  rw [parL] at n2
  have hc := law_main (T := tab16) (E := env16) (fn := Try.f4) env16_ok fnG closedS parS (bulky16 (H := H)) hval hW' hwt (globs16 hL) (fun lvs hl hA _ => hE lvs hl hA)
  refine hc.mono fun e W' ⟨he, hb⟩ => ⟨_, he, ?_⟩
  refine law_post laidOut16 parR rfl (tb := 4) (by kernel_rfl) (by kernel_rfl) ?_ hW' hb
  match ds, n2 with
  | [_, _], _ => rfl
noncomputable def wargs : Array Value := #[.agg #[.int .i64 0, .int .i64 0], .slice none 0 0]
theorem laid_met (os : Os) : laidMet Try.prog Rows.refsSafeRow.laid ((laidWorld os).forCall (fun _ _ => 0) ⟨#[], wargs, []⟩).memory :=
  laidMet_of_run' 8 (by kernel_rfl) (by kernel_rfl)
theorem reads (os : Os) {H : Type} (enc : TypeId × Value → H) : ∃ places, DataW.whole enc Try.prog ((laidWorld os).forCall (fun _ _ => 0) ⟨#[], wargs, []⟩).memory Try.f4.params.toList Rows.refsSafeSpec.vars false wargs.toList 8 = some ([.agg [.lit (.int .i64 0), .lit (.int .i64 0)], .nil], [], places) :=
  ⟨[], by kernel_rfl⟩
set_option maxRecDepth 100000 in
theorem lifted (os : Os) (started : os.Started) (H : Type) (enc : TypeId × Value → H) (F : Stop.Interp) :
    ReturnsInHanded {} Try.checked os 4 .any ((OpenSpec.ofChange Rows.refsSafeSpec).preRow enc Try.prog Try.f4 Rows.refsSafeRow.domain false Rows.refsSafeRow.laid) (((OpenSpec.ofChange Rows.refsSafeSpec).at F).post enc Try.prog Try.f4 false true false false) := by
  obtain ⟨places, hx⟩ := reads os enc
  refine returnsInHanded_of_row (C := Try.checked) (s := OpenSpec.ofChange Rows.refsSafeSpec) own16 started (by kernel_rfl) Try.func4
    (witness_row_at (enc := enc) (C := Try.checked) false (laidWorld os) wargs rfl (by kernel_rfl) (by kernel_rfl) (by kernel_rfl)
      (OpenSpec.preRow_of_cond 8 hx (by kernel_rfl) (fun k hk => by cases hk) (by kernel_rfl) (laid_met os))) ?_
  intro W base args ds gs before hval hW _ _ hwt hL _ _
  exact contract H enc W base args ds gs before _ hval hW hwt hL
theorem said : Rows.RefsSafeSaid :=
  OpenClaim.holds_of_cond 4 Try.f4 rfl rfl rfl rfl rfl rfl rfl ⟨rfl, rfl, rfl, rfl, rfl⟩ rfl rfl rfl rfl rfl (by kernel_rfl) Try.func4 (by kernel_rfl)
    (of_decide_eq_true (by kernel_rfl)) (by unfold Func.isWrapper; first | (rw [if_pos (by decide +kernel)]; kernel_rfl) | (rw [if_neg (by decide +kernel)]; exact ⟨rfl, rfl⟩))
    (fun os started H enc _ F => by rw [OpenClaim.pre_eq_preRow]; exact lifted os started H enc F)
end refsSafeL
theorem refsSafe_holds : Rows.RefsSafeSaid := refsSafeL.said
end Go.Proofs.Ytkeadnggllgphaa
