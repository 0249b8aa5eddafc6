/- purlintop.TopHolders answers true for every number and nodes, and each argument reads afterwards as it read before: no condition. -/
import Derived.Test.YtfdamolkgfcoiaaLHLaw
import Derived.Test.YtfdamolkgfcoiaaTHTy
set_option autoImplicit false
set_option linter.unusedVariables false
namespace Go.Proofs.Ytfdamolkgfcoiaa
open Go Go.ChangeShapes Go.WideShapes Go.ChangeAt Go.RowKit Tree
namespace topHoldersL
def S : List TypeId := [3, 22]
theorem closedS : Closed tabH.P (fun t => S.contains t) := closed_of (by kernel_rfl)
theorem fnG : tabH.fn 3 = some 669 := by decide +kernel
theorem parL : Try.f3.params.toList = [3, 22] := by rw [Try.params3]
theorem parS : ∀ t ∈ Try.f3.params.toList, S.contains t = true ∧ (shOf tabH.P 8 t).isSome = true := by
  rw [parL]; decide +kernel
theorem parR : ∀ t ∈ Try.f3.params.toList, Try.prog.readableRec t = true ∧ t < Try.prog.types.size := by
  rw [parL]; decide +kernel
theorem hE (lvs : List LV) (hl : lvs.length = Try.f3.params.toList.length) (hA : ∀ (j : Nat) t lv, Try.f3.params.toList[j]? = some t → lvs[j]? = some lv → ArgTy tabH.P t lv) : ∃ ob', Gives envH 669 lvs [] 0 (.bool true, ob') := by
  rw [parL] at hl hA
  obtain ⟨a0, a1, rfl⟩ : ∃ a0 a1, lvs = [a0, a1] := by
    match lvs, hl with
    | [a0, a1], _ => exact ⟨a0, a1, rfl⟩
  obtain ⟨k, rfl, _⟩ := arg_plain (a := .i .i64) (n := 8) (by kernel_rfl) (by kernel_rfl) (hA 0 3 a0 rfl rfl)
  obtain ⟨l, sp, rfl⟩ := TH.intsL_of (arg_plain (a := .sl 3) (n := 8) (by kernel_rfl) (by kernel_rfl) (hA 1 22 a1 rfl rfl))
  exact TH.holders_law k 0 l sp
set_option maxRecDepth 100000 in
theorem contract (H : Type) (enc : TypeId × Value → H) (W : World) (base : Nat) (args : Array Value) (ds gs : List (DataW H)) (before : List MemPlace) (vt : List TypeId)
    (hval : ∀ (j : Nat) t v, Try.f3.params[j]? = some t → args[j]? = some v → Value.okWide Try.prog W .any base t v)
    (hW : DataW.Whole enc Try.prog Try.f3.params.toList Rows.topHoldersSpec.vars false W args.toList ds gs before) (hwt : (DataW.weightsEach Try.prog (Try.f3.params.toList ++ vt) (ds ++ gs)).all (· ≤ reachBytes) = true) (hL : laidMetH Try.prog Rows.topHoldersRow.laid W) :
    Calls Try.prog 3 args W fun e W' => ∃ v, e = .returned v ∧ Rows.topHoldersSpec.post enc Try.prog Try.f3 false true false false W args v W' := by
  have hW' := hW
  obtain ⟨p, q, hA0, hV, rfl, hfz, hnd⟩ := hW
  obtain ⟨n1, n2⟩ := trodAll_len _ _ _ _ hA0
  rw [parL] at n2
  have hc := law_main (T := tabH) (E := envH) (fn := Try.f3) envH_ok fnG closedS parS (bulkyH (H := H)) hval hW' hwt (globsH hL) (fun lvs hl hA _ => hE lvs hl hA)
  refine hc.mono fun e W' ⟨he, hb⟩ => ⟨_, he, ?_⟩
  refine law_post laidOutH parR rfl (tb := 4) (by kernel_rfl) (by kernel_rfl) ?_ hW' hb
  match ds, n2 with
  | [_, _], _ => rfl
noncomputable def wargs : Array Value := #[.int .i64 0, .slice none 0 0]
theorem laid_met (os : Os) : laidMet Try.prog Rows.topHoldersRow.laid ((laidWorld os).forCall (fun _ _ => 0) ⟨#[], wargs, []⟩).memory :=
  laidMet_of_run' 8 (by kernel_rfl) (by kernel_rfl)
theorem reads (os : Os) {H : Type} (enc : TypeId × Value → H) : ∃ places, DataW.whole enc Try.prog ((laidWorld os).forCall (fun _ _ => 0) ⟨#[], wargs, []⟩).memory Try.f3.params.toList Rows.topHoldersSpec.vars false wargs.toList 8 = some ([.lit (.int .i64 0), .nil], [], places) :=
  ⟨[], by kernel_rfl⟩
set_option maxRecDepth 100000 in
theorem lifted (os : Os) (started : os.Started) (H : Type) (enc : TypeId × Value → H) (F : Stop.Interp) :
    ReturnsInHanded {} Try.checked os 3 .any ((OpenSpec.ofChange Rows.topHoldersSpec).preRow enc Try.prog Try.f3 Rows.topHoldersRow.domain false Rows.topHoldersRow.laid) (((OpenSpec.ofChange Rows.topHoldersSpec).at F).post enc Try.prog Try.f3 false true false false) := by
  obtain ⟨places, hx⟩ := reads os enc
  refine returnsInHanded_of_row (C := Try.checked) (s := OpenSpec.ofChange Rows.topHoldersSpec) ownH started (by kernel_rfl) Try.func3
    (witness_row_at (enc := enc) (C := Try.checked) false (laidWorld os) wargs rfl (by kernel_rfl) (by kernel_rfl) (by kernel_rfl)
      (OpenSpec.preRow_of_cond 8 hx (by kernel_rfl) (fun k hk => by cases hk) (by kernel_rfl) (laid_met os))) ?_
  intro W base args ds gs before hval hW _ _ hwt hL _ _
  exact contract H enc W base args ds gs before _ hval hW hwt hL
theorem said : Rows.TopHoldersSaid :=
  OpenClaim.holds_of_cond 3 Try.f3 rfl rfl rfl rfl rfl rfl rfl ⟨rfl, rfl, rfl, rfl, rfl⟩ rfl rfl rfl rfl rfl (by kernel_rfl) Try.func3 (by kernel_rfl)
    (of_decide_eq_true (by kernel_rfl)) (by unfold Func.isWrapper; first | (rw [if_pos (by decide +kernel)]; kernel_rfl) | (rw [if_neg (by decide +kernel)]; exact ⟨rfl, rfl⟩))
    (fun os started H enc _ F => by rw [OpenClaim.pre_eq_preRow]; exact lifted os started H enc F)
end topHoldersL
theorem topHolders_holds : Rows.TopHoldersSaid := topHoldersL.said
end Go.Proofs.Ytfdamolkgfcoiaa
