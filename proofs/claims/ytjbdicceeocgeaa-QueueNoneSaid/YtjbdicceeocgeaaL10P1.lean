/- purlinlaw10.QueueNone answers true for every goals and names, and each argument reads afterwards as it read before: no condition. -/
import Derived.Test.YtjbdicceeocgeaaL10Law
import Derived.Test.YtjbdicceeocgeaaL10Ty
import Derived.Test.YtjbdicceeocgeaaL10None
set_option autoImplicit false
set_option linter.unusedVariables false
namespace Go.Proofs.Ytjbdicceeocgeaa
open Go Go.ChangeShapes Go.WideShapes Go.ChangeAt Go.RowKit Tree
namespace queueNoneL
def S : List TypeId := [22, 33, 24, 31, 100, 45, 9, 3, 98]
theorem closedS : Closed tab10.P (fun t => S.contains t) := closed_of (by kernel_rfl)
theorem fnG : tab10.fn 8 = some 589 := by decide +kernel
theorem parL : Try.f8.params.toList = [22, 45] := by rw [Try.params8]
theorem parS : ∀ t ∈ Try.f8.params.toList, S.contains t = true ∧ (shOf tab10.P 8 t).isSome = true := by
  rw [parL]; decide +kernel
theorem parR : ∀ t ∈ Try.f8.params.toList, Try.prog.readableRec t = true ∧ t < Try.prog.types.size := by
  rw [parL]; decide +kernel
theorem hE (lvs : List LV) (hl : lvs.length = Try.f8.params.toList.length) (hA : ∀ (j : Nat) t lv, Try.f8.params.toList[j]? = some t → lvs[j]? = some lv → ArgTy tab10.P t lv) : ∃ ob', Gives env10 589 lvs [] 0 (.bool true, ob') := by
  rw [parL] at hl hA
  obtain ⟨a0, a1, rfl⟩ : ∃ a0 a1, lvs = [a0, a1] := by
    match lvs, hl with
    | [a0, a1], _ => exact ⟨a0, a1, rfl⟩
  obtain ⟨xs, sp, rfl, _⟩ := arg_plain (a := .sl 33) (n := 8) (by kernel_rfl) (by kernel_rfl) (hA 0 22 a0 rfl rfl)
  obtain ⟨ys, s2, rfl, _⟩ := arg_plain (a := .sl 24) (n := 8) (by kernel_rfl) (by kernel_rfl) (hA 1 45 a1 rfl rfl)
  exact ⟨[], Q10.none_ok _ _ _ _ xs sp ys s2⟩
set_option maxRecDepth 100000 in
theorem contract (H : Type) (enc : TypeId × Value → H) (W : World) (base : Nat) (args : Array Value) (ds gs : List (DataW H)) (before : List MemPlace) (vt : List TypeId)
    (hval : ∀ (j : Nat) t v, Try.f8.params[j]? = some t → args[j]? = some v → Value.okWide Try.prog W .any base t v)
    (hW : DataW.Whole enc Try.prog Try.f8.params.toList Rows.queueNoneSpec.vars false W args.toList ds gs before) (hwt : (DataW.weightsEach Try.prog (Try.f8.params.toList ++ vt) (ds ++ gs)).all (· ≤ reachBytes) = true) (hL : laidMetH Try.prog Rows.queueNoneRow.laid W) :
    Calls Try.prog 8 args W fun e W' => ∃ v, e = .returned v ∧ Rows.queueNoneSpec.post enc Try.prog Try.f8 false true false false W args v W' := by
  have hW' := hW
  obtain ⟨p, q, hA0, hV, rfl, hfz, hnd⟩ := hW
  obtain ⟨n1, n2⟩ := trodAll_len _ _ _ _ hA0
  rw [parL] at n2
  have hc := law_main (T := tab10) (E := env10) (fn := Try.f8) env10_ok fnG closedS parS (bulky10 (H := H)) hval hW' hwt (globs10 hL) (fun lvs hl hA _ => hE lvs hl hA)
  refine hc.mono fun e W' ⟨he, hb⟩ => ⟨_, he, ?_⟩
  refine law_post laidOut10 parR rfl (tb := 4) (by kernel_rfl) (by kernel_rfl) ?_ hW' hb
  match ds, n2 with
  | [_, _], _ => rfl
noncomputable def wargs : Array Value := #[.slice none 0 0, .slice none 0 0]
theorem laid_met (os : Os) : laidMet Try.prog Rows.queueNoneRow.laid ((laidWorld os).forCall (fun _ _ => 0) ⟨#[], wargs, []⟩).memory :=
  laidMet_of_run' 8 (by kernel_rfl) (by kernel_rfl)
theorem reads (os : Os) {H : Type} (enc : TypeId × Value → H) : ∃ places, DataW.whole enc Try.prog ((laidWorld os).forCall (fun _ _ => 0) ⟨#[], wargs, []⟩).memory Try.f8.params.toList Rows.queueNoneSpec.vars false wargs.toList 8 = some ([.nil, .nil], [], places) :=
  ⟨[], by kernel_rfl⟩
set_option maxRecDepth 100000 in
theorem lifted (os : Os) (started : os.Started) (H : Type) (enc : TypeId × Value → H) (F : Stop.Interp) :
    ReturnsInHanded {} Try.checked os 8 .any ((OpenSpec.ofChange Rows.queueNoneSpec).preRow enc Try.prog Try.f8 Rows.queueNoneRow.domain false Rows.queueNoneRow.laid) (((OpenSpec.ofChange Rows.queueNoneSpec).at F).post enc Try.prog Try.f8 false true false false) := by
  obtain ⟨places, hx⟩ := reads os enc
  refine returnsInHanded_of_row (C := Try.checked) (s := OpenSpec.ofChange Rows.queueNoneSpec) own10 started (by kernel_rfl) Try.func8
    (witness_row_at (enc := enc) (C := Try.checked) false (laidWorld os) wargs rfl (by kernel_rfl) (by kernel_rfl) (by kernel_rfl)
      (OpenSpec.preRow_of_cond 8 hx (by kernel_rfl) (fun k hk => by cases hk) (by kernel_rfl) (laid_met os))) ?_
  intro W base args ds gs before hval hW _ _ hwt hL _ _
  exact contract H enc W base args ds gs before _ hval hW hwt hL
theorem said : Rows.QueueNoneSaid :=
  OpenClaim.holds_of_cond 8 Try.f8 rfl rfl rfl rfl rfl rfl rfl ⟨rfl, rfl, rfl, rfl, rfl⟩ rfl rfl rfl rfl rfl (by kernel_rfl) Try.func8 (by kernel_rfl)
    (of_decide_eq_true (by kernel_rfl)) (by unfold Func.isWrapper; first | (rw [if_pos (by decide +kernel)]; kernel_rfl) | (rw [if_neg (by decide +kernel)]; exact ⟨rfl, rfl⟩))
    (fun os started H enc _ F => by rw [OpenClaim.pre_eq_preRow]; exact lifted os started H enc F)
end queueNoneL
theorem queueNone_holds : Rows.QueueNoneSaid := queueNoneL.said
end Go.Proofs.Ytjbdicceeocgeaa
