/- purlinlaw16.RefsOrder answers true for every deeds, and each argument reads afterwards as it read before, where what is read is of bulk at most 1048576. Condition: that bulk. -/
import Derived.Test.YtkeadnggllgphaaL16Law
import Derived.Test.YtkeadnggllgphaaL16Ty
import Derived.Test.YtkeadnggllgphaaR16S
set_option autoImplicit false
set_option linter.unusedVariables false
namespace Go.Proofs.Ytkeadnggllgphaa
open Go Go.ChangeShapes Go.WideShapes Go.ChangeAt Go.RowKit Tree
namespace refsOrderL
def S : List TypeId := [22, 26, 3, 24, 34]
theorem closedS : Closed tab16.P (fun t => S.contains t) := closed_of (by kernel_rfl)
theorem fnG : tab16.fn 3 = some 663 := by decide +kernel
theorem parL : Try.f3.params.toList = [22] := by rw [Try.params3]
theorem parS : ∀ t ∈ Try.f3.params.toList, S.contains t = true ∧ (shOf tab16.P 8 t).isSome = true := by
  rw [parL]; decide +kernel
theorem parR : ∀ t ∈ Try.f3.params.toList, Try.prog.readableRec t = true ∧ t < Try.prog.types.size := by
  rw [parL]; decide +kernel
theorem hE (lvs : List LV) (hl : lvs.length = Try.f3.params.toList.length) (hA : ∀ (j : Nat) t lv, Try.f3.params.toList[j]? = some t → lvs[j]? = some lv → ArgTy tab16.P t lv) (hb : LV.bulks lvs ≤ 1048576) : ∃ ob', Gives env16 663 lvs [] 0 (.bool true, ob') := by
  rw [parL] at hl hA
  obtain ⟨a0, rfl⟩ : ∃ a0, lvs = [a0] := by
    match lvs, hl with
    | [a0], _ => exact ⟨a0, rfl⟩
  rw [LV.bulks, LV.bulks] at hb
  obtain ⟨l, sp, rfl, h1⟩ := R16.deedsL_of (arg_plain (a := .sl 26) (n := 8) (by kernel_rfl) (by kernel_rfl) (hA 0 22 a0 rfl rfl))
  exact R16.order_law 0 l sp (by omega)
set_option maxRecDepth 100000 in
theorem contract (H : Type) (enc : TypeId × Value → H) (W : World) (base : Nat) (args : Array Value) (ds gs : List (DataW H)) (before : List MemPlace) (vt : List TypeId)
    (hval : ∀ (j : Nat) t v, Try.f3.params[j]? = some t → args[j]? = some v → Value.okWide Try.prog W .any base t v)
    (hW : DataW.Whole enc Try.prog Try.f3.params.toList Rows.refsOrderSpec.vars false W args.toList ds gs before) (hwt : (DataW.weightsEach Try.prog (Try.f3.params.toList ++ vt) (ds ++ gs)).all (· ≤ reachBytes) = true) (hL : laidMetH Try.prog Rows.refsOrderUptoRow.laid W) (hcnd : Rows.uptoSmall H (ds ++ gs) = true) :
    Calls Try.prog 3 args W fun e W' => ∃ v, e = .returned v ∧ Rows.refsOrderSpec.post enc Try.prog Try.f3 false true false false W args v W' := by
  have hW' := hW
  obtain ⟨p, q, hA0, hV, rfl, hfz, hnd⟩ := hW
  obtain ⟨n1, n2⟩ := trodAll_len _ _ _ _ hA0
  rw [parL] at n2
  have hc := law_main (T := tab16) (E := env16) (fn := Try.f3) env16_ok fnG closedS parS (bulky16 (H := H)) hval hW' hwt (globs16 hL) (fun lvs hl hA hb => hE lvs hl hA (Nat.le_trans hb (bulk_left (bulky16 (H := H)) ds gs (of_decide_eq_true hcnd))))
  refine hc.mono fun e W' ⟨he, hb⟩ => ⟨_, he, ?_⟩
  refine law_post laidOut16 parR rfl (tb := 4) (by kernel_rfl) (by kernel_rfl) ?_ hW' hb
  match ds, n2 with
  | [_], _ => rfl
noncomputable def wargs : Array Value := #[.slice none 0 0]
theorem laid_met (os : Os) : laidMet Try.prog Rows.refsOrderUptoRow.laid ((laidWorld os).forCall (fun _ _ => 0) ⟨#[], wargs, []⟩).memory :=
  laidMet_of_run' 8 (by kernel_rfl) (by kernel_rfl)
theorem reads (os : Os) {H : Type} (enc : TypeId × Value → H) : ∃ places, DataW.whole enc Try.prog ((laidWorld os).forCall (fun _ _ => 0) ⟨#[], wargs, []⟩).memory Try.f3.params.toList Rows.refsOrderSpec.vars false wargs.toList 8 = some ([.nil], [], places) :=
  ⟨[], by kernel_rfl⟩
set_option maxRecDepth 100000 in
theorem lifted (os : Os) (started : os.Started) (H : Type) (enc : TypeId × Value → H) (F : Stop.Interp) :
    ReturnsInHanded {} Try.checked os 3 .any ((Rows.OpenSpec.upto Rows.refsOrderSpec).preRow enc Try.prog Try.f3 Rows.refsOrderUptoRow.domain false Rows.refsOrderUptoRow.laid) (((Rows.OpenSpec.upto Rows.refsOrderSpec).at F).post enc Try.prog Try.f3 false true false false) := by
  obtain ⟨places, hx⟩ := reads os enc
  refine returnsInHanded_of_row (C := Try.checked) (s := Rows.OpenSpec.upto Rows.refsOrderSpec) own16 started (by kernel_rfl) Try.func3
    (witness_row_at (enc := enc) (C := Try.checked) false (laidWorld os) wargs rfl (by kernel_rfl) (by kernel_rfl) (by kernel_rfl)
      (OpenSpec.preRow_of_cond 8 hx (by kernel_rfl) (fun k hk => by cases hk; kernel_rfl) (by kernel_rfl) (laid_met os))) ?_
  intro W base args ds gs before hval hW _ hcond hwt hL _ _
  exact contract H enc W base args ds gs before _ hval hW hwt hL (hcond _ rfl)
theorem said : Rows.RefsOrderUptoSaid :=
  OpenClaim.holds_of_cond 3 Try.f3 rfl rfl rfl rfl rfl rfl rfl ⟨rfl, rfl, rfl, rfl, rfl⟩ rfl rfl rfl rfl rfl (by kernel_rfl) Try.func3 (by kernel_rfl)
    (of_decide_eq_true (by kernel_rfl)) (by unfold Func.isWrapper; first | (rw [if_pos (by decide +kernel)]; kernel_rfl) | (rw [if_neg (by decide +kernel)]; exact ⟨rfl, rfl⟩))
    (fun os started H enc _ F => by rw [OpenClaim.pre_eq_preRow]; exact lifted os started H enc F)
end refsOrderL
theorem refsOrder_holds : Rows.RefsOrderUptoSaid := refsOrderL.said
end Go.Proofs.Ytkeadnggllgphaa
