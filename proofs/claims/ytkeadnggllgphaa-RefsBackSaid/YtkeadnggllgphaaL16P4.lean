/- purlinlaw16.RefsBack answers true for every name and times, and each argument reads afterwards as it read before: no condition. -/
import Derived.Test.YtkeadnggllgphaaL16Law
import Derived.Test.YtkeadnggllgphaaR16ZB
set_option autoImplicit false
set_option linter.unusedVariables false
namespace Go.Proofs.Ytkeadnggllgphaa
open Go Go.ChangeShapes Go.WideShapes Go.ChangeAt Go.RowKit Tree
namespace refsBackL
def S : List TypeId := [34, 52, 3, 5]
theorem closedS : Closed tab16.P (fun t => S.contains t) := closed_of (by kernel_rfl)
theorem fnG : tab16.fn 5 = some 665 := by decide +kernel
theorem parL : Try.f5.params.toList = [34, 52] := by rw [Try.params5]
theorem parS : ∀ t ∈ Try.f5.params.toList, S.contains t = true ∧ (shOf tab16.P 8 t).isSome = true := by
  rw [parL]; decide +kernel
theorem parR : ∀ t ∈ Try.f5.params.toList, Try.prog.readableRec t = true ∧ t < Try.prog.types.size := by
  rw [parL]; decide +kernel
theorem hE (lvs : List LV) (hl : lvs.length = Try.f5.params.toList.length) (hA : ∀ (j : Nat) t lv, Try.f5.params.toList[j]? = some t → lvs[j]? = some lv → ArgTy tab16.P t lv) : ∃ ob', Gives env16 665 lvs [] 0 (.bool true, ob') := by
  rw [parL] at hl hA
  obtain ⟨a0, a1, rfl⟩ : ∃ a0 a1, lvs = [a0, a1] := by
    match lvs, hl with
    | [a0, a1], _ => exact ⟨a0, a1, rfl⟩
  obtain ⟨cs, rfl, h4⟩ := arg_struct (n := 8) (by kernel_rfl) (by kernel_rfl) (hA 0 34 a0 rfl rfl)
  obtain ⟨a, b, rfl⟩ := h4.ints2
  obtain ⟨ds, rfl, h5, k, h6, h7⟩ := arg_arr (n := 3) (e := 5) (by kernel_rfl) (hA 1 52 a1 rfl rfl)
  have hk : tab16.P.underlying 5 = some (.int .u8) := by kernel_rfl
  rw [hk] at h6
  injection h6 with h6
  injection h6 with h6
  subst h6
  have h8 : tab16.P.cellsOf 52 = 3 := by kernel_rfl
  rw [h8] at h5
  obtain ⟨d0, d1, d2, rfl⟩ := R16.three_of h5
  obtain ⟨z0, rfl, w0⟩ := h7 d0 (by simp)
  obtain ⟨z1, rfl, w1⟩ := h7 d1 (by simp)
  obtain ⟨z2, rfl, w2⟩ := h7 d2 (by simp)
  have hw : ∀ z, (Lit.int .u8 z).wf = true → 0 ≤ z ∧ z ≤ 255 := by
    intro z hz
    simp only [Lit.wf, Bool.and_eq_true, decide_eq_true_eq] at hz
    have e1 : IntKind.min .u8 = 0 := by decide
    have e2 : IntKind.max .u8 = 255 := by decide
    rw [e1, e2] at hz
    exact hz
  exact R16.back_law a b z0 z1 z2 (hw z0 w0) (hw z1 w1) (hw z2 w2)
set_option maxRecDepth 100000 in
theorem contract (H : Type) (enc : TypeId × Value → H) (W : World) (base : Nat) (args : Array Value) (ds gs : List (DataW H)) (before : List MemPlace) (vt : List TypeId)
    (hval : ∀ (j : Nat) t v, Try.f5.params[j]? = some t → args[j]? = some v → Value.okWide Try.prog W .any base t v)
    (hW : DataW.Whole enc Try.prog Try.f5.params.toList Rows.refsBackSpec.vars false W args.toList ds gs before) (hwt : (DataW.weightsEach Try.prog (Try.f5.params.toList ++ vt) (ds ++ gs)).all (· ≤ reachBytes) = true) (hL : laidMetH Try.prog Rows.refsBackRow.laid W) :
    Calls Try.prog 5 args W fun e W' => ∃ v, e = .returned v ∧ Rows.refsBackSpec.post enc Try.prog Try.f5 false true false false W args v W' := by
  have hW' := hW
  obtain ⟨p, q, hA0, hV, rfl, hfz, hnd⟩ := hW
  obtain ⟨n1, n2⟩ := trodAll_len _ _ _ _ hA0
  rw [parL] at n2
  have hc := law_main (T := tab16) (E := env16) (fn := Try.f5) env16_ok fnG closedS parS (bulky16 (H := H)) hval hW' hwt (globs16 hL) (fun lvs hl hA _ => hE lvs hl hA)
  refine hc.mono fun e W' ⟨he, hb⟩ => ⟨_, he, ?_⟩
  refine law_post laidOut16 parR rfl (tb := 4) (by kernel_rfl) (by kernel_rfl) ?_ hW' hb
  match ds, n2 with
  | [_, _], _ => rfl
noncomputable def wargs : Array Value := #[.agg #[.int .i64 0, .int .i64 0], .agg #[.int .u8 0, .int .u8 0, .int .u8 0]]
theorem laid_met (os : Os) : laidMet Try.prog Rows.refsBackRow.laid ((laidWorld os).forCall (fun _ _ => 0) ⟨#[], wargs, []⟩).memory :=
  laidMet_of_run' 8 (by kernel_rfl) (by kernel_rfl)
theorem reads (os : Os) {H : Type} (enc : TypeId × Value → H) : ∃ places, DataW.whole enc Try.prog ((laidWorld os).forCall (fun _ _ => 0) ⟨#[], wargs, []⟩).memory Try.f5.params.toList Rows.refsBackSpec.vars false wargs.toList 8 = some ([.agg [.lit (.int .i64 0), .lit (.int .i64 0)], .agg [.lit (.int .u8 0), .lit (.int .u8 0), .lit (.int .u8 0)]], [], places) :=
  ⟨[], by kernel_rfl⟩
set_option maxRecDepth 100000 in
theorem lifted (os : Os) (started : os.Started) (H : Type) (enc : TypeId × Value → H) (F : Stop.Interp) :
    ReturnsInHanded {} Try.checked os 5 .any ((OpenSpec.ofChange Rows.refsBackSpec).preRow enc Try.prog Try.f5 Rows.refsBackRow.domain false Rows.refsBackRow.laid) (((OpenSpec.ofChange Rows.refsBackSpec).at F).post enc Try.prog Try.f5 false true false false) := by
  obtain ⟨places, hx⟩ := reads os enc
  refine returnsInHanded_of_row (C := Try.checked) (s := OpenSpec.ofChange Rows.refsBackSpec) own16 started (by kernel_rfl) Try.func5
    (witness_row_at (enc := enc) (C := Try.checked) false (laidWorld os) wargs rfl (by kernel_rfl) (by kernel_rfl) (by kernel_rfl)
      (OpenSpec.preRow_of_cond 8 hx (by kernel_rfl) (fun k hk => by cases hk) (by kernel_rfl) (laid_met os))) ?_
  intro W base args ds gs before hval hW _ _ hwt hL _ _
  exact contract H enc W base args ds gs before _ hval hW hwt hL
theorem said : Rows.RefsBackSaid :=
  OpenClaim.holds_of_cond 5 Try.f5 rfl rfl rfl rfl rfl rfl rfl ⟨rfl, rfl, rfl, rfl, rfl⟩ rfl rfl rfl rfl rfl (by kernel_rfl) Try.func5 (by kernel_rfl)
    (of_decide_eq_true (by kernel_rfl)) (by unfold Func.isWrapper; first | (rw [if_pos (by decide +kernel)]; kernel_rfl) | (rw [if_neg (by decide +kernel)]; exact ⟨rfl, rfl⟩))
    (fun os started H enc _ F => by rw [OpenClaim.pre_eq_preRow]; exact lifted os started H enc F)
end refsBackL
theorem refsBack_holds : Rows.RefsBackSaid := refsBackL.said
end Go.Proofs.Ytkeadnggllgphaa
