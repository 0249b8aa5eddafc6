/- purlinlaw11.WireTerms answers true for every term, and the argument reads afterwards as it read before, where what is read is of bulk at most 1048576. Conditions: that bulk; the package variable purlin/term.signs holds what its initialiser lays (the card ties that to the text). -/
import Derived.Test.YtoofpbdalgopgaaDoorL11Law
import Derived.Test.YtoofpbdalgopgaaDoorL11Ty
import Derived.Test.YtoofpbdalgopgaaDoorL11W
set_option autoImplicit false
set_option linter.unusedVariables false
namespace Go.Proofs.YtoofpbdalgopgaaDoor
open Go Go.ChangeShapes Go.WideShapes Go.ChangeAt Go.RowKit Tree
namespace wireTermsL
def S : List TypeId := [26, 43, 24, 9, 3, 41]
theorem closedS : Closed tab11.P (fun t => S.contains t) := closed_of (by kernel_rfl)
theorem fnG : tab11.fn 5 = some 595 := by decide +kernel
theorem parL : Tryd.f5.params.toList = [26] := by rw [Tryd.params5]
theorem parS : ∀ t ∈ Tryd.f5.params.toList, S.contains t = true ∧ (shOf tab11.P 8 t).isSome = true := by
  rw [parL]; decide +kernel
theorem parR : ∀ t ∈ Tryd.f5.params.toList, Tryd.prog.readableRec t = true ∧ t < Tryd.prog.types.size := by
  rw [parL]; decide +kernel
theorem hE (lvs : List LV) (hl : lvs.length = Tryd.f5.params.toList.length) (hA : ∀ (j : Nat) t lv, Tryd.f5.params.toList[j]? = some t → lvs[j]? = some lv → ArgTy tab11.P t lv) (hb : LV.bulks lvs ≤ 1048576) : ∃ ob', Gives env11 595 lvs [] 0 (.bool true, ob') := by
  rw [parL] at hl hA
  obtain ⟨a0, rfl⟩ : ∃ a0, lvs = [a0] := List.length_eq_one_iff.1 hl
  rw [LV.bulks, LV.bulks] at hb
  obtain ⟨cs, ds, rfl, h6, h7⟩ := term_ofP W11.ty11 (arg_plain (a := .sl 43) (n := 8) (by kernel_rfl) (by kernel_rfl) (hA 0 26 a0 rfl rfl))
  have h8 := bulk5 false 0 cs (ds.map C.row)
  exact W11.terms_law cs (ds.map C.row) (by omega) h6
set_option maxRecDepth 100000 in
theorem contract (H : Type) (enc : TypeId × Value → H) (W : World) (base : Nat) (args : Array Value) (ds gs : List (DataW H)) (before : List MemPlace) (vt : List TypeId)
    (hval : ∀ (j : Nat) t v, Tryd.f5.params[j]? = some t → args[j]? = some v → Value.okWide Tryd.prog W .any base t v)
    (hW : DataW.Whole enc Tryd.prog Tryd.f5.params.toList Rows.wireTermsSpec.vars false W args.toList ds gs before) (hwt : (DataW.weightsEach Tryd.prog (Tryd.f5.params.toList ++ vt) (ds ++ gs)).all (· ≤ reachBytes) = true) (hL : laidMetH Tryd.prog Rows.wireTermsUptoRow.laid W) (hcnd : Rows.uptoSmall H (ds ++ gs) = true) :
    Calls Tryd.prog 5 args W fun e W' => ∃ v, e = .returned v ∧ Rows.wireTermsSpec.post enc Tryd.prog Tryd.f5 false true false false W args v W' := by
  have hW' := hW
  obtain ⟨p, q, hA0, hV, rfl, hfz, hnd⟩ := hW
  obtain ⟨n1, n2⟩ := trodAll_len _ _ _ _ hA0
  rw [parL] at n2
  have hc := law_main (T := tab11) (E := env11) (fn := Tryd.f5) env11_ok fnG closedS parS (bulky11 (H := H)) hval hW' hwt (globs11 hL) (fun lvs hl hA hb => hE lvs hl hA (Nat.le_trans hb (bulk_left (bulky11 (H := H)) ds gs (of_decide_eq_true hcnd))))
  refine hc.mono fun e W' ⟨he, hb⟩ => ⟨_, he, ?_⟩
  refine law_post laidOut11 parR rfl (tb := 4) (by kernel_rfl) (by kernel_rfl) ?_ hW' hb
  match ds, n2 with
  | [_], _ => rfl
noncomputable def wargs : Array Value := #[.slice none 0 0]
theorem laid_met (os : Os) : laidMet Tryd.prog Rows.wireTermsUptoRow.laid ((laidWorld os).forCall (fun _ _ => 0) ⟨#[], wargs, []⟩).memory :=
  laidMet_of_run' 8 (by kernel_rfl) (by kernel_rfl)
theorem reads (os : Os) {H : Type} (enc : TypeId × Value → H) : ∃ places, DataW.whole enc Tryd.prog ((laidWorld os).forCall (fun _ _ => 0) ⟨#[], wargs, []⟩).memory Tryd.f5.params.toList Rows.wireTermsSpec.vars false wargs.toList 8 = some ([.nil], [], places) :=
  ⟨[], by kernel_rfl⟩
set_option maxRecDepth 100000 in
theorem lifted (os : Os) (started : os.Started) (H : Type) (enc : TypeId × Value → H) (F : Stop.Interp) :
    ReturnsInHanded {} Tryd.checked os 5 .any ((Rows.OpenSpec.upto Rows.wireTermsSpec).preRow enc Tryd.prog Tryd.f5 Rows.wireTermsUptoRow.domain false Rows.wireTermsUptoRow.laid) (((Rows.OpenSpec.upto Rows.wireTermsSpec).at F).post enc Tryd.prog Tryd.f5 false true false false) := by
  obtain ⟨places, hx⟩ := reads os enc
  refine returnsInHanded_of_row (C := Tryd.checked) (s := Rows.OpenSpec.upto Rows.wireTermsSpec) own11 started (by kernel_rfl) Tryd.func5
    (witness_row_at (enc := enc) (C := Tryd.checked) false (laidWorld os) wargs rfl (by kernel_rfl) (by kernel_rfl) (by kernel_rfl)
      (OpenSpec.preRow_of_cond 8 hx (by kernel_rfl) (fun k hk => by cases hk; kernel_rfl) (by kernel_rfl) (laid_met os))) ?_
  intro W base args ds gs before hval hW _ hcond hwt hL _ _
  exact contract H enc W base args ds gs before _ hval hW hwt hL (hcond _ rfl)
theorem said : Rows.WireTermsUptoSaid :=
  OpenClaim.holds_of_cond 5 Tryd.f5 rfl rfl rfl rfl rfl rfl rfl ⟨rfl, rfl, rfl, rfl, rfl⟩ rfl rfl rfl rfl rfl (by kernel_rfl) Tryd.func5 (by kernel_rfl)
    (of_decide_eq_true (by kernel_rfl)) (by unfold Func.isWrapper; first | (rw [if_pos (by decide +kernel)]; kernel_rfl) | (rw [if_neg (by decide +kernel)]; exact ⟨rfl, rfl⟩))
    (fun os started H enc _ F => by rw [OpenClaim.pre_eq_preRow]; exact lifted os started H enc F)
theorem stands : ([26] : List TypeId).all (fun t => Tryd.prog.wantsStandIn t == false) = true := by kernel_rfl
theorem plain (f : FuncId) (fn : Func) (hf : Tryd.pinned.checked.prog.funcNamed "purlin/purlinlaw11.WireTerms" = some f) (hfn : Tryd.pinned.checked.prog.funcs[f]? = some fn) :
    false = Tryd.pinned.checked.prog.looks [] ∧ ∀ (j : Nat) t, fn.params[j]? = some t → Tryd.pinned.checked.prog.wantsStandIn t = false := by
  obtain rfl : f = 5 := Option.some.inj ((show Tryd.prog.funcNamed "purlin/purlinlaw11.WireTerms" = some 5 by kernel_rfl).symm.trans hf) |>.symm
  obtain rfl : fn = Tryd.f5 := (Option.some.inj (Tryd.func5.symm.trans hfn)).symm
  refine ⟨by kernel_rfl, fun j t ht => ?_⟩
  have hm : t ∈ ([26] : List TypeId) := by rw [← parL]; exact Array.mem_toList_iff.2 (Array.mem_of_getElem? ht)
  have := List.all_eq_true.1 stands t hm
  exact (show Tryd.prog.wantsStandIn t = false by simpa using this)
theorem card : Rows.WireTermsUptoCardSaid :=
  Claim7.holds_tied_plain_at .later [] _ _ _ _ said (fun _ h => by cases h) (by kernel_rfl) (fun _ h => by cases h) wireTermsUpto_row_tie rfl ⟨rfl, rfl⟩ (by kernel_rfl) rfl plain (by kernel_rfl)
end wireTermsL
theorem wireTerms_holds : Rows.WireTermsUptoCardSaid := wireTermsL.card
end Go.Proofs.YtoofpbdalgopgaaDoor
