/- purlintop.TopWords answers true for every text, and the argument reads afterwards as it read before, where what is read is of bulk at most 1048576. Conditions: that bulk; the package variables math/bits.deBruijn32tab, math/bits.deBruijn64tab, internal/strconv.uint64pow10, purlin/term.signs, strconv.ErrRange and strconv.ErrSyntax hold what their initialisers lay (the card ties that to the text). -/
import Derived.Test.YtlfifgganibjiaaDoorLWLaw
import Derived.Test.YtlfifgganibjiaaDoorLWWords
set_option autoImplicit false
set_option linter.unusedVariables false
namespace Go.Proofs.YtlfifgganibjiaaDoor
open Go Go.ChangeShapes Go.WideShapes Go.ChangeAt Go.RowKit Tree
namespace topWordsL
def S : List TypeId := [9]
theorem closedS : Closed tabW.P (fun t => S.contains t) := closed_of (by kernel_rfl)
theorem fnG : tabW.fn 3 = some 626 := by decide +kernel
theorem parL : Tryd.f3.params.toList = [9] := by rw [Tryd.params3]
theorem parS : ∀ t ∈ Tryd.f3.params.toList, S.contains t = true ∧ (shOf tabW.P 8 t).isSome = true := by
  rw [parL]; decide +kernel
theorem parR : ∀ t ∈ Tryd.f3.params.toList, Tryd.prog.readableRec t = true ∧ t < Tryd.prog.types.size := by
  rw [parL]; decide +kernel
theorem hE (lvs : List LV) (hl : lvs.length = Tryd.f3.params.toList.length) (hA : ∀ (j : Nat) t lv, Tryd.f3.params.toList[j]? = some t → lvs[j]? = some lv → ArgTy tabW.P t lv) (hb : LV.bulks lvs ≤ 1048576) : ∃ ob', Gives envW 626 lvs [] 0 (.bool true, ob') := by
  rw [parL] at hl hA
  obtain ⟨a0, rfl⟩ : ∃ a0, lvs = [a0] := List.length_eq_one_iff.1 hl
  rw [LV.bulks, LV.bulks] at hb
  obtain ⟨s, rfl, _⟩ := arg_plain (a := .s) (n := 8) (by kernel_rfl) (by kernel_rfl) (hA 0 9 a0 rfl rfl)
  rw [LV.bulk] at hb
  exact ⟨[], words_law s (by omega)⟩
set_option maxRecDepth 100000 in
theorem contract (H : Type) (enc : TypeId × Value → H) (W : World) (base : Nat) (args : Array Value) (ds gs : List (DataW H)) (before : List MemPlace) (vt : List TypeId)
    (hval : ∀ (j : Nat) t v, Tryd.f3.params[j]? = some t → args[j]? = some v → Value.okWide Tryd.prog W .any base t v)
    (hW : DataW.Whole enc Tryd.prog Tryd.f3.params.toList Rows.topWordsSpec.vars false W args.toList ds gs before) (hwt : (DataW.weightsEach Tryd.prog (Tryd.f3.params.toList ++ vt) (ds ++ gs)).all (· ≤ reachBytes) = true) (hL : laidMetH Tryd.prog Rows.topWordsUptoRow.laid W) (hcnd : Rows.uptoSmall H (ds ++ gs) = true) :
    Calls Tryd.prog 3 args W fun e W' => ∃ v, e = .returned v ∧ Rows.topWordsSpec.post enc Tryd.prog Tryd.f3 false true false false W args v W' := by
  have hW' := hW
  obtain ⟨p, q, hA0, hV, rfl, hfz, hnd⟩ := hW
  obtain ⟨n1, n2⟩ := trodAll_len _ _ _ _ hA0
  rw [parL] at n2
  have hc := law_main (T := tabW) (E := envW) (fn := Tryd.f3) envW_ok fnG closedS parS (bulkyW (H := H)) hval hW' hwt (globsW hL) (fun lvs hl hA hb => hE lvs hl hA (Nat.le_trans hb (bulk_left (bulkyW (H := H)) ds gs (of_decide_eq_true hcnd))))
  refine hc.mono fun e W' ⟨he, hb⟩ => ⟨_, he, ?_⟩
  refine law_post laidOutW parR rfl (tb := 4) (by kernel_rfl) (by kernel_rfl) ?_ hW' hb
  match ds, n2 with
  | [_], _ => rfl
noncomputable def wargs : Array Value := #[.string ⟨#[]⟩]
theorem laid_met (os : Os) : laidMet Tryd.prog Rows.topWordsUptoRow.laid ((laidWorld os).forCall (fun _ _ => 0) ⟨#[], wargs, []⟩).memory :=
  laidMet_of_run' 8 (by kernel_rfl) (by kernel_rfl)
theorem reads (os : Os) {H : Type} (enc : TypeId × Value → H) : ∃ places, DataW.whole enc Tryd.prog ((laidWorld os).forCall (fun _ _ => 0) ⟨#[], wargs, []⟩).memory Tryd.f3.params.toList Rows.topWordsSpec.vars false wargs.toList 8 = some ([.lit (.string [])], [], places) :=
  ⟨[], by kernel_rfl⟩
set_option maxRecDepth 100000 in
theorem lifted (os : Os) (started : os.Started) (H : Type) (enc : TypeId × Value → H) (F : Stop.Interp) :
    ReturnsInHanded {} Tryd.checked os 3 .any ((Rows.OpenSpec.upto Rows.topWordsSpec).preRow enc Tryd.prog Tryd.f3 Rows.topWordsUptoRow.domain false Rows.topWordsUptoRow.laid) (((Rows.OpenSpec.upto Rows.topWordsSpec).at F).post enc Tryd.prog Tryd.f3 false true false false) := by
  obtain ⟨places, hx⟩ := reads os enc
  refine returnsInHanded_of_row (C := Tryd.checked) (s := Rows.OpenSpec.upto Rows.topWordsSpec) ownW started (by kernel_rfl) Tryd.func3
    (witness_row_at (enc := enc) (C := Tryd.checked) false (laidWorld os) wargs rfl (by kernel_rfl) (by kernel_rfl) (by kernel_rfl)
      (OpenSpec.preRow_of_cond 8 hx (by kernel_rfl) (fun k hk => by cases hk; kernel_rfl) (by kernel_rfl) (laid_met os))) ?_
  intro W base args ds gs before hval hW _ hcond hwt hL _ _
  exact contract H enc W base args ds gs before _ hval hW hwt hL (hcond _ rfl)
theorem said : Rows.TopWordsUptoSaid :=
  OpenClaim.holds_of_cond 3 Tryd.f3 rfl rfl rfl rfl rfl rfl rfl ⟨rfl, rfl, rfl, rfl, rfl⟩ rfl rfl rfl rfl rfl (by kernel_rfl) Tryd.func3 (by kernel_rfl)
    (of_decide_eq_true (by kernel_rfl)) (by unfold Func.isWrapper; first | (rw [if_pos (by decide +kernel)]; kernel_rfl) | (rw [if_neg (by decide +kernel)]; exact ⟨rfl, rfl⟩))
    (fun os started H enc _ F => by rw [OpenClaim.pre_eq_preRow]; exact lifted os started H enc F)
theorem stands : ([9] : List TypeId).all (fun t => Tryd.prog.wantsStandIn t == false) = true := by kernel_rfl
theorem plain (f : FuncId) (fn : Func) (hf : Tryd.pinned.checked.prog.funcNamed "purlin/purlintop.TopWords" = some f) (hfn : Tryd.pinned.checked.prog.funcs[f]? = some fn) :
    true = Tryd.pinned.checked.prog.looks [] ∧ ∀ (j : Nat) t, fn.params[j]? = some t → Tryd.pinned.checked.prog.wantsStandIn t = false := by
  obtain rfl : f = 3 := Option.some.inj ((show Tryd.prog.funcNamed "purlin/purlintop.TopWords" = some 3 by kernel_rfl).symm.trans hf) |>.symm
  obtain rfl : fn = Tryd.f3 := (Option.some.inj (Tryd.func3.symm.trans hfn)).symm
  refine ⟨by kernel_rfl, fun j t ht => ?_⟩
  have hm : t ∈ ([9] : List TypeId) := by rw [← parL]; exact Array.mem_toList_iff.2 (Array.mem_of_getElem? ht)
  have := List.all_eq_true.1 stands t hm
  exact (show Tryd.prog.wantsStandIn t = false by simpa using this)
theorem card : Rows.TopWordsUptoCardSaid :=
  Claim7.holds_tied_plain_at .later [] _ _ _ _ said (fun _ h => by cases h) (by kernel_rfl) (fun _ h => by cases h) topWordsUpto_row_tie rfl ⟨rfl, rfl⟩ (by kernel_rfl) rfl plain (by kernel_rfl)
end topWordsL
theorem topWords_holds : Rows.TopWordsUptoCardSaid := topWordsL.card
end Go.Proofs.YtlfifgganibjiaaDoor
