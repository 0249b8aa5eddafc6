/- purlinlaw02.LexCounts answers true for every text, place and kinds, and each argument reads afterwards as it read before, where what is read is of bulk at most 1048576. Conditions: that bulk; the package variables math/bits.deBruijn32tab, math/bits.deBruijn64tab, internal/strconv.uint64pow10, strconv.ErrRange and strconv.ErrSyntax hold what their initialisers lay (the card ties that to the text). -/
import Derived.Test.YtkbpkiebcghghaaDoorL2Law
import Derived.Test.YtkbpkiebcghghaaDoorL2ExtS
import Derived.Test.YtkbpkiebcghghaaDoorL2Ty
set_option autoImplicit false
set_option linter.unusedVariables false
namespace Go.Proofs.YtkbpkiebcghghaaDoor
open Go Go.ChangeShapes Go.WideShapes Go.ChangeAt Go.RowKit Tree
namespace lexCountsL
def S : List TypeId := [9, 3, 47, 5]
theorem closedS : Closed tab2.P (fun t => S.contains t) := closed_of (by kernel_rfl)
theorem fnG : tab2.fn 8 = some 606 := by decide +kernel
theorem parL : Tryd.f8.params.toList = [9, 3, 47] := by rw [Tryd.params8]
theorem parS : ∀ t ∈ Tryd.f8.params.toList, S.contains t = true ∧ (shOf tab2.P 8 t).isSome = true := by
  rw [parL]; decide +kernel
theorem parR : ∀ t ∈ Tryd.f8.params.toList, Tryd.prog.readableRec t = true ∧ t < Tryd.prog.types.size := by
  rw [parL]; decide +kernel
theorem hE (lvs : List LV) (hl : lvs.length = Tryd.f8.params.toList.length) (hA : ∀ (j : Nat) t lv, Tryd.f8.params.toList[j]? = some t → lvs[j]? = some lv → ArgTy tab2.P t lv) (hb : LV.bulks lvs ≤ 1048576) : ∃ ob', Gives env2s 606 lvs [] 0 (.bool true, ob') := by
  rw [parL] at hl hA
  obtain ⟨a0, a1, a2, rfl⟩ : ∃ a0 a1 a2, lvs = [a0, a1, a2] := by
    match lvs, hl with
    | [a0, a1, a2], _ => exact ⟨a0, a1, a2, rfl⟩
  rw [LV.bulks, LV.bulks, LV.bulks, LV.bulks] at hb
  obtain ⟨s, rfl, _⟩ := arg_plain (a := .s) (n := 8) (by kernel_rfl) (by kernel_rfl) (hA 0 9 a0 rfl rfl)
  obtain ⟨n, rfl, hn⟩ := arg_plain (a := .i .i64) (n := 8) (by kernel_rfl) (by kernel_rfl) (hA 1 3 a1 rfl rfl)
  obtain ⟨l, sp, rfl, hx⟩ := X02.u8sL_ofP (ti := 5) (by kernel_rfl) (by kernel_rfl) (arg_plain (a := .sl 5) (n := 8) (by kernel_rfl) (by kernel_rfl) (hA 2 47 a2 rfl rfl))
  rw [LV.bulk, LV.bulk, LV.bulk, X02.bulk_u8] at hb
  exact ⟨[], X02.counts_law s n (X02.i64_wf hn) l hx sp (by omega)⟩
set_option maxRecDepth 100000 in
theorem contract (H : Type) (enc : TypeId × Value → H) (W : World) (base : Nat) (args : Array Value) (ds gs : List (DataW H)) (before : List MemPlace) (vt : List TypeId)
    (hval : ∀ (j : Nat) t v, Tryd.f8.params[j]? = some t → args[j]? = some v → Value.okWide Tryd.prog W .any base t v)
    (hW : DataW.Whole enc Tryd.prog Tryd.f8.params.toList Rows.lexCountsSpec.vars false W args.toList ds gs before) (hwt : (DataW.weightsEach Tryd.prog (Tryd.f8.params.toList ++ vt) (ds ++ gs)).all (· ≤ reachBytes) = true) (hL : laidMetH Tryd.prog Rows.lexCountsUptoRow.laid W) (hcnd : Rows.uptoSmall H (ds ++ gs) = true) :
    Calls Tryd.prog 8 args W fun e W' => ∃ v, e = .returned v ∧ Rows.lexCountsSpec.post enc Tryd.prog Tryd.f8 false true false false W args v W' := by
  have hW' := hW
  obtain ⟨p, q, hA0, hV, rfl, hfz, hnd⟩ := hW
  obtain ⟨n1, n2⟩ := trodAll_len _ _ _ _ hA0
  rw [parL] at n2
  have hc := law_main (T := tab2) (E := env2s) (fn := Tryd.f8) env2s_ok fnG closedS parS (bulky2 (H := H)) hval hW' hwt (globs2 hL) (fun lvs hl hA hb => hE lvs hl hA (Nat.le_trans hb (bulk_left (bulky2 (H := H)) ds gs (of_decide_eq_true hcnd))))
  refine hc.mono fun e W' ⟨he, hb⟩ => ⟨_, he, ?_⟩
  refine law_post laidOut2 parR rfl (tb := 4) (by kernel_rfl) (by kernel_rfl) ?_ hW' hb
  match ds, n2 with
  | [_, _, _], _ => rfl
noncomputable def wargs : Array Value := #[.string ⟨#[]⟩, .int .i64 0, .slice none 0 0]
theorem laid_met (os : Os) : laidMet Tryd.prog Rows.lexCountsUptoRow.laid ((laidWorld os).forCall (fun _ _ => 0) ⟨#[], wargs, []⟩).memory :=
  laidMet_of_run' 8 (by kernel_rfl) (by kernel_rfl)
theorem reads (os : Os) {H : Type} (enc : TypeId × Value → H) : ∃ places, DataW.whole enc Tryd.prog ((laidWorld os).forCall (fun _ _ => 0) ⟨#[], wargs, []⟩).memory Tryd.f8.params.toList Rows.lexCountsSpec.vars false wargs.toList 8 = some ([.lit (.string []), .lit (.int .i64 0), .nil], [], places) :=
  ⟨[], by kernel_rfl⟩
set_option maxRecDepth 100000 in
theorem lifted (os : Os) (started : os.Started) (H : Type) (enc : TypeId × Value → H) (F : Stop.Interp) :
    ReturnsInHanded {} Tryd.checked os 8 .any ((Rows.OpenSpec.upto Rows.lexCountsSpec).preRow enc Tryd.prog Tryd.f8 Rows.lexCountsUptoRow.domain false Rows.lexCountsUptoRow.laid) (((Rows.OpenSpec.upto Rows.lexCountsSpec).at F).post enc Tryd.prog Tryd.f8 false true false false) := by
  obtain ⟨places, hx⟩ := reads os enc
  refine returnsInHanded_of_row (C := Tryd.checked) (s := Rows.OpenSpec.upto Rows.lexCountsSpec) own2 started (by kernel_rfl) Tryd.func8
    (witness_row_at (enc := enc) (C := Tryd.checked) false (laidWorld os) wargs rfl (by kernel_rfl) (by kernel_rfl) (by kernel_rfl)
      (OpenSpec.preRow_of_cond 8 hx (by kernel_rfl) (fun k hk => by cases hk; kernel_rfl) (by kernel_rfl) (laid_met os))) ?_
  intro W base args ds gs before hval hW _ hcond hwt hL _ _
  exact contract H enc W base args ds gs before _ hval hW hwt hL (hcond _ rfl)
theorem said : Rows.LexCountsUptoSaid :=
  OpenClaim.holds_of_cond 8 Tryd.f8 rfl rfl rfl rfl rfl rfl rfl ⟨rfl, rfl, rfl, rfl, rfl⟩ rfl rfl rfl rfl rfl (by kernel_rfl) Tryd.func8 (by kernel_rfl)
    (of_decide_eq_true (by kernel_rfl)) (by unfold Func.isWrapper; first | (rw [if_pos (by decide +kernel)]; kernel_rfl) | (rw [if_neg (by decide +kernel)]; exact ⟨rfl, rfl⟩))
    (fun os started H enc _ F => by rw [OpenClaim.pre_eq_preRow]; exact lifted os started H enc F)
theorem stands : ([9, 3, 47] : List TypeId).all (fun t => Tryd.prog.wantsStandIn t == false) = true := by kernel_rfl
theorem plain (f : FuncId) (fn : Func) (hf : Tryd.pinned.checked.prog.funcNamed "purlin/purlinlaw02.LexCounts" = some f) (hfn : Tryd.pinned.checked.prog.funcs[f]? = some fn) :
    true = Tryd.pinned.checked.prog.looks [] ∧ ∀ (j : Nat) t, fn.params[j]? = some t → Tryd.pinned.checked.prog.wantsStandIn t = false := by
  obtain rfl : f = 8 := Option.some.inj ((show Tryd.prog.funcNamed "purlin/purlinlaw02.LexCounts" = some 8 by kernel_rfl).symm.trans hf) |>.symm
  obtain rfl : fn = Tryd.f8 := (Option.some.inj (Tryd.func8.symm.trans hfn)).symm
  refine ⟨by kernel_rfl, fun j t ht => ?_⟩
  have hm : t ∈ ([9, 3, 47] : List TypeId) := by rw [← parL]; exact Array.mem_toList_iff.2 (Array.mem_of_getElem? ht)
  have := List.all_eq_true.1 stands t hm
  exact (show Tryd.prog.wantsStandIn t = false by simpa using this)
theorem card : Rows.LexCountsUptoCardSaid :=
  Claim7.holds_tied_plain_at .later [] _ _ _ _ said (fun _ h => by cases h) (by kernel_rfl) (fun _ h => by cases h) lexCountsUpto_row_tie rfl ⟨rfl, rfl⟩ (by kernel_rfl) rfl plain (by kernel_rfl)
end lexCountsL
theorem lexCounts_holds : Rows.LexCountsUptoCardSaid := lexCountsL.card
end Go.Proofs.YtkbpkiebcghghaaDoor
