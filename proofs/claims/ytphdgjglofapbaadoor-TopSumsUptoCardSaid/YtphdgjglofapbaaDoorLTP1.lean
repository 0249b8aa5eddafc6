/- purlintop.TopSums answers true for every term, numbers and binding, and each argument reads afterwards as it read before, where what is read is of bulk at most 1048576. Conditions: that bulk; the package variable purlin/term.signs holds what its initialiser lays (the card ties that to the text). -/
import Derived.Test.YtphdgjglofapbaaDoorLTLaw
import Derived.Test.YtphdgjglofapbaaDoorLTTy
import Derived.Test.YtphdgjglofapbaaDoorLTSums
set_option autoImplicit false
set_option linter.unusedVariables false
namespace Go.Proofs.YtphdgjglofapbaaDoor
open Go Go.ChangeShapes Go.WideShapes Go.ChangeAt Go.RowKit Tree
namespace topSumsL
def S : List TypeId := [23, 85, 24, 28, 26, 3, 9, 83]
theorem closedS : Closed tabT.P (fun t => S.contains t) := closed_of (by kernel_rfl)
theorem fnG : tabT.fn 3 = some 593 := by decide +kernel
theorem parL : Tryd.f3.params.toList = [23, 24, 28] := by rw [Tryd.params3]
theorem parS : ∀ t ∈ Tryd.f3.params.toList, S.contains t = true ∧ (shOf tabT.P 8 t).isSome = true := by
  rw [parL]; decide +kernel
theorem parR : ∀ t ∈ Tryd.f3.params.toList, Tryd.prog.readableRec t = true ∧ t < Tryd.prog.types.size := by
  rw [parL]; decide +kernel
theorem hE (lvs : List LV) (hl : lvs.length = Tryd.f3.params.toList.length) (hA : ∀ (j : Nat) t lv, Tryd.f3.params.toList[j]? = some t → lvs[j]? = some lv → ArgTy tabT.P t lv) (hb : LV.bulks lvs ≤ 1048576) : ∃ ob', Gives envT 593 lvs [] 0 (.bool true, ob') := by
  rw [parL] at hl hA
  obtain ⟨a0, a1, a2, rfl⟩ : ∃ a0 a1 a2, lvs = [a0, a1, a2] := by
    match lvs, hl with
    | [a0, a1, a2], _ => exact ⟨a0, a1, a2, rfl⟩
  rw [LV.bulks, LV.bulks, LV.bulks, LV.bulks] at hb
  obtain ⟨cs, ds, rfl, h6, h7⟩ := term_ofP HT.tyT (arg_plain (a := .sl 85) (n := 8) (by kernel_rfl) (by kernel_rfl) (hA 0 23 a0 rfl rfl))
  have h8 := bulk5 false 0 cs (ds.map C.row)
  obtain ⟨l, u, rfl⟩ := intsL_ofP (ti := 3) (by kernel_rfl) (by kernel_rfl) (arg_plain (a := .sl 3) (n := 8) (by kernel_rfl) (by kernel_rfl) (hA 1 24 a1 rfl rfl))
  have h9 := bulkZ false 0 l (u.map zrow)
  obtain ⟨cc, rfl, h4⟩ := arg_struct (sh := [.i .i64, .i .i64, .sl 85]) (n := 8) (by kernel_rfl) (by kernel_rfl) (hA 2 28 a2 rfl rfl)
  obtain ⟨_, _, rfl, ⟨a, rfl, _⟩, g1⟩ := h4.cons
  obtain ⟨_, _, rfl, ⟨b, rfl, _⟩, g2⟩ := g1.cons
  obtain ⟨_, _, rfl, w3, g3⟩ := g2.cons
  obtain rfl := g3.nil
  obtain ⟨ms, es, rfl, m1, m2⟩ := term_ofP HT.tyT w3
  have h10 := bulk5 false 0 ms (es.map C.row)
  have h11 : (sl5 false 0 ms (es.map C.row)).bulk ≤ LV.bulk (.agg [.int .i64 a, .int .i64 b, sl5 false 0 ms (es.map C.row)]) := by
    simp only [LV.bulk, LV.bulks]; omega
  exact HT.sums_law cs (ds.map C.row) l (u.map zrow) (a, b) 0 ms (es.map C.row) (by omega) h6 (by omega) (by omega) m1
set_option maxRecDepth 100000 in
theorem contract (H : Type) (enc : TypeId × Value → H) (W : World) (base : Nat) (args : Array Value) (ds gs : List (DataW H)) (before : List MemPlace) (vt : List TypeId)
    (hval : ∀ (j : Nat) t v, Tryd.f3.params[j]? = some t → args[j]? = some v → Value.okWide Tryd.prog W .any base t v)
    (hW : DataW.Whole enc Tryd.prog Tryd.f3.params.toList Rows.topSumsSpec.vars false W args.toList ds gs before) (hwt : (DataW.weightsEach Tryd.prog (Tryd.f3.params.toList ++ vt) (ds ++ gs)).all (· ≤ reachBytes) = true) (hL : laidMetH Tryd.prog Rows.topSumsUptoRow.laid W) (hcnd : Rows.uptoSmall H (ds ++ gs) = true) :
    Calls Tryd.prog 3 args W fun e W' => ∃ v, e = .returned v ∧ Rows.topSumsSpec.post enc Tryd.prog Tryd.f3 false true false false W args v W' := by
  have hW' := hW
  obtain ⟨p, q, hA0, hV, rfl, hfz, hnd⟩ := hW
  obtain ⟨n1, n2⟩ := trodAll_len _ _ _ _ hA0
  rw [parL] at n2
  have hc := law_main (T := tabT) (E := envT) (fn := Tryd.f3) envT_ok fnG closedS parS (bulkyT (H := H)) hval hW' hwt (globsT hL) (fun lvs hl hA hb => hE lvs hl hA (Nat.le_trans hb (bulk_left (bulkyT (H := H)) ds gs (of_decide_eq_true hcnd))))
  refine hc.mono fun e W' ⟨he, hb⟩ => ⟨_, he, ?_⟩
  refine law_post laidOutT parR rfl (tb := 4) (by kernel_rfl) (by kernel_rfl) ?_ hW' hb
  match ds, n2 with
  | [_, _, _], _ => rfl
noncomputable def wargs : Array Value := #[.slice none 0 0, .slice none 0 0, .agg #[.int .i64 0, .int .i64 0, .slice none 0 0]]
theorem laid_met (os : Os) : laidMet Tryd.prog Rows.topSumsUptoRow.laid ((laidWorld os).forCall (fun _ _ => 0) ⟨#[], wargs, []⟩).memory :=
  laidMet_of_run' 8 (by kernel_rfl) (by kernel_rfl)
theorem reads (os : Os) {H : Type} (enc : TypeId × Value → H) : ∃ places, DataW.whole enc Tryd.prog ((laidWorld os).forCall (fun _ _ => 0) ⟨#[], wargs, []⟩).memory Tryd.f3.params.toList Rows.topSumsSpec.vars false wargs.toList 8 = some ([.nil, .nil, .agg [.agg [.lit (.int .i64 0), .lit (.int .i64 0)], .nil]], [], places) :=
  ⟨[], by kernel_rfl⟩
set_option maxRecDepth 100000 in
theorem lifted (os : Os) (started : os.Started) (H : Type) (enc : TypeId × Value → H) (F : Stop.Interp) :
    ReturnsInHanded {} Tryd.checked os 3 .any ((Rows.OpenSpec.upto Rows.topSumsSpec).preRow enc Tryd.prog Tryd.f3 Rows.topSumsUptoRow.domain false Rows.topSumsUptoRow.laid) (((Rows.OpenSpec.upto Rows.topSumsSpec).at F).post enc Tryd.prog Tryd.f3 false true false false) := by
  obtain ⟨places, hx⟩ := reads os enc
  refine returnsInHanded_of_row (C := Tryd.checked) (s := Rows.OpenSpec.upto Rows.topSumsSpec) ownT started (by kernel_rfl) Tryd.func3
    (witness_row_at (enc := enc) (C := Tryd.checked) false (laidWorld os) wargs rfl (by kernel_rfl) (by kernel_rfl) (by kernel_rfl)
      (OpenSpec.preRow_of_cond 8 hx (by kernel_rfl) (fun k hk => by cases hk; kernel_rfl) (by kernel_rfl) (laid_met os))) ?_
  intro W base args ds gs before hval hW _ hcond hwt hL _ _
  exact contract H enc W base args ds gs before _ hval hW hwt hL (hcond _ rfl)
theorem said : Rows.TopSumsUptoSaid :=
  OpenClaim.holds_of_cond 3 Tryd.f3 rfl rfl rfl rfl rfl rfl rfl ⟨rfl, rfl, rfl, rfl, rfl⟩ rfl rfl rfl rfl rfl (by kernel_rfl) Tryd.func3 (by kernel_rfl)
    (of_decide_eq_true (by kernel_rfl)) (by unfold Func.isWrapper; first | (rw [if_pos (by decide +kernel)]; kernel_rfl) | (rw [if_neg (by decide +kernel)]; exact ⟨rfl, rfl⟩))
    (fun os started H enc _ F => by rw [OpenClaim.pre_eq_preRow]; exact lifted os started H enc F)
theorem stands : ([23, 24, 28] : List TypeId).all (fun t => Tryd.prog.wantsStandIn t == false) = true := by kernel_rfl
theorem plain (f : FuncId) (fn : Func) (hf : Tryd.pinned.checked.prog.funcNamed "purlin/purlintop.TopSums" = some f) (hfn : Tryd.pinned.checked.prog.funcs[f]? = some fn) :
    true = Tryd.pinned.checked.prog.looks [] ∧ ∀ (j : Nat) t, fn.params[j]? = some t → Tryd.pinned.checked.prog.wantsStandIn t = false := by
  obtain rfl : f = 3 := Option.some.inj ((show Tryd.prog.funcNamed "purlin/purlintop.TopSums" = some 3 by kernel_rfl).symm.trans hf) |>.symm
  obtain rfl : fn = Tryd.f3 := (Option.some.inj (Tryd.func3.symm.trans hfn)).symm
  refine ⟨by kernel_rfl, fun j t ht => ?_⟩
  have hm : t ∈ ([23, 24, 28] : List TypeId) := by rw [← parL]; exact Array.mem_toList_iff.2 (Array.mem_of_getElem? ht)
  have := List.all_eq_true.1 stands t hm
  exact (show Tryd.prog.wantsStandIn t = false by simpa using this)
theorem card : Rows.TopSumsUptoCardSaid :=
  Claim7.holds_tied_plain_at .later [] _ _ _ _ said (fun _ h => by cases h) (by kernel_rfl) (fun _ h => by cases h) topSumsUpto_row_tie rfl ⟨rfl, rfl⟩ (by kernel_rfl) rfl plain (by kernel_rfl)
end topSumsL
theorem topSums_holds : Rows.TopSumsUptoCardSaid := topSumsL.card
end Go.Proofs.YtphdgjglofapbaaDoor
