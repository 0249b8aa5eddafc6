/- A law's call, out of what E answers: for every seat. -/
import Derived.Test.YtfdamolkgfcoiaaTF
import Derived.Test.YtfdamolkgfcoiaaTW
set_option autoImplicit false
set_option linter.unusedVariables false
set_option linter.unusedSimpArgs false
namespace Tree
open Go Go.RowKit
theorem trodAll_len {H : Type} {enc : TypeId × Value → H} {P : Program} {W : World} {base : Nat} {sp : Nat → Bool} {held : Bool} : ∀ (ts : List TypeId) (vs : List Value) (ds : List (DataW H)) (ps : List MemPlace), DataW.TrodAll enc P W base sp held ts vs ds ps → vs.length = ts.length ∧ ds.length = ts.length
  | [], [], [], _, _ => ⟨rfl, rfl⟩
  | t :: ts, v :: vs, d :: ds, ps, h => by
    obtain ⟨p, q, _, h2, _⟩ := h
    obtain ⟨a, b⟩ := trodAll_len ts vs ds q h2
    exact ⟨by simp [a], by simp [b]⟩
  | [], [], _ :: _, ps, h => h.elim
  | [], _ :: _, _, ps, h => h.elim
  | _ :: _, [], _, ps, h => h.elim
  | _ :: _, _ :: _, [], ps, h => h.elim
theorem weights_left {H : Type} {P : Program} {n : Nat} : ∀ (ts us : List TypeId) (ds gs : List (DataW H)), ds.length = ts.length → n ∈ DataW.weightsEach P ts ds → n ∈ DataW.weightsEach P (ts ++ us) (ds ++ gs)
  | [], us, ds, gs, _, h => by simp [DataW.weightsEach] at h
  | t :: ts, us, [], gs, hl, _ => by simp at hl
  | t :: ts, us, d :: ds, gs, hl, h => by
    rw [DataW.weightsEach] at h
    rw [List.cons_append, List.cons_append, DataW.weightsEach]
    rcases List.mem_append.1 h with h | h
    · exact List.mem_append_left _ h
    · exact List.mem_append_right _ (weights_left ts us ds gs (by simpa using hl) h)
theorem shs_own {P : Program} : ∀ (sh : List Sh) (cs : List LV), ShsOk P sh cs → (cs.all fun c => !c.owns1) = true ∧ LV.noLs cs = true
  | [], [], _ => ⟨rfl, rfl⟩
  | a :: sh, c :: cs, h => by
    obtain ⟨h1, h2⟩ := h
    obtain ⟨i1, i2⟩ := shs_own sh cs h2
    have : c.owns1 = false ∧ c.noL = true := by
      cases a with
      | b => obtain ⟨b, rfl⟩ := h1; exact ⟨rfl, by simp [LV.noL]⟩
      | i k => obtain ⟨b, rfl, _⟩ := h1; exact ⟨rfl, by simp [LV.noL]⟩
      | s => obtain ⟨b, rfl, _⟩ := h1; exact ⟨rfl, by simp [LV.noL]⟩
      | sl e => obtain ⟨b, c, rfl, _⟩ := h1; exact ⟨rfl, by simp [LV.noL]⟩
    exact ⟨by simp [this.1, i1], by simp [LV.noLs, this.2, i2]⟩
  | [], _ :: _, h => h.elim
  | _ :: _, [], h => h.elim
theorem arg_own {P : Program} {t : TypeId} {lv : LV} {n : Nat} (hs : (shOf P n t).isSome = true) (h : ArgTy P t lv) : lv.ownless = true ∧ lv.noL = true := by
  obtain ⟨sh, hs⟩ := Option.isSome_iff_exists.1 hs
  obtain ⟨fuel, cs, h1, h2⟩ := h
  obtain ⟨i1, i2⟩ := shs_own sh cs (sh_ok n fuel t sh cs hs h1)
  have one : cs = [lv] → lv.ownless = true ∧ lv.noL = true := by
    intro e; subst e
    simp only [LV.noLs, Bool.and_true] at i2
    refine ⟨?_, i2⟩
    simp only [List.all_cons, List.all_nil, Bool.and_true, Bool.not_eq_true'] at i1
    have h3 := sh_ok n fuel t sh [lv] hs h1
    cases sh with
    | nil => exact h3.elim
    | cons a r =>
      have h4 := h3.1
      cases a with
      | b => obtain ⟨b, rfl⟩ := h4; rfl
      | i k => obtain ⟨b, rfl, _⟩ := h4; rfl
      | s => obtain ⟨b, rfl, _⟩ := h4; rfl
      | sl e => obtain ⟨b, c, rfl, _⟩ := h4; rfl
  split at h2
  · subst h2; exact ⟨by simpa [LV.ownless] using i1, by simpa [LV.noL] using i2⟩
  · subst h2; exact ⟨by simpa [LV.ownless] using i1, by simpa [LV.noL] using i2⟩
  · exact one h2
theorem noLs_of : ∀ (l : List LV), (∀ x ∈ l, x.noL = true) → LV.noLs l = true
  | [], _ => rfl
  | x :: r, h => by simp [LV.noLs, h x (List.mem_cons_self ..), noLs_of r (fun y hy => h y (List.mem_cons_of_mem _ hy))]
/-- A law's call ends in true; nothing old is written. -/
theorem law_main {H : Type} {enc : TypeId × Value → H} {T : Tab} {E : Env} {fid g : Nat} {fn : Func} {S : TypeId → Bool} {U : DataW H → Nat} {UA : List (DataW H) → Nat} {W : World} {base : Nat} {args : Array Value} {ds gs : List (DataW H)} {before : List MemPlace} {vars : List String} {vt : List TypeId}
    (hOk : EnvOk T E) (hfn : T.fn fid = some g) (hS : Closed T.P S) (hSt : ∀ t ∈ fn.params.toList, S t = true ∧ (shOf T.P 8 t).isSome = true) (hU : Bulky U UA)
    (hval : ∀ (j : Nat) t v, fn.params[j]? = some t → args[j]? = some v → Value.okWide T.P W .any base t v) (hW : DataW.Whole enc T.P fn.params.toList vars false W args.toList ds gs before)
    (hwt : (DataW.weightsEach T.P (fn.params.toList ++ vt) (ds ++ gs)).all (· ≤ reachBytes) = true) (hG : Globs T E.gl (Mem.start W))
    (hE : ∀ lvs : List LV, lvs.length = fn.params.toList.length → (∀ (j : Nat) t lv, fn.params.toList[j]? = some t → lvs[j]? = some lv → ArgTy T.P t lv) → LV.bulks lvs ≤ UA ds → ∃ ob', Gives E g lvs [] 0 (.bool true, ob')) :
    Calls T.P fid args W fun e W' => e = .returned (.bool true) ∧ Below W.heap.size W W' := by
  obtain ⟨p, q, hA, hV, rfl, hfz, hnd⟩ := hW
  have hA : DataW.TrodAll enc T.P W 0 (fun _ => true) true fn.params.toList args.toList ds p := hA
  obtain ⟨n1, n2⟩ := trodAll_len _ _ _ _ hA
  obtain ⟨lvs, l1, l4, l2, l3⟩ := read_args hS hU fn.params.toList args.toList ds p (fun t ht => (hSt t ht).1) (fun j t v ht hv => hval j t v (by simpa using ht) (by simpa using hv)) hA (fun n hn => by
    have := List.all_eq_true.1 hwt n (weights_left _ _ _ _ n2 hn)
    exact of_decide_eq_true this)
  have hl : lvs.length = fn.params.toList.length := by omega
  have hown : ∀ (j : Nat) lv, lvs[j]? = some lv → lv.ownless = true ∧ lv.noL = true := by
    intro j lv hj
    have hjl : j < fn.params.toList.length := by rw [← hl]; exact (List.getElem?_eq_some_iff.1 hj).1
    exact arg_own (hSt _ (List.getElem_mem hjl)).2 (l2 j _ lv (List.getElem?_eq_getElem hjl) hj)
  obtain ⟨ob', n, hc⟩ := hE lvs hl l2 l4
  refine law_calls (vals := args) hOk hfn (by rw [l1]; simp) (fun j lv hj => ?_) hG (noLs_of lvs fun x hx => ?_) hc
  · have hjl : j < args.size := by
      have := (List.getElem?_eq_some_iff.1 hj).1
      rw [l1] at this; simpa using this
    exact ⟨by simpa [Array.getD_eq_getD_getElem?, hjl] using l3 j lv args[j] hj (by simp [hjl]), (hown j lv hj).1⟩
  · obtain ⟨j, hj, rfl⟩ := List.getElem_of_mem hx
    exact (hown j _ (List.getElem?_eq_getElem hj)).2
end Tree
