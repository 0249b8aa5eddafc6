/- Layer 11, WirePrefix: what E answers. -/
import Derived.Test.YtoofpbdalgopgaaDoorL11F
import Derived.Test.YtoofpbdalgopgaaDoorL11G
set_option autoImplicit false
set_option linter.unusedVariables false
set_option linter.unusedSimpArgs false
namespace Tree.W11
open Go
set_option maxHeartbeats 8000000
set_option maxRecDepth 100000
theorem take_snoc {us vs : List Int} {i : Nat} {b : Int} (hu : us[i]? = some b) (hv : vs[i]? = some b) (h : us.take i = vs.take i) : us.take (i + 1) = vs.take (i + 1) := by
  rw [List.take_add_one, List.take_add_one, hu, hv, h]
theorem sameB_ok (us vs : List Int) (o1 : Bool) (sp : List (List LV)) (hl : us.length ≤ 4611686018427387904) (hl2 : vs.length ≤ 4611686018427387904) (ob : Obs) (pb : Nat) (r : Bool) (hr : r = true ↔ us = vs) : Gives env11 120 [slB o1 us, .sl false 0 1 (vs.map brw) sp] ob pb (.bool r, ob) := by
  have hlu : (us.map brw).length = us.length := by simp
  have hlv : (vs.map brw).length = vs.length := by simp
  have hb : ∀ {l : List Int} {i : Nat} {b : Int}, l[i]? = some b → (l.map brw)[i]? = some [.int .u8 b] := fun h => by rw [List.getElem?_map, h]; rfl
  refine gives_code (f := tf120) rfl ?_
  conv => whnf
  by_cases hlen : us.length = vs.length
  · refine sel_f (by simp [hlen]) ?_
    conv => whnf
    refine loop_v (V := fun i : Nat => [(5, .int .i64 i)]) (O := fun _ => ob) (m := fun i => us.length - i) (P := fun i => i ≤ us.length ∧ us.take i = vs.take i) ?_ 0 ⟨Nat.zero_le _, rfl⟩ rfl
    rintro R i ⟨hi, hP⟩ hN hE hR
    conv => whnf
    refine sel_split (fun h => ?_) (fun h => ?_)
    · conv => whnf
      have h := of_decide_eq_true h
      rw [hlu] at h
      obtain ⟨v, hv⟩ : ∃ v, us[i]? = some v := ⟨_, List.getElem?_eq_getElem (show i < us.length by omega)⟩
      obtain ⟨u, hu⟩ : ∃ v, vs[i]? = some v := ⟨_, List.getElem?_eq_getElem (show i < vs.length by omega)⟩
      have e : IntKind.i64.wrap ((i : Int) + 1) = ((i + 1 : Nat) : Int) := by rw [wrap64] <;> omega
      refine ⟨_, ⟨by omega, hb hv⟩, ?_⟩
      conv => whnf
      refine ⟨_, ⟨by omega, hb hu⟩, ?_⟩
      conv => whnf
      by_cases hvu : v = u
      · subst hvu
        refine sel_f (by simp) ?_
        conv => whnf
        refine hN (i + 1) _ ⟨by omega, take_snoc hv hu hP⟩ (by omega) ?_
        rw [← e]; rfl
      · refine sel_t (by simpa using hvu) ?_
        conv => whnf
        refine hR _ ?_
        conv => whnf
        refine ⟨rfl, bool_of hr ⟨fun e => (nomatch e), fun h => ?_⟩, rfl⟩
        rw [h, hu] at hv; injection hv with hv; exact absurd hv.symm hvu
    · conv => whnf
      have h := of_decide_eq_false h
      rw [hlu] at h
      have : i = us.length := by omega
      subst this
      rw [List.take_length, hlen, List.take_length] at hP
      refine hE _ _ ?_
      conv => whnf
      exact ⟨rfl, bool_of hr ⟨fun _ => hP, fun _ => rfl⟩, rfl⟩
  · refine sel_t (by simp only [bne_iff_ne, hlu, hlv, ne_eq]; omega) ?_
    conv => whnf
    exact ⟨rfl, bool_of hr ⟨fun e => (nomatch e), fun h => absurd (congrArg List.length h) hlen⟩, rfl⟩
theorem encP_ok {r : Bool} {m : M} (h : (encP r m).2 = 0) : r = true ∧ (encP r m).1 = msgB m := by
  unfold encP at h ⊢
  cases r with
  | false => simp at h
  | true =>
    simp only [if_true] at h ⊢
    split at h
    · simp at h
    · rename_i hh; rw [if_neg hh]; exact ⟨trivial, rfl⟩
end Tree.W11
