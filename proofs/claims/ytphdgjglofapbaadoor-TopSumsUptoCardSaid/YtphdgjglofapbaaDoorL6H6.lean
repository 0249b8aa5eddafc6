/- Layer 6: what the sums call. -/
import Derived.Test.YtphdgjglofapbaaDoorL6H5
import Derived.Test.YtphdgjglofapbaaDoorTLf
set_option autoImplicit false
set_option linter.unusedVariables false
set_option linter.unusedSimpArgs false
namespace Tree.H6
open Go
set_option maxHeartbeats 8000000
set_option maxRecDepth 100000
def addN (l : List NV) (v : NV) : List NV := if v ∈ l then l else l ++ [v]
def bothS (l m : List NV) : List NV := m.foldl addN l
theorem addN_len (l : List NV) (v : NV) : (addN l v).length ≤ l.length + 1 := by
  unfold addN; split <;> simp
theorem bothS_len : ∀ (m l : List NV), (bothS l m).length ≤ l.length + m.length
  | [], l => by simp [bothS]
  | v :: m, l => by
    have h1 := bothS_len m (addN l v)
    have h2 := addN_len l v
    show (bothS (addN l v) m).length ≤ _
    simp only [List.length_cons]; omega
theorem bothS_nil : ∀ (m l : List NV), l ≠ [] → bothS l m ≠ []
  | [], l, h => h
  | v :: m, l, h => bothS_nil m (addN l v) (by unfold addN; split <;> simp [h])
theorem bothS_empty {l m : List NV} (h : bothS l m = []) : l = [] ∧ m = [] := by
  have hl : l = [] := Classical.byContradiction fun hn => bothS_nil m l hn h
  subst hl
  refine ⟨rfl, ?_⟩
  cases m with
  | nil => rfl
  | cons v m => exact absurd h (bothS_nil m (addN [] v) (by simp [addN]))
theorem take_foldl (l m : List NV) (i : Nat) (v : NV) (h : m[i]? = some v) : bothS l (m.take (i + 1)) = addN (bothS l (m.take i)) v := by
  unfold bothS
  rw [List.take_add_one, h, List.foldl_append]; rfl
theorem idx_nv {ns : List NV} {i : Nat} {v : NV} (h : ns[i]? = some v) : (ns.map nrow)[i]? = some [.int .i64 v.1, .int .i64 v.2] := by
  rw [List.getElem?_map, h]; rfl
theorem more_ok (ls ms : List NV) (lab : Nat) (sp : List (List LV)) (hl : ls.length + ms.length ≤ 4294967296) (ob : Obs) (pb : Nat) : Gives env6 254 [sl2 true 0 ls [], sl2 false lab ms sp] ob pb (sl2 true 0 (bothS ls ms) [], ob) := by
  have hlen : (ms.map nrow).length = ms.length := by simp
  refine gives_code (f := tf254) rfl ?_
  conv => whnf
  refine loop_v (V := fun i : Nat => [(0, sl2 true 0 (bothS ls (ms.take i)) []), (9, .int .i64 i)]) (O := fun _ => ob) (m := fun i => ms.length - i) (P := fun i => i ≤ ms.length) ?_ 0 (Nat.zero_le _) rfl
  intro R i hi hN hE hR
  have hb := bothS_len (ms.take i) ls
  rw [List.length_take] at hb
  conv => whnf
  refine sel_split (fun h => ?_) (fun h => ?_)
  · conv => whnf
    have h := of_decide_eq_true h
    rw [hlen] at h
    obtain ⟨v, hv⟩ : ∃ v, ms[i]? = some v := ⟨_, List.getElem?_eq_getElem (show i < ms.length by omega)⟩
    have e : IntKind.i64.wrap ((i : Int) + 1) = ((i + 1 : Nat) : Int) := by rw [wrap64] <;> omega
    obtain ⟨r, hr⟩ := boolOf (v ∈ bothS ls (ms.take i))
    refine ⟨_, ⟨by omega, idx_nv hv⟩, ?_⟩
    conv => whnf
    refine ⟨_, _, (hasName_ok 0 (bothS ls (ms.take i)) [] v (by omega) ob _ r hr).le le16, fun _ => rfl, ?_⟩
    cases r with
    | true =>
      conv => whnf
      refine hN (i + 1) _ (by omega) (by omega) ?_
      rw [take_foldl _ _ _ _ hv]
      unfold addN
      rw [if_pos (hr.1 rfl), ← e]; rfl
    | false =>
      have hn : v ∉ bothS ls (ms.take i) := fun h => by have := hr.2 h; cases this
      conv => whnf
      refine ⟨(bothS ls (ms.take i) ++ [v]).map nrow, ⟨.inl rfl, ?_, by rw [List.map_append]; rfl⟩, ?_⟩
      · show (((bothS ls (ms.take i)).map nrow).length + 1) * 16 ≤ _
        rw [List.length_map]; omega
      conv => whnf
      refine hN (i + 1) _ (by omega) (by omega) ?_
      rw [take_foldl _ _ _ _ hv]
      unfold addN
      rw [if_neg hn, ← e]; rfl
  · conv => whnf
    have h := of_decide_eq_false h
    rw [hlen] at h
    have : i = ms.length := by omega
    subst this
    refine hE _ _ ?_
    rw [List.take_length]
    conv => whnf
    exact ⟨rfl, rfl, rfl⟩
def outZ (f : Bool) (w : List NV) : Int := if f then 2 else match w with | [] => 1 | _ => 3
def sumL (n : Int) (f : Bool) (o : Bool) (w : List NV) : LV := .agg [.int .i64 n, .bool f, sl2 o 0 w []]
theorem outcome_ok (n : Int) (f o : Bool) (w : List NV) (ob : Obs) (pb : Nat) : Gives env6 239 [sumL n f o w] ob pb (.int .u8 (outZ f w), ob) := by
  cases f with
  | true =>
    refine gives_code (f := tf239) rfl ?_
    conv => whnf
    exact ⟨rfl, rfl, rfl⟩
  | false =>
    cases w with
    | nil =>
      refine gives_code (f := tf239) rfl ?_
      conv => whnf
      exact ⟨rfl, rfl, rfl⟩
    | cons a w =>
      have hgt : (((a :: w).map nrow).length : Int) > 0 := by simp only [List.map_cons, List.length_cons]; omega
      refine gives_code (f := tf239) rfl ?_
      conv => whnf
      refine sel_t (decide_eq_true hgt) ?_
      conv => whnf
      exact ⟨rfl, rfl, rfl⟩
theorem isOp_ok (c : C) (ob : Obs) (pb : Nat) (r : Bool) (hr : r = true ↔ c.k = 3 ∧ SumOp c) : Gives env6 261 [c.lv] ob pb (.bool r, ob) := by
  obtain ⟨q, hq⟩ := boolOf (c.text ∈ twos)
  have gS := fun ob pb => (hasStr_ok 0 twos c.text (by decide) ob pb q hq).le le16
  unfold SumOp absS at hr
  refine gives_code (f := tf261) rfl ?_
  conv => whnf
  repeat' first
    | (refine sel_split (fun _ => ?_) (fun _ => ?_) <;> conv => whnf)
    | (refine ⟨_, _, gS _ _, fun _ => rfl, ?_⟩; conv => whnf)
  all_goals
    refine ⟨rfl, bool_of hr ?_, rfl⟩
    try simp only [beq_iff_eq, beq_eq_false_iff_ne, ne_eq, bytes_eq, Bool.not_eq_true', Bool.not_eq_false', decide_eq_true_eq, decide_eq_false_iff_not] at *
    grind
end Tree.H6
