/- Layer 6: what a sum is: a relation, one answer for each term and map; what stays where a map says more. -/
import Derived.Test.YtphdgjglofapbaaDoorL6H7
set_option autoImplicit false
set_option linter.unusedVariables false
set_option linter.unusedSimpArgs false
namespace Tree.H6
open Go
set_option maxHeartbeats 2000000
def leafZ (d : C) : Rz := if d.k = 1 then (d.n, false, []) else if d.k = 4 then (0, false, [(d.node, d.num)]) else (0, true, [])
def opZ (s : ByteArray) (rs : List Rz) : Rz := if outZ (fz rs) (wz rs) ≠ 1 then (0, fz rs, wz rs) else ((reckonS s (rs.map (·.1))).1, !(reckonS s (rs.map (·.1))).2, [])
inductive Sm (M : Mp) : List C → Rz → Prop
  | int {c : C} {t : List C} (h : c.k = 1) : Sm M (c :: t) (c.n, false, [])
  | var {c d : C} {t r : List C} (h : c.k = 4) (hd : Dr M (c :: t) (d :: r)) : Sm M (c :: t) (leafZ d)
  | bad {c : C} {t : List C} (h1 : c.k ≠ 1) (h4 : c.k ≠ 4) (h : ¬ (c.k = 3 ∧ SumOp c)) : Sm M (c :: t) (0, true, [])
  | op {c : C} {t : List C} {rs : List Rz} (hk : c.k = 3) (ho : SumOp c) (hl : rs.length = (argsR (c :: t)).length) (h : ∀ (i : Nat) (a : List C) (x : Rz), (argsR (c :: t))[i]? = some a → rs[i]? = some x → Sm M a x) : Sm M (c :: t) (opZ c.text rs)
theorem outZ_one {f : Bool} {w : List NV} : outZ f w = 1 ↔ f = false ∧ w = [] := by
  unfold outZ
  cases f with
  | true => simp
  | false => cases w <;> simp
theorem opZ_no {s : ByteArray} {rs : List Rz} (h : ¬ (fz rs = false ∧ wz rs = [])) : opZ s rs = (0, fz rs, wz rs) := by
  unfold opZ; rw [if_pos (fun e => h (outZ_one.1 e))]
theorem fz_iff {rs : List Rz} : fz rs = true ↔ ∃ (i : Nat) (x : Rz), rs[i]? = some x ∧ x.2.1 = true := by
  unfold fz
  rw [List.any_eq_true]
  constructor
  · rintro ⟨x, hx, h⟩
    obtain ⟨i, hi⟩ := List.mem_iff_getElem?.1 hx
    exact ⟨i, x, hi, h⟩
  · rintro ⟨i, x, hi, h⟩
    exact ⟨x, List.mem_of_getElem? hi, h⟩
theorem wz_nil {rs : List Rz} : wz rs = [] ↔ ∀ (i : Nat) (x : Rz), rs[i]? = some x → x.2.2 = [] := by
  have key : ∀ (rs : List Rz) (acc : List NV), rs.foldl (fun acc x => bothS acc x.2.2) acc = [] ↔ acc = [] ∧ ∀ (i : Nat) (x : Rz), rs[i]? = some x → x.2.2 = [] := by
    intro rs
    induction rs with
    | nil => intro acc; exact ⟨fun h => ⟨h, fun i x hx => by simp at hx⟩, fun h => h.1⟩
    | cons y rs ih =>
      intro acc
      rw [List.foldl_cons, ih]
      constructor
      · rintro ⟨h1, h2⟩
        obtain ⟨h3, h4⟩ := bothS_empty h1
        refine ⟨h3, fun i x hx => ?_⟩
        cases i with
        | zero => cases hx; exact h4
        | succ i => exact h2 i x hx
      · rintro ⟨rfl, h2⟩
        have h3 := h2 0 y rfl
        exact ⟨by rw [h3]; rfl, fun i x hx => h2 (i + 1) x hx⟩
  have := key rs []
  unfold wz
  rw [this]
  exact ⟨fun h => h.2, fun h => ⟨rfl, h⟩⟩
/-- One map says more than another. -/
def moreM (M N : Mp) : Prop := ∀ k u, M k = some u → N k = some u
theorem dr_more {M N : Mp} (h : moreM M N) {cs fin g : List C} (h1 : Dr M cs fin) (h2 : Dr N cs g) : Dr N fin g := by
  induction h1 with
  | stop _ => exact h2
  | @step cs u v hn _ ih =>
    obtain ⟨c, rfl, hk, hm⟩ := nxt_some hn
    have hn2 : nxt N [c] = some u := by simp only [nxt, hk, if_true]; exact h _ _ hm
    exact ih (h2.inv hn2)
theorem dr_rest {M : Mp} {d : C} {r g : List C} (h : Dr M (d :: r) g) (hd : d.k ≠ 4) : g = d :: r := h.fin (by
  cases r with
  | nil => simp [nxt, hd]
  | cons => rfl)
/-- What a sum gives, or that it fails, stays where a map says more. -/
theorem sm_more {M N : Mp} (hMN : moreM M N) {cs : List C} {x : Rz} (h : Sm M cs x) : ∀ {z : Rz}, Sm N cs z → (x.2.1 = true → z.2.1 = true) ∧ (x.2.1 = false → x.2.2 = [] → z = x) := by
  induction h with
  | int h =>
    intro z hz
    cases hz with
    | int _ => exact ⟨fun h => h, fun _ _ => rfl⟩
    | var h' _ => omega
    | bad h' _ _ => exact absurd h h'
    | op h' _ _ _ => omega
  | @var c d t r h hd =>
    intro z hz
    cases hz with
    | int h' => omega
    | @var _ d' _ r' _ hd' =>
      have h3 := dr_more hMN hd hd'
      by_cases hk : d.k = 4
      · have e : leafZ d = (0, false, [(d.node, d.num)]) := by unfold leafZ; rw [if_neg (by omega), if_pos hk]
        rw [e]
        exact ⟨fun h => (nomatch h), fun _ h => (nomatch h)⟩
      · have := dr_rest h3 hk
        injection this with e1 e2
        rw [e1]
        exact ⟨fun h => h, fun _ _ => rfl⟩
    | bad _ h' _ => exact absurd h h'
    | op h' _ _ _ => omega
  | bad h1 h4 h =>
    intro z hz
    cases hz with
    | int h' => exact absurd h' h1
    | var h' _ => exact absurd h' h4
    | bad _ _ _ => exact ⟨fun h => h, fun _ _ => rfl⟩
    | op h' h'' _ _ => exact absurd ⟨h', h''⟩ h
  | @op c t rs hk ho hl h ih =>
    intro z hz
    cases hz with
    | int h' => omega
    | var h' _ => omega
    | bad _ _ h' => exact absurd ⟨hk, ho⟩ h'
    | @op _ _ zs _ _ hl' h' =>
      have hlen : zs.length = rs.length := by rw [hl, hl']
      have hF : fz rs = true → fz zs = true := by
        intro hf
        obtain ⟨i, x, hi, hx⟩ := fz_iff.1 hf
        have hi' := (List.getElem?_eq_some_iff.1 hi).1
        obtain ⟨a, ha⟩ : ∃ a, (argsR (c :: t))[i]? = some a := ⟨_, List.getElem?_eq_getElem (by omega)⟩
        obtain ⟨y, hy⟩ : ∃ y, zs[i]? = some y := ⟨_, List.getElem?_eq_getElem (by omega)⟩
        exact fz_iff.2 ⟨i, y, hy, (ih i a x ha hi (h' i a y ha hy)).1 hx⟩
      have hE : fz rs = false → wz rs = [] → zs = rs := by
        intro hf hw
        apply List.ext_getElem?
        intro i
        by_cases hi : i < rs.length
        · obtain ⟨x, hx⟩ : ∃ x, rs[i]? = some x := ⟨_, List.getElem?_eq_getElem hi⟩
          obtain ⟨a, ha⟩ : ∃ a, (argsR (c :: t))[i]? = some a := ⟨_, List.getElem?_eq_getElem (by omega)⟩
          obtain ⟨y, hy⟩ : ∃ y, zs[i]? = some y := ⟨_, List.getElem?_eq_getElem (by omega)⟩
          have hxf : x.2.1 = false := by
            cases hxf : x.2.1 with
            | false => rfl
            | true => have := fz_iff.2 ⟨i, x, hx, hxf⟩; rw [hf] at this; cases this
          rw [hx, hy, (ih i a x ha hx (h' i a y ha hy)).2 hxf (wz_nil.1 hw i x hx)]
        · rw [List.getElem?_eq_none (by omega), List.getElem?_eq_none (by omega)]
      by_cases hc : fz rs = false ∧ wz rs = []
      · rw [hE hc.1 hc.2]
        exact ⟨fun h => h, fun _ _ => rfl⟩
      · rw [opZ_no hc]
        refine ⟨fun hf => ?_, fun hf hw => absurd ⟨hf, hw⟩ hc⟩
        have := hF hf
        rw [opZ_no (fun h => by rw [this] at h; cases h.1)]
        exact this
/-- A sum has one answer. -/
theorem sm_one {M : Mp} {cs : List C} {x z : Rz} (h : Sm M cs x) (hz : Sm M cs z) : z = x := by
  induction h generalizing z with
  | int h =>
    cases hz with
    | int _ => rfl
    | var h' _ => omega
    | bad h' _ _ => exact absurd h h'
    | op h' _ _ _ => omega
  | @var c d t r h hd =>
    cases hz with
    | int h' => omega
    | @var _ d' _ r' _ hd' =>
      have h3 : Dr M (d :: r) (d' :: r') := dr_more (fun _ _ h => h) hd hd'
      have h4 : Dr M (d' :: r') (d :: r) := dr_more (fun _ _ h => h) hd' hd
      have : ∀ {a b : List C}, Dr M a b → ∀ {g : List C}, Dr M a g → g = b := by
        intro a b h
        induction h with
        | stop h => intro g hg; exact hg.fin h
        | step h _ ih => intro g hg; exact ih (hg.inv h)
      have := this hd hd'
      injection this with e1 e2
      rw [e1]
    | bad _ h' _ => exact absurd h h'
    | op h' _ _ _ => omega
  | bad h1 h4 h =>
    cases hz with
    | int h' => exact absurd h' h1
    | var h' _ => exact absurd h' h4
    | bad _ _ _ => rfl
    | op h' h'' _ _ => exact absurd ⟨h', h''⟩ h
  | @op c t rs hk ho hl h ih =>
    cases hz with
    | int h' => omega
    | var h' _ => omega
    | bad _ _ h' => exact absurd ⟨hk, ho⟩ h'
    | @op _ _ zs _ _ hl' h' =>
      congr 1
      apply List.ext_getElem?
      intro i
      by_cases hi : i < rs.length
      · obtain ⟨x, hx⟩ : ∃ x, rs[i]? = some x := ⟨_, List.getElem?_eq_getElem hi⟩
        obtain ⟨a, ha⟩ : ∃ a, (argsR (c :: t))[i]? = some a := ⟨_, List.getElem?_eq_getElem (by omega)⟩
        obtain ⟨y, hy⟩ : ∃ y, zs[i]? = some y := ⟨_, List.getElem?_eq_getElem (by omega)⟩
        rw [hx, hy, ih i a x ha hx (h' i a y ha hy)]
      · rw [List.getElem?_eq_none (by omega), List.getElem?_eq_none (by omega)]
end Tree.H6
