/- Layer 4: predicates in rows; what a term calls, or heads. -/
import Derived.Test.YtphdgjglofapbaaDoorL4Env
import Derived.Test.YtphdgjglofapbaaDoorTLb
import Derived.Test.YtphdgjglofapbaaDoorTW
set_option autoImplicit false
set_option linter.unusedVariables false
set_option linter.unusedSimpArgs false
namespace Tree
open Go
set_option maxHeartbeats 4000000
set_option maxRecDepth 100000
abbrev PV := ByteArray × Int
def pv (v : PV) : LV := .agg [.str v.1, .int .i64 v.2]
open Classical in
/-- What a term calls, or heads. -/
noncomputable def predC : List C → Option PV
  | [] => none
  | c :: _ => if NameP c.text.data.toList then (if c.k = 2 then some (c.text, 0) else if c.k = 3 then some (c.text, c.n) else none) else none
def IsP (cs : List C) (s : ByteArray) (n : Int) : Prop := ∃ c r, cs = c :: r ∧ c.text = s ∧ (c.k = 3 ∧ c.n = n ∨ n = 0 ∧ c.k = 2)
end Tree

set_option autoImplicit false
set_option linter.unusedVariables false
set_option linter.unusedSimpArgs false
namespace Tree
open Go
set_option maxHeartbeats 4000000
set_option maxRecDepth 100000
def atS : ByteArray := ⟨#[64]⟩
def trueS : ByteArray := ⟨#[116, 114, 117, 101]⟩
open Classical in
/-- What a right goal calls. -/
noncomputable def callC (cs : List C) : Option PV :=
  if RightP cs then
    match predC (if IsP cs atS 2 then (argsR cs).headD [] else cs) with
    | some q => if q = (trueS, 0) then none else some q
    | none => none
  else none
open Classical in
noncomputable def addP (acc : List PV) (v : PV) : List PV := if v ∈ acc then acc else acc ++ [v]
noncomputable def addO (acc : List PV) (v : Option PV) : List PV := match v with
  | some v => addP acc v
  | none => acc
noncomputable def callsC (acc : List PV) (ts : List T1) : List PV := ts.foldl (fun acc t => addO acc (callC t.cs)) acc
theorem noRefM (n : Nat) (l : List (List C)) : (sl1 true 0 (l.map T1.mk0) []).noRef n = true := by
  have := noRef1 n true 0 (l.map T1.mk0)
  have e : (l.map T1.mk0).map T1.own = l.map T1.mk0 := by rw [List.map_map]; rfl
  rw [e] at this; exact this
end Tree

set_option autoImplicit false
set_option linter.unusedVariables false
set_option linter.unusedSimpArgs false
namespace Tree
open Go
set_option maxHeartbeats 4000000
set_option maxRecDepth 100000
structure Cl where
  hlab : Nat
  head : List C
  hsp : List (List LV)
  glab : Nat
  guards : List T1
  gsp : List (List LV)
  blab : Nat
  body : List T1
  bsp : List (List LV)
  locals : Int
def Cl.row (c : Cl) : List LV := [sl5 false c.hlab c.head c.hsp, sl1 false c.glab c.guards c.gsp, sl1 false c.blab c.body c.bsp, .int .i64 c.locals]
structure Cl.fine (c : Cl) : Prop where
  hl : c.head.length ≤ 1048576
  hf : ∀ d ∈ c.head, d.fine
  gl : c.guards.length ≤ 1048576
  gf : ∀ t ∈ c.guards, t.fine
  bl : c.body.length ≤ 1048576
  bf : ∀ t ∈ c.body, t.fine
  hn : ∀ n, LV.noRefss n c.hsp = true
  gn : ∀ t ∈ c.guards, ∀ n, LV.noRefss n t.sp = true
  bn : ∀ t ∈ c.body, ∀ n, LV.noRefss n t.sp = true
  gc : ∀ t ∈ c.guards, t.cs.length ≤ 1048576
  bc : ∀ t ∈ c.body, t.cs.length ≤ 1048576
open Classical in
noncomputable def clausesN (p : List Cl) (q : PV) (i : Nat) : List Nat := (List.range i).filter fun j => decide (∃ c, p[j]? = some c ∧ predC c.head = some q)
noncomputable def clausesC (p : List Cl) (q : PV) : List Nat := clausesN p q p.length
noncomputable def callsAt (p : List Cl) (k : Nat) : List PV := match p[k]? with
  | some c => callsC [] c.body
  | none => []
end Tree

set_option autoImplicit false
set_option linter.unusedVariables false
set_option linter.unusedSimpArgs false
namespace Tree
open Go
set_option maxHeartbeats 4000000
set_option maxRecDepth 100000
noncomputable def addL (o ds : List PV) : List PV := ds.foldl addP o
noncomputable def kids (p : List Cl) (q : PV) : List PV := (clausesC p q).flatMap (callsAt p)
theorem mem_addP {o : List PV} {v x : PV} : x ∈ addP o v ↔ x ∈ o ∨ x = v := by
  unfold addP; split
  · rename_i h
    constructor
    · exact .inl
    · rintro (h1 | rfl)
      · exact h1
      · exact h
  · simp
theorem mem_addL : ∀ (ds o : List PV) (x : PV), x ∈ addL o ds ↔ x ∈ o ∨ x ∈ ds
  | [], o, x => by simp [addL]
  | d :: ds, o, x => by
    have e : addL o (d :: ds) = addL (addP o d) ds := rfl
    rw [e, mem_addL ds, mem_addP, List.mem_cons, or_assoc]
theorem nodup_addP {o : List PV} {v : PV} (h : o.Nodup) : (addP o v).Nodup := by
  unfold addP; split
  · exact h
  · rename_i hn
    rw [List.nodup_append]
    refine ⟨h, by simp, ?_⟩
    intro a ha b hb e
    simp at hb; subst hb; subst e; exact hn ha
theorem nodup_addL : ∀ (ds o : List PV), o.Nodup → (addL o ds).Nodup
  | [], o, h => h
  | d :: ds, o, h => nodup_addL ds _ (nodup_addP h)
theorem pre_addP (o : List PV) (v : PV) : ∃ e, addP o v = o ++ e := by
  unfold addP; split
  · exact ⟨[], by simp⟩
  · exact ⟨[v], rfl⟩
theorem pre_addL : ∀ (ds o : List PV), ∃ e, addL o ds = o ++ e
  | [], o => ⟨[], by simp [addL]⟩
  | d :: ds, o => by
    obtain ⟨e, h⟩ := pre_addP o d
    obtain ⟨e', h'⟩ := pre_addL ds (addP o d)
    exact ⟨e ++ e', by rw [← List.append_assoc, ← h, ← h']; rfl⟩
/-- All that may ever be reached. -/
noncomputable def allOf (p : List Cl) (base : List PV) : List PV := base ++ p.flatMap fun c => callsC [] c.body
theorem callsAt_all {p : List Cl} {base : List PV} {k : Nat} {x : PV} (h : x ∈ callsAt p k) : x ∈ allOf p base := by
  unfold callsAt at h
  split at h
  · rename_i c hc
    exact List.mem_append_right _ (List.mem_flatMap.2 ⟨c, List.mem_of_getElem? hc, h⟩)
  · cases h
theorem kids_all {p : List Cl} {base : List PV} {q x : PV} (h : x ∈ kids p q) : x ∈ allOf p base := by
  obtain ⟨k, _, h2⟩ := List.mem_flatMap.1 h
  exact callsAt_all h2
structure Good (p : List Cl) (base o : List PV) (i : Nat) : Prop where
  le : i ≤ o.length
  nd : o.Nodup
  sub : ∀ x ∈ o, x ∈ allOf p base
  bs : ∀ x ∈ base, x ∈ o
  cl : ∀ (j : Nat) q, j < i → o[j]? = some q → ∀ d ∈ kids p q, d ∈ o
  mn : ∀ X : List PV, (∀ x ∈ base, x ∈ X) → (∀ q ∈ X, ∀ d ∈ kids p q, d ∈ X) → ∀ x ∈ o, x ∈ X
theorem Good.len {p : List Cl} {base o : List PV} {i : Nat} (h : Good p base o i) : o.length ≤ (allOf p base).length := h.nd.length_le_of_subset fun x hx => h.sub x hx
theorem Good.step {p : List Cl} {base o : List PV} {i : Nat} {q : PV} (h : Good p base o i) (hq : o[i]? = some q) : Good p base (addL o (kids p q)) (i + 1) := by
  obtain ⟨e, he⟩ := pre_addL (kids p q) o
  have hi : i < o.length := (List.getElem?_eq_some_iff.1 hq).1
  refine ⟨?_, nodup_addL _ _ h.nd, fun x hx => ?_, fun x hx => (mem_addL _ _ _).2 (.inl (h.bs x hx)), fun j q' hj hq' d hd => ?_, fun X h1 h2 x hx => ?_⟩
  · rw [he, List.length_append]; omega
  · rcases (mem_addL _ _ _).1 hx with g | g
    · exact h.sub x g
    · exact kids_all g
  · have hlt : j < o.length := by omega
    rw [he, List.getElem?_append_left hlt] at hq'
    rcases Nat.lt_or_ge j i with hji | hji
    · exact (mem_addL _ _ _).2 (.inl (h.cl j q' hji hq' d hd))
    · have : j = i := by omega
      subst this
      rw [hq] at hq'; cases hq'
      exact (mem_addL _ _ _).2 (.inr hd)
  · rcases (mem_addL _ _ _).1 hx with g | g
    · exact h.mn X h1 h2 x g
    · exact h2 q (h.mn X h1 h2 q (List.mem_of_getElem? hq)) x g
/-- What is reached: closed, no more than that. -/
structure Reach (p : List Cl) (base o : List PV) : Prop where
  bs : ∀ x ∈ base, x ∈ o
  cl : ∀ q ∈ o, ∀ d ∈ kids p q, d ∈ o
  mn : ∀ X : List PV, (∀ x ∈ base, x ∈ X) → (∀ q ∈ X, ∀ d ∈ kids p q, d ∈ X) → ∀ x ∈ o, x ∈ X
end Tree

set_option autoImplicit false
set_option linter.unusedVariables false
set_option linter.unusedSimpArgs false
namespace Tree
open Go
set_option maxHeartbeats 4000000
set_option maxRecDepth 100000
/-- The number of the first one with p, or -1. -/
def FirstJ {α : Type} (xs : List α) (p : α → Prop) (j : Int) : Prop := (∃ (i : Nat) (x : α), j = i ∧ xs[i]? = some x ∧ p x ∧ ∀ (k : Nat) y, k < i → xs[k]? = some y → ¬ p y) ∨ j = -1 ∧ ∀ x ∈ xs, ¬ p x
theorem FirstJ.at {α : Type} {xs : List α} {p : α → Prop} {j : Int} (h : FirstJ xs p j) {i : Nat} {x : α} (hx : xs[i]? = some x) (hp : p x) (hn : ∀ (k : Nat) y, k < i → xs[k]? = some y → ¬ p y) : j = i := by
  rcases h with ⟨i', x', rfl, h1, h2, h3⟩ | ⟨rfl, h1⟩
  · rcases Nat.lt_trichotomy i i' with h7 | h7 | h7
    · exact absurd hp (h3 i x h7 hx)
    · rw [h7]
    · exact absurd h2 (hn i' x' h7 h1)
  · exact absurd hp (h1 x (List.mem_of_getElem? hx))
theorem FirstJ.none {α : Type} {xs : List α} {p : α → Prop} {j : Int} (h : FirstJ xs p j) (hn : ∀ (k : Nat) y, k < xs.length → xs[k]? = some y → ¬ p y) : j = -1 := by
  rcases h with ⟨i', x', rfl, h1, h2, h3⟩ | ⟨rfl, h1⟩
  · exact absurd h2 (hn i' x' (List.getElem?_eq_some_iff.1 h1).1 h1)
  · rfl
end Tree

set_option autoImplicit false
set_option linter.unusedVariables false
set_option linter.unusedSimpArgs false
namespace Tree
open Go
set_option maxHeartbeats 4000000
set_option maxRecDepth 100000
def bs (l : List Nat) : ByteArray := ⟨(l.map (UInt8.ofNat ·)).toArray⟩
def twos : List ByteArray := [⟨#[43]⟩, ⟨#[45]⟩, ⟨#[42]⟩, ⟨#[100, 105, 118]⟩, ⟨#[109, 111, 100]⟩, ⟨#[109, 105, 110]⟩, ⟨#[109, 97, 120]⟩]
def absS : ByteArray := ⟨#[97, 98, 115]⟩
def SumOp (c : C) : Prop := (c.text ∈ twos ∧ c.n = 2) ∨ (c.text = absS ∧ c.n = 1)
inductive SumP : List C → Prop
  | leaf {c : C} {r : List C} (h : c.k = 1 ∨ c.k = 4) : SumP (c :: r)
  | op {c : C} {r : List C} (hk : c.k = 3) (ho : SumOp c) (ha : ∀ a ∈ argsR (c :: r), SumP a) : SumP (c :: r)
theorem args_small {c : C} {r : List C} (h : RightP (c :: r)) (hk : c.k = 3) {a : List C} (ha : a ∈ argsR (c :: r)) : a.length < (c :: r).length ∧ RightP a ∧ ∀ d ∈ a, d ∈ c :: r := by
  obtain ⟨f1, f2, f3, f4⟩ := args_facts h hk
  refine ⟨?_, f4 a ha, fun d hd => List.mem_cons_of_mem _ (by rw [← f3]; exact List.mem_flatten.2 ⟨a, ha, hd⟩)⟩
  have : a.length ≤ (argsR (c :: r)).flatten.length := by
    have hs : ∀ (l : List (List C)), a ∈ l → a.length ≤ l.flatten.length := by
      intro l
      induction l with
      | nil => intro h; cases h
      | cons x l ih =>
        intro h
        simp only [List.flatten_cons, List.length_append]
        rcases List.mem_cons.1 h with rfl | h
        · omega
        · have := ih h; omega
    exact hs _ ha
  rw [f3] at this
  simp only [List.length_cons]; omega
theorem argsR_len (cs : List C) : (argsR cs).length ≤ 8 := by
  by_cases h : StructP cs
  · obtain ⟨hR, c, r, rfl, hk⟩ := h
    obtain ⟨_, _, _, h4⟩ := (right_walk _).1 hR
    rw [(args_facts hR hk).2.1]
    exact (ok_parts (h4 c (List.mem_cons_self ..))).2
  · unfold argsR; rw [if_neg h]; simp

end Tree

set_option autoImplicit false
set_option linter.unusedVariables false
set_option linter.unusedSimpArgs false
namespace Tree
open Go
set_option maxHeartbeats 4000000
set_option maxRecDepth 100000
def comps : List ByteArray := [⟨#[60]⟩, ⟨#[61, 60]⟩, ⟨#[62]⟩, ⟨#[62, 61]⟩, ⟨#[61, 58, 61]⟩, ⟨#[61, 92, 61]⟩]
def tests : List ByteArray := [⟨#[105, 110, 116, 101, 103, 101, 114]⟩, ⟨#[97, 116, 111, 109]⟩, ⟨#[99, 111, 109, 112, 111, 117, 110, 100]⟩, ⟨#[107, 110, 111, 119, 110]⟩]
def equalS : ByteArray := ⟨#[101, 113, 117, 97, 108]⟩
def unlikeS : ByteArray := ⟨#[117, 110, 108, 105, 107, 101]⟩
def FlatP (cs : List C) : Prop := ∃ c r, cs = c :: r ∧ c.k ≠ 3
theorem right_cons {cs : List C} (h : RightP cs) : ∃ c r, cs = c :: r := by
  cases cs with
  | nil => exact absurd rfl h.1
  | cons c r => exact ⟨c, r, rfl⟩
def CalP (cs : List C) : Prop := ∃ c r, cs = c :: r ∧ c.k ≠ 1 ∧ c.k ≠ 4 ∧ NameP c.text.data.toList
def GuardOp (c : C) : Prop := (c.n = 1 ∧ c.text ∈ tests) ∨ (c.n = 2 ∧ (c.text = equalS ∨ c.text = unlikeS))
def GuardP (cs : List C) : Prop := IsP cs trueS 0 ∨ ∃ c r, cs = c :: r ∧ c.k = 3 ∧ ((c.n = 2 ∧ c.text ∈ comps ∧ ∀ a ∈ argsR cs, SumP a) ∨ (GuardOp c ∧ ∀ a ∈ argsR cs, FlatP a))
end Tree

set_option autoImplicit false
set_option linter.unusedVariables false
set_option linter.unusedSimpArgs false
namespace Tree
open Go
set_option maxHeartbeats 4000000
set_option maxRecDepth 100000
def eqS : ByteArray := ⟨#[61]⟩
def asS : ByteArray := ⟨#[58, 61]⟩
def PlaceP (cs : List C) : Prop := ∃ c r, cs = c :: r ∧ (c.k = 4 ∨ c.k = 1 ∧ 0 ≤ c.n ∧ c.n < 4)
open Classical in
noncomputable def Goal0 (cs : List C) : Prop := if IsP cs eqS 2 then True else if IsP cs asS 2 then SumP ((argsR cs).getD 1 []) else if IsP cs atS 2 then False else CalP cs
open Classical in
noncomputable def GoalP (sent : Prop) (cs : List C) : Prop := if IsP cs eqS 2 then True else if IsP cs asS 2 then SumP ((argsR cs).getD 1 []) else if IsP cs atS 2 then (sent ∧ Goal0 ((argsR cs).getD 0 []) ∧ PlaceP ((argsR cs).getD 1 [])) else CalP cs
def Cl.lv (c : Cl) : LV := .agg c.row
def LongW (c : Cl) : Prop := c.guards.length > 4 ∨ c.body.length > 8 ∨ c.locals > 16
end Tree

set_option autoImplicit false
set_option linter.unusedVariables false
set_option linter.unusedSimpArgs false
namespace Tree
open Go
set_option maxHeartbeats 4000000
set_option maxRecDepth 100000
structure G1 where
  lab : Nat
  ts : List T1
  sp : List (List LV)
def G1.row (g : G1) : List LV := [sl1 false g.lab g.ts g.sp]
def termsOf (c : Cl) : List T1 := ⟨c.hlab, c.head, c.hsp⟩ :: c.guards ++ c.body
def FormW (c : Cl) : Prop := c.locals < 0 ∨ (∃ t ∈ termsOf c, ¬ RightP t.cs) ∨ ∃ v ∈ varsT [] (termsOf c), v.1 ≠ -1 ∨ v.2 ≥ c.locals
end Tree

set_option autoImplicit false
set_option linter.unusedVariables false
set_option linter.unusedSimpArgs false
namespace Tree
open Go
set_option maxHeartbeats 4000000
set_option maxRecDepth 100000
def cntV (cs : List C) : Nat := (cs.filter fun c => c.k == 4).length
def HeadW (c : Cl) : Prop := ¬ CalP c.head ∨ IsP c.head trueS 0 ∨ cntV c.head > (varsC [] c.head).length
def GuardW (c : Cl) : Prop := ∃ g ∈ c.guards, ¬ GuardP g.cs ∨ ∃ v ∈ varsC [] g.cs, v ∉ varsC [] c.head
def BodyW (c : Cl) : Prop := ∃ g ∈ c.body, ¬ GoalP True g.cs
def PredW (there : List PV) (c : Cl) : Prop := ∃ q ∈ callsC [] c.body, q ∉ there
end Tree

set_option autoImplicit false
set_option linter.unusedVariables false
set_option linter.unusedSimpArgs false
namespace Tree
open Go
set_option maxHeartbeats 4000000
set_option maxRecDepth 100000
def LookW (there : List PV) : Nat → Cl → Prop
  | 0, c => LongW c
  | 1, c => FormW c
  | 2, c => HeadW c
  | 3, c => GuardW c
  | 4, c => BodyW c
  | 5, c => PredW there c
  | _, _ => False
/-- All looks before the k-th have passed. -/
def Passed (there : List PV) (p : List Cl) (k : Nat) : Prop := ∀ k', k' < k → ∀ c ∈ p, ¬ LookW there k' c
theorem Passed.right {there : List PV} {p : List Cl} {k : Nat} (h : Passed there p k) (hk : 2 ≤ k) {c : Cl} (hc : c ∈ p) : RightP c.head ∧ (∀ g ∈ c.guards, RightP g.cs) ∧ ∀ g ∈ c.body, RightP g.cs := by
  have h1 : ¬ FormW c := h 1 (by omega) c hc
  have h2 : ∀ t ∈ termsOf c, RightP t.cs := fun t ht => Classical.byContradiction fun hn => h1 (.inr (.inl ⟨t, ht, hn⟩))
  have e : termsOf c = (⟨c.hlab, c.head, c.hsp⟩ : T1) :: (c.guards ++ c.body) := rfl
  rw [e] at h2
  refine ⟨h2 ⟨c.hlab, c.head, c.hsp⟩ (List.mem_cons_self ..), fun g hg => h2 g (List.mem_cons_of_mem _ (List.mem_append_left _ hg)), fun g hg => h2 g (List.mem_cons_of_mem _ (List.mem_append_right _ hg))⟩
end Tree
