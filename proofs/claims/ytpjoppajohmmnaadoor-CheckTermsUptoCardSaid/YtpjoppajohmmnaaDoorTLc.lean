/- Layer 4: predicates in rows; what a term calls, or heads. -/
import Derived.Test.YtpjoppajohmmnaaDoorL4Env
import Derived.Test.YtpjoppajohmmnaaDoorTLb
import Derived.Test.YtpjoppajohmmnaaDoorTW
set_option autoImplicit false
set_option linter.unusedVariables false
set_option linter.unusedSimpArgs false
namespace Tree
open Go
set_option maxHeartbeats 4000000
set_option maxRecDepth 100000
abbrev PV := ByteArray × Int
def pv (v : PV) : LV := .agg [.str v.1, .int .i64 v.2]
open Classical in
/-- What a term calls, or heads. -/
noncomputable def predC : List C → Option PV
  | [] => none
  | c :: _ => if NameP c.text.data.toList then (if c.k = 2 then some (c.text, 0) else if c.k = 3 then some (c.text, c.n) else none) else none
def IsP (cs : List C) (s : ByteArray) (n : Int) : Prop := ∃ c r, cs = c :: r ∧ c.text = s ∧ (c.k = 3 ∧ c.n = n ∨ n = 0 ∧ c.k = 2)
theorem is_ok (lab : Nat) (cs : List C) (sp : List (List LV)) (s : ByteArray) (n : Int) (ob : Obs) (pb : Nat) (r : Bool) (hr : r = true ↔ IsP cs s n) : Gives env4 312 [sl5 false lab cs sp, .str s, .int .i64 n] ob pb (.bool r, ob) := by
  have hlen : (cs.map C.row).length = cs.length := by simp
  refine gives_code (f := tf312) rfl ?_
  conv => whnf
  refine sel_split (fun h => ?_) (fun h => ?_)
  · conv => whnf
    rw [hlen] at h
    have h : cs = [] := List.length_eq_zero_iff.1 (by simp at h; simp [h])
    subst h
    refine ⟨rfl, bool_of hr ⟨fun e => (nomatch e), fun ⟨c, r, e, _⟩ => by cases e⟩, rfl⟩
  · conv => whnf
    rw [hlen] at h
    obtain ⟨c, t, rfl⟩ : ∃ c r, cs = c :: r := by
      cases cs with
      | nil => simp at h
      | cons c r => exact ⟨c, r, rfl⟩
    have hP : IsP (c :: t) s n ↔ c.text = s ∧ (c.k = 3 ∧ c.n = n ∨ n = 0 ∧ c.k = 2) := by
      constructor
      · rintro ⟨c', r', e, h⟩; cases e; exact h
      · intro h; exact ⟨c, t, rfl, h⟩
    rw [hP] at hr
    refine ⟨_, ⟨by omega, idx_row (cs := c :: t) (i := 0) rfl⟩, ?_⟩
    conv => whnf
    refine sel_split (fun h1 => ?_) (fun h1 => ?_)
    · conv => whnf
      have h1 : c.text ≠ s := by simpa [bytes_eq] using h1
      refine ⟨rfl, bool_of hr ⟨fun e => (nomatch e), fun h => absurd h.1 h1⟩, rfl⟩
    · conv => whnf
      have h1 : c.text = s := by simpa [bytes_eq] using h1
      refine ⟨_, ⟨by omega, idx_row (cs := c :: t) (i := 0) rfl⟩, ?_⟩
      conv => whnf
      refine sel_split (fun h2 => ?_) (fun h2 => ?_)
      · conv => whnf
        have h2 : c.k = 3 := by simpa using h2
        refine ⟨_, ⟨by omega, idx_row (cs := c :: t) (i := 0) rfl⟩, ?_⟩
        conv => whnf
        refine sel_split (fun h3 => ?_) (fun h3 => ?_)
        · conv => whnf
          have h3 : c.n = n := by simpa using h3
          exact ⟨rfl, bool_of hr ⟨fun _ => ⟨h1, .inl ⟨h2, h3⟩⟩, fun _ => rfl⟩, rfl⟩
        · conv => whnf
          have h3 : c.n ≠ n := by simpa using h3
          refine sel_split (fun h4 => ?_) (fun h4 => ?_)
          · conv => whnf
            refine ⟨_, ⟨by omega, idx_row (cs := c :: t) (i := 0) rfl⟩, ?_⟩
            conv => whnf
            refine ⟨rfl, bool_of hr ⟨fun e => ?_, fun h => ?_⟩, rfl⟩
            · have e : c.k = 2 := by simpa using e
              omega
            · exfalso; rcases h.2 with g | g
              · exact h3 g.2
              · omega
          · conv => whnf
            have h4 : n ≠ 0 := by simpa using h4
            refine ⟨rfl, bool_of hr ⟨fun e => (nomatch e), fun h => ?_⟩, rfl⟩
            exfalso; rcases h.2 with g | g
            · exact h3 g.2
            · exact h4 g.1
      · conv => whnf
        have h2 : c.k ≠ 3 := by simpa using h2
        refine sel_split (fun h4 => ?_) (fun h4 => ?_)
        · conv => whnf
          have h4 : n = 0 := by simpa using h4
          refine ⟨_, ⟨by omega, idx_row (cs := c :: t) (i := 0) rfl⟩, ?_⟩
          conv => whnf
          refine ⟨rfl, bool_of hr ⟨fun e => ?_, fun h => ?_⟩, rfl⟩
          · have e : c.k = 2 := by simpa using e
            exact ⟨h1, .inr ⟨h4, e⟩⟩
          · rcases h.2 with g | g
            · exact absurd g.1 h2
            · simp [g.2]
        · conv => whnf
          have h4 : n ≠ 0 := by simpa using h4
          refine ⟨rfl, bool_of hr ⟨fun e => (nomatch e), fun h => ?_⟩, rfl⟩
          exfalso; rcases h.2 with g | g
          · exact h2 g.1
          · exact h4 g.1
end Tree

set_option autoImplicit false
set_option linter.unusedVariables false
set_option linter.unusedSimpArgs false
namespace Tree
open Go
set_option maxHeartbeats 4000000
set_option maxRecDepth 100000
def atS : ByteArray := ⟨#[64]⟩
def trueS : ByteArray := ⟨#[116, 114, 117, 101]⟩
open Classical in
/-- What a right goal calls. -/
noncomputable def callC (cs : List C) : Option PV :=
  if RightP cs then
    match predC (if IsP cs atS 2 then (argsR cs).headD [] else cs) with
    | some q => if q = (trueS, 0) then none else some q
    | none => none
  else none
open Classical in
noncomputable def addP (acc : List PV) (v : PV) : List PV := if v ∈ acc then acc else acc ++ [v]
noncomputable def addO (acc : List PV) (v : Option PV) : List PV := match v with
  | some v => addP acc v
  | none => acc
noncomputable def callsC (acc : List PV) (ts : List T1) : List PV := ts.foldl (fun acc t => addO acc (callC t.cs)) acc
theorem noRefM (n : Nat) (l : List (List C)) : (sl1 true 0 (l.map T1.mk0) []).noRef n = true := by
  have := noRef1 n true 0 (l.map T1.mk0)
  have e : (l.map T1.mk0).map T1.own = l.map T1.mk0 := by rw [List.map_map]; rfl
  rw [e] at this; exact this
end Tree

set_option autoImplicit false
set_option linter.unusedVariables false
set_option linter.unusedSimpArgs false
namespace Tree
open Go
set_option maxHeartbeats 4000000
set_option maxRecDepth 100000
structure Cl where
  hlab : Nat
  head : List C
  hsp : List (List LV)
  glab : Nat
  guards : List T1
  gsp : List (List LV)
  blab : Nat
  body : List T1
  bsp : List (List LV)
  locals : Int
def Cl.row (c : Cl) : List LV := [sl5 false c.hlab c.head c.hsp, sl1 false c.glab c.guards c.gsp, sl1 false c.blab c.body c.bsp, .int .i64 c.locals]
structure Cl.fine (c : Cl) : Prop where
  hl : c.head.length ≤ 1048576
  hf : ∀ d ∈ c.head, d.fine
  gl : c.guards.length ≤ 1048576
  gf : ∀ t ∈ c.guards, t.fine
  bl : c.body.length ≤ 1048576
  bf : ∀ t ∈ c.body, t.fine
  hn : ∀ n, LV.noRefss n c.hsp = true
  gn : ∀ t ∈ c.guards, ∀ n, LV.noRefss n t.sp = true
  bn : ∀ t ∈ c.body, ∀ n, LV.noRefss n t.sp = true
  gc : ∀ t ∈ c.guards, t.cs.length ≤ 1048576
  bc : ∀ t ∈ c.body, t.cs.length ≤ 1048576
open Classical in
noncomputable def clausesN (p : List Cl) (q : PV) (i : Nat) : List Nat := (List.range i).filter fun j => decide (∃ c, p[j]? = some c ∧ predC c.head = some q)
noncomputable def clausesC (p : List Cl) (q : PV) : List Nat := clausesN p q p.length
noncomputable def callsAt (p : List Cl) (k : Nat) : List PV := match p[k]? with
  | some c => callsC [] c.body
  | none => []
end Tree

set_option autoImplicit false
set_option linter.unusedVariables false
set_option linter.unusedSimpArgs false
namespace Tree
open Go
set_option maxHeartbeats 4000000
set_option maxRecDepth 100000
noncomputable def addL (o ds : List PV) : List PV := ds.foldl addP o
noncomputable def kids (p : List Cl) (q : PV) : List PV := (clausesC p q).flatMap (callsAt p)
theorem mem_addP {o : List PV} {v x : PV} : x ∈ addP o v ↔ x ∈ o ∨ x = v := by
  unfold addP; split
  · rename_i h
    constructor
    · exact .inl
    · rintro (h1 | rfl)
      · exact h1
      · exact h
  · simp
theorem mem_addL : ∀ (ds o : List PV) (x : PV), x ∈ addL o ds ↔ x ∈ o ∨ x ∈ ds
  | [], o, x => by simp [addL]
  | d :: ds, o, x => by
    have e : addL o (d :: ds) = addL (addP o d) ds := rfl
    rw [e, mem_addL ds, mem_addP, List.mem_cons, or_assoc]
theorem nodup_addP {o : List PV} {v : PV} (h : o.Nodup) : (addP o v).Nodup := by
  unfold addP; split
  · exact h
  · rename_i hn
    rw [List.nodup_append]
    refine ⟨h, by simp, ?_⟩
    intro a ha b hb e
    simp at hb; subst hb; subst e; exact hn ha
theorem nodup_addL : ∀ (ds o : List PV), o.Nodup → (addL o ds).Nodup
  | [], o, h => h
  | d :: ds, o, h => nodup_addL ds _ (nodup_addP h)
theorem pre_addP (o : List PV) (v : PV) : ∃ e, addP o v = o ++ e := by
  unfold addP; split
  · exact ⟨[], by simp⟩
  · exact ⟨[v], rfl⟩
theorem pre_addL : ∀ (ds o : List PV), ∃ e, addL o ds = o ++ e
  | [], o => ⟨[], by simp [addL]⟩
  | d :: ds, o => by
    obtain ⟨e, h⟩ := pre_addP o d
    obtain ⟨e', h'⟩ := pre_addL ds (addP o d)
    exact ⟨e ++ e', by rw [← List.append_assoc, ← h, ← h']; rfl⟩
/-- All that may ever be reached. -/
noncomputable def allOf (p : List Cl) (base : List PV) : List PV := base ++ p.flatMap fun c => callsC [] c.body
theorem callsAt_all {p : List Cl} {base : List PV} {k : Nat} {x : PV} (h : x ∈ callsAt p k) : x ∈ allOf p base := by
  unfold callsAt at h
  split at h
  · rename_i c hc
    exact List.mem_append_right _ (List.mem_flatMap.2 ⟨c, List.mem_of_getElem? hc, h⟩)
  · cases h
theorem kids_all {p : List Cl} {base : List PV} {q x : PV} (h : x ∈ kids p q) : x ∈ allOf p base := by
  obtain ⟨k, _, h2⟩ := List.mem_flatMap.1 h
  exact callsAt_all h2
structure Good (p : List Cl) (base o : List PV) (i : Nat) : Prop where
  le : i ≤ o.length
  nd : o.Nodup
  sub : ∀ x ∈ o, x ∈ allOf p base
  bs : ∀ x ∈ base, x ∈ o
  cl : ∀ (j : Nat) q, j < i → o[j]? = some q → ∀ d ∈ kids p q, d ∈ o
  mn : ∀ X : List PV, (∀ x ∈ base, x ∈ X) → (∀ q ∈ X, ∀ d ∈ kids p q, d ∈ X) → ∀ x ∈ o, x ∈ X
theorem Good.len {p : List Cl} {base o : List PV} {i : Nat} (h : Good p base o i) : o.length ≤ (allOf p base).length := h.nd.length_le_of_subset fun x hx => h.sub x hx
theorem Good.step {p : List Cl} {base o : List PV} {i : Nat} {q : PV} (h : Good p base o i) (hq : o[i]? = some q) : Good p base (addL o (kids p q)) (i + 1) := by
  obtain ⟨e, he⟩ := pre_addL (kids p q) o
  have hi : i < o.length := (List.getElem?_eq_some_iff.1 hq).1
  refine ⟨?_, nodup_addL _ _ h.nd, fun x hx => ?_, fun x hx => (mem_addL _ _ _).2 (.inl (h.bs x hx)), fun j q' hj hq' d hd => ?_, fun X h1 h2 x hx => ?_⟩
  · rw [he, List.length_append]; omega
  · rcases (mem_addL _ _ _).1 hx with g | g
    · exact h.sub x g
    · exact kids_all g
  · have hlt : j < o.length := by omega
    rw [he, List.getElem?_append_left hlt] at hq'
    rcases Nat.lt_or_ge j i with hji | hji
    · exact (mem_addL _ _ _).2 (.inl (h.cl j q' hji hq' d hd))
    · have : j = i := by omega
      subst this
      rw [hq] at hq'; cases hq'
      exact (mem_addL _ _ _).2 (.inr hd)
  · rcases (mem_addL _ _ _).1 hx with g | g
    · exact h.mn X h1 h2 x g
    · exact h2 q (h.mn X h1 h2 q (List.mem_of_getElem? hq)) x g
/-- What is reached: closed, no more than that. -/
structure Reach (p : List Cl) (base o : List PV) : Prop where
  bs : ∀ x ∈ base, x ∈ o
  cl : ∀ q ∈ o, ∀ d ∈ kids p q, d ∈ o
  mn : ∀ X : List PV, (∀ x ∈ base, x ∈ X) → (∀ q ∈ X, ∀ d ∈ kids p q, d ∈ X) → ∀ x ∈ o, x ∈ X
end Tree

set_option autoImplicit false
set_option linter.unusedVariables false
set_option linter.unusedSimpArgs false
namespace Tree
open Go
set_option maxHeartbeats 4000000
set_option maxRecDepth 100000
/-- The number of the first one with p, or -1. -/
def FirstJ {α : Type} (xs : List α) (p : α → Prop) (j : Int) : Prop := (∃ (i : Nat) (x : α), j = i ∧ xs[i]? = some x ∧ p x ∧ ∀ (k : Nat) y, k < i → xs[k]? = some y → ¬ p y) ∨ j = -1 ∧ ∀ x ∈ xs, ¬ p x
theorem firstJ {α : Type} (xs : List α) (p : α → Prop) : ∃ j, FirstJ xs p j := by
  by_cases h : ∃ c ∈ xs, p c
  · have : ∃ (i : Nat) (c : α), xs[i]? = some c ∧ p c ∧ ∀ (k : Nat) d, k < i → xs[k]? = some d → ¬ p d := by
      apply Classical.byContradiction
      intro hn
      have all : ∀ n : Nat, ∀ (k : Nat) d, k < n → xs[k]? = some d → ¬ p d := by
        intro n
        induction n with
        | zero => intro k d hk; omega
        | succ n ih =>
          intro k d hk hd hp
          by_cases hkn : k < n
          · exact ih k d hkn hd hp
          · have : k = n := by omega
            subst this
            exact hn ⟨k, d, hd, hp, ih⟩
      obtain ⟨c, hc, hp⟩ := h
      obtain ⟨i, hi, e⟩ := List.getElem_of_mem hc
      exact all (i + 1) i c (by omega) (by rw [List.getElem?_eq_getElem hi, e]) hp
    obtain ⟨i, c, h1, h2, h3⟩ := this
    exact ⟨i, .inl ⟨i, c, rfl, h1, h2, h3⟩⟩
  · exact ⟨-1, .inr ⟨rfl, fun x hx hp => h ⟨x, hx, hp⟩⟩⟩
theorem FirstJ.at {α : Type} {xs : List α} {p : α → Prop} {j : Int} (h : FirstJ xs p j) {i : Nat} {x : α} (hx : xs[i]? = some x) (hp : p x) (hn : ∀ (k : Nat) y, k < i → xs[k]? = some y → ¬ p y) : j = i := by
  rcases h with ⟨i', x', rfl, h1, h2, h3⟩ | ⟨rfl, h1⟩
  · rcases Nat.lt_trichotomy i i' with h7 | h7 | h7
    · exact absurd hp (h3 i x h7 hx)
    · rw [h7]
    · exact absurd h2 (hn i' x' h7 h1)
  · exact absurd hp (h1 x (List.mem_of_getElem? hx))
theorem FirstJ.none {α : Type} {xs : List α} {p : α → Prop} {j : Int} (h : FirstJ xs p j) (hn : ∀ (k : Nat) y, k < xs.length → xs[k]? = some y → ¬ p y) : j = -1 := by
  rcases h with ⟨i', x', rfl, h1, h2, h3⟩ | ⟨rfl, h1⟩
  · exact absurd h2 (hn i' x' (List.getElem?_eq_some_iff.1 h1).1 h1)
  · rfl
theorem FirstJ.ge {α : Type} {xs : List α} {p : α → Prop} {j : Int} (h : FirstJ xs p j) : j ≥ 0 ↔ ∃ x ∈ xs, p x := by
  rcases h with ⟨i', x', rfl, h1, h2, h3⟩ | ⟨rfl, h1⟩
  · exact ⟨fun _ => ⟨x', List.mem_of_getElem? h1, h2⟩, fun _ => by omega⟩
  · exact ⟨fun h => by omega, fun ⟨x, hx, hp⟩ => absurd hp (h1 x hx)⟩
def SIx (v x : LV) (n : Nat) (i : Int) (ob : Obs) : WSt := ⟨.val v :: .val x :: List.replicate 5 (.val .undef) ++ .val (.int .i64 n) :: .val (.int .i64 i) :: List.replicate 10 (.val .undef), ob, []⟩
theorem idx53_ok (g  lab : Nat) (xs : List T1) (sp : List (List LV)) (p : T1 → Prop) (hl : xs.length ≤ 4611686018427387904) (hg : ∀ x ∈ xs, ∀ ob pb (r : Bool), (r = true ↔ p x) → Gives env4 g (sl5 false x.lab x.cs x.sp :: []) ob pb (.bool r, ob)) (ob : Obs) (pb : Nat) :
    ∃ j : Int, FirstJ xs p j ∧ Gives env4 53 [sl1 false lab xs sp, .fn g []] ob pb (.int .i64 j, ob) := by
  obtain ⟨j, hj⟩ := firstJ xs p
  refine ⟨j, hj, ?_⟩
  have hlen : (xs.map T1.row).length = xs.length := by simp
  refine gives_code (f := tf53) rfl ?_
  conv => whnf
  refine loop_abs (S := fun i : Nat => SIx (sl1 false lab xs sp) (.fn g []) (xs.map T1.row).length i ob) (m := fun i => xs.length - i) (P := fun i => i ≤ xs.length ∧ ∀ (k : Nat) d, k < i → xs[k]? = some d → ¬ p d) ?_ 0 ⟨Nat.zero_le _, fun k s h => by omega⟩ rfl
  rintro R i ⟨hi, hP⟩ hN hE hR
  conv => whnf
  refine sel_split (fun h => ?_) (fun h => ?_)
  · conv => whnf
    have h := of_decide_eq_true h
    rw [hlen] at h
    obtain ⟨c, hc⟩ : ∃ c, xs[i]? = some c := ⟨_, List.getElem?_eq_getElem (show i < xs.length by omega)⟩
    refine ⟨_, ⟨by omega, idx_t hc⟩, ?_⟩
    conv => whnf
    obtain ⟨q, hq⟩ := boolOf (p c)
    refine ⟨_, _, hg c (List.mem_of_getElem? hc) ob _ q hq, fun _ => rfl, ?_⟩
    conv => whnf
    refine sel_split (fun h2 => ?_) (fun h2 => ?_)
    · conv => whnf
      refine hR _ ?_
      conv => whnf
      refine ⟨rfl, ?_, rfl⟩
      rw [hj.at hc (hq.1 h2) hP]; rfl
    · conv => whnf
      have e : IntKind.i64.wrap ((i : Int) + 1) = ((i + 1 : Nat) : Int) := by rw [wrap64] <;> omega
      refine hN (i + 1) _ ⟨by omega, fun k d hk hd => ?_⟩ (by omega) ?_
      · by_cases hki : k = i
        · subst hki; rw [hc] at hd; cases hd
          intro hp; rw [hq.2 hp] at h2; cases h2
        · exact hP k d (by omega) hd
      · rw [← e]; rfl
  · conv => whnf
    have h := of_decide_eq_false h
    rw [hlen] at h
    refine hE _ _ ?_
    conv => whnf
    refine ⟨rfl, ?_, rfl⟩
    rw [hj.none fun k d hk => hP k d (by omega)]; rfl
theorem any33_ok (g  lab : Nat) (xs : List T1) (sp : List (List LV)) (p : T1 → Prop) (hl : xs.length ≤ 4611686018427387904) (hg : ∀ x ∈ xs, ∀ ob pb (r : Bool), (r = true ↔ p x) → Gives env4 g (sl5 false x.lab x.cs x.sp :: []) ob pb (.bool r, ob)) (ob : Obs) (pb : Nat) (r : Bool) (hr : r = true ↔ ∃ x ∈ xs, p x) :
    Gives env4 33 [sl1 false lab xs sp, .fn g []] ob pb (.bool r, ob) := by
  obtain ⟨j, hj, hg⟩ := idx53_ok g  lab  xs sp p hl hg ob (max pb ob.length)
  refine gives_code (f := tf33) rfl ?_
  conv => whnf
  refine ⟨_, _, hg, fun _ => rfl, ?_⟩
  conv => whnf
  refine ⟨rfl, bool_of hr ?_, rfl⟩
  rw [decide_eq_true_iff, hj.ge]
theorem idx53p_ok (g ca co lab : Nat) (cb : List LV) (xs : List T1) (sp : List (List LV)) (p : T1 → Prop) (hl : xs.length ≤ 4611686018427387904) (hg : ∀ x ∈ xs, ∀ ob pb (r : Bool), (r = true ↔ p x) → Gives env4 g (sl5 false x.lab x.cs x.sp :: [.iptr ca cb co]) ob pb (.bool r, ob)) (ob : Obs) (pb : Nat) :
    ∃ j : Int, FirstJ xs p j ∧ Gives env4 53 [sl1 false lab xs sp, .fn g [.iptr ca cb co]] ob pb (.int .i64 j, ob) := by
  obtain ⟨j, hj⟩ := firstJ xs p
  refine ⟨j, hj, ?_⟩
  have hlen : (xs.map T1.row).length = xs.length := by simp
  refine gives_code (f := tf53) rfl ?_
  conv => whnf
  refine loop_abs (S := fun i : Nat => SIx (sl1 false lab xs sp) (.fn g [.iptr ca cb co]) (xs.map T1.row).length i ob) (m := fun i => xs.length - i) (P := fun i => i ≤ xs.length ∧ ∀ (k : Nat) d, k < i → xs[k]? = some d → ¬ p d) ?_ 0 ⟨Nat.zero_le _, fun k s h => by omega⟩ rfl
  rintro R i ⟨hi, hP⟩ hN hE hR
  conv => whnf
  refine sel_split (fun h => ?_) (fun h => ?_)
  · conv => whnf
    have h := of_decide_eq_true h
    rw [hlen] at h
    obtain ⟨c, hc⟩ : ∃ c, xs[i]? = some c := ⟨_, List.getElem?_eq_getElem (show i < xs.length by omega)⟩
    refine ⟨_, ⟨by omega, idx_t hc⟩, ?_⟩
    conv => whnf
    obtain ⟨q, hq⟩ := boolOf (p c)
    refine ⟨_, _, hg c (List.mem_of_getElem? hc) ob _ q hq, fun _ => rfl, ?_⟩
    conv => whnf
    refine sel_split (fun h2 => ?_) (fun h2 => ?_)
    · conv => whnf
      refine hR _ ?_
      conv => whnf
      refine ⟨rfl, ?_, rfl⟩
      rw [hj.at hc (hq.1 h2) hP]; rfl
    · conv => whnf
      have e : IntKind.i64.wrap ((i : Int) + 1) = ((i + 1 : Nat) : Int) := by rw [wrap64] <;> omega
      refine hN (i + 1) _ ⟨by omega, fun k d hk hd => ?_⟩ (by omega) ?_
      · by_cases hki : k = i
        · subst hki; rw [hc] at hd; cases hd
          intro hp; rw [hq.2 hp] at h2; cases h2
        · exact hP k d (by omega) hd
      · rw [← e]; rfl
  · conv => whnf
    have h := of_decide_eq_false h
    rw [hlen] at h
    refine hE _ _ ?_
    conv => whnf
    refine ⟨rfl, ?_, rfl⟩
    rw [hj.none fun k d hk => hP k d (by omega)]; rfl
theorem any33p_ok (g ca co lab : Nat) (cb : List LV) (xs : List T1) (sp : List (List LV)) (p : T1 → Prop) (hl : xs.length ≤ 4611686018427387904) (hg : ∀ x ∈ xs, ∀ ob pb (r : Bool), (r = true ↔ p x) → Gives env4 g (sl5 false x.lab x.cs x.sp :: [.iptr ca cb co]) ob pb (.bool r, ob)) (ob : Obs) (pb : Nat) (r : Bool) (hr : r = true ↔ ∃ x ∈ xs, p x) :
    Gives env4 33 [sl1 false lab xs sp, .fn g [.iptr ca cb co]] ob pb (.bool r, ob) := by
  obtain ⟨j, hj, hg⟩ := idx53p_ok g ca co lab cb xs sp p hl hg ob (max pb ob.length)
  refine gives_code (f := tf33) rfl ?_
  conv => whnf
  refine ⟨_, _, hg, fun _ => rfl, ?_⟩
  conv => whnf
  refine ⟨rfl, bool_of hr ?_, rfl⟩
  rw [decide_eq_true_iff, hj.ge]
end Tree

set_option autoImplicit false
set_option linter.unusedVariables false
set_option linter.unusedSimpArgs false
namespace Tree
open Go
set_option maxHeartbeats 4000000
set_option maxRecDepth 100000
def bs (l : List Nat) : ByteArray := ⟨(l.map (UInt8.ofNat ·)).toArray⟩
def twos : List ByteArray := [⟨#[43]⟩, ⟨#[45]⟩, ⟨#[42]⟩, ⟨#[100, 105, 118]⟩, ⟨#[109, 111, 100]⟩, ⟨#[109, 105, 110]⟩, ⟨#[109, 97, 120]⟩]
def absS : ByteArray := ⟨#[97, 98, 115]⟩
def SumOp (c : C) : Prop := (c.text ∈ twos ∧ c.n = 2) ∨ (c.text = absS ∧ c.n = 1)
inductive SumP : List C → Prop
  | leaf {c : C} {r : List C} (h : c.k = 1 ∨ c.k = 4) : SumP (c :: r)
  | op {c : C} {r : List C} (hk : c.k = 3) (ho : SumOp c) (ha : ∀ a ∈ argsR (c :: r), SumP a) : SumP (c :: r)
theorem sum_iff {c : C} {r : List C} : SumP (c :: r) ↔ (c.k = 1 ∨ c.k = 4) ∨ (c.k = 3 ∧ SumOp c ∧ ∀ a ∈ argsR (c :: r), SumP a) := by
  constructor
  · intro h
    cases h with
    | leaf h => exact .inl h
    | op h1 h2 h3 => exact .inr ⟨h1, h2, h3⟩
  · rintro (h | ⟨h1, h2, h3⟩)
    · exact .leaf h
    · exact .op h1 h2 h3
theorem args_small {c : C} {r : List C} (h : RightP (c :: r)) (hk : c.k = 3) {a : List C} (ha : a ∈ argsR (c :: r)) : a.length < (c :: r).length ∧ RightP a ∧ ∀ d ∈ a, d ∈ c :: r := by
  obtain ⟨f1, f2, f3, f4⟩ := args_facts h hk
  refine ⟨?_, f4 a ha, fun d hd => List.mem_cons_of_mem _ (by rw [← f3]; exact List.mem_flatten.2 ⟨a, ha, hd⟩)⟩
  have : a.length ≤ (argsR (c :: r)).flatten.length := by
    have hs : ∀ (l : List (List C)), a ∈ l → a.length ≤ l.flatten.length := by
      intro l
      induction l with
      | nil => intro h; cases h
      | cons x l ih =>
        intro h
        simp only [List.flatten_cons, List.length_append]
        rcases List.mem_cons.1 h with rfl | h
        · omega
        · have := ih h; omega
    exact hs _ ha
  rw [f3] at this
  simp only [List.length_cons]; omega
theorem argsR_len (cs : List C) : (argsR cs).length ≤ 8 := by
  by_cases h : StructP cs
  · obtain ⟨hR, c, r, rfl, hk⟩ := h
    obtain ⟨_, _, _, h4⟩ := (right_walk _).1 hR
    rw [(args_facts hR hk).2.1]
    exact (ok_parts (h4 c (List.mem_cons_self ..))).2
  · unfold argsR; rw [if_neg h]; simp

theorem isSum_ok : ∀ (n : Nat) (lab : Nat) (cs : List C) (sp : List (List LV)), cs.length ≤ n → RightP cs → (∀ c ∈ cs, c.fine) → ∀ (ob : Obs) (pb : Nat) (r : Bool), (r = true ↔ SumP cs) → Gives env4 301 [sl5 false lab cs sp] ob pb (.bool r, ob)
  | 0, lab, cs, sp, hn, hR, _, ob, pb, r, _ => by
    have := hR.1
    cases cs with
    | nil => exact absurd rfl this
    | cons c r => simp at hn
  | n + 1, lab, [], sp, hn, hR, _, ob, pb, r, _ => absurd rfl hR.1
  | n + 1, lab, c :: r, sp, hn, hR, hf, ob, pb, res, hr => by
    have hl : (c :: r).length ≤ 4611686018427387904 := by have := hR.2.1; omega
    refine gives_code (f := tf301) rfl ?_
    conv => whnf
    refine ⟨_, ⟨by omega, idx_row (cs := c :: r) (i := 0) rfl⟩, ?_⟩
    conv => whnf
    refine sel_split (fun h1 => ?_) (fun h1 => ?_)
    · conv => whnf
      have h1 : c.k = 1 := by simpa using h1
      exact ⟨rfl, bool_of hr ⟨fun _ => .leaf (.inl h1), fun _ => rfl⟩, rfl⟩
    · conv => whnf
      have h1 : c.k ≠ 1 := by simpa using h1
      refine sel_split (fun h2 => ?_) (fun h2 => ?_)
      · conv => whnf
        have h2 : c.k = 4 := by simpa using h2
        exact ⟨rfl, bool_of hr ⟨fun _ => .leaf (.inr h2), fun _ => rfl⟩, rfl⟩
      · conv => whnf
        have h2 : c.k ≠ 4 := by simpa using h2
        refine sel_split (fun h3 => ?_) (fun h3 => ?_)
        · have hk3 : c.k = 3 := by simpa using h3
          have hany : ∀ (ob : Obs) (pb : Nat) (r' : Bool), (r' = true ↔ ∃ t ∈ (argsR (c :: r)).map T1.mk0, ¬ SumP t.cs) → Gives env4 33 [sl1 false 0 ((argsR (c :: r)).map T1.mk0) [], .fn 326 []] ob pb (.bool r', ob) := by
            intro ob pb r' hr'
            refine any33_ok 326 0 ((argsR (c :: r)).map T1.mk0) [] (fun t => ¬ SumP t.cs) (by rw [List.length_map]; have := argsR_len (c :: r); omega) (fun t ht ob pb q hq => ?_) ob pb r' hr'
            obtain ⟨a, ha, rfl⟩ := List.mem_map.1 ht
            obtain ⟨s1, s2, s3⟩ := args_small hR hk3 ha
            obtain ⟨q', hq'⟩ := boolOf (SumP a)
            refine gives_code (f := tf326) rfl ?_
            conv => whnf
            refine ⟨_, _, isSum_ok n 0 a [] (by omega) s2 (fun d hd => hf d (s3 d hd)) ob _ q' hq', fun _ => rfl, ?_⟩
            conv => whnf
            refine ⟨rfl, bool_of hq ?_, rfl⟩
            show (!q') = true ↔ ¬ SumP a
            rw [← hq']; cases q' <;> simp
          conv => whnf
          obtain ⟨q, hq⟩ := boolOf (c.text ∈ twos)
          obtain ⟨q2, hq2⟩ := boolOf (∃ t ∈ (argsR (c :: r)).map T1.mk0, ¬ SumP t.cs)
          refine ⟨_, _, (hasStr_ok 0 twos c.text (by decide) ob _ q hq).le le14, fun _ => rfl, ?_⟩
          conv => whnf
          refine sel_split (fun h6 => ?_) (fun h6 => ?_)
          · conv => whnf
            refine sel_split (fun h7 => ?_) (fun h7 => ?_)
            · conv => whnf
              have h7 : c.n = 2 := by simpa using h7
              refine ⟨_, _, (args_ok lab (c :: r) sp hl hf ob _).le le14, fun _ => noRefM _ _, ?_⟩
              conv => whnf
              refine ⟨_, _, hany ob _ q2 hq2, fun _ => rfl, ?_⟩
              conv => whnf
              refine ⟨rfl, bool_of hr ?_, rfl⟩
              rw [sum_iff]
              constructor
              · intro e
                have e : q2 = false := by simpa using e
                refine .inr ⟨hk3, .inl ⟨hq.1 h6, h7⟩, fun a ha => Classical.byContradiction fun hn => ?_⟩
                have := hq2.2 ⟨T1.mk0 a, List.mem_map.2 ⟨a, ha, rfl⟩, hn⟩
                rw [e] at this; cases this
              · rintro (h | ⟨_, _, h⟩)
                · omega
                · have : q2 = false := by
                    cases hq : q2 with
                    | false => rfl
                    | true =>
                      obtain ⟨t, ht, hn⟩ := hq2.1 hq
                      obtain ⟨a, ha, rfl⟩ := List.mem_map.1 ht
                      exact absurd (h a ha) hn
                  rw [this]; rfl
            · conv => whnf
              have h7 : c.n ≠ 2 := by simpa using h7
              refine sel_split (fun h4 => ?_) (fun h4 => ?_)
              · conv => whnf
                have h4 : c.text = absS := by
                  have := eq_of_beq h4
                  exact bytes_eq.1 this
                refine sel_split (fun h5 => ?_) (fun h5 => ?_)
                · conv => whnf
                  have h5 : c.n = 1 := by simpa using h5
                  refine ⟨_, _, (args_ok lab (c :: r) sp hl hf ob _).le le14, fun _ => noRefM _ _, ?_⟩
                  conv => whnf
                  refine ⟨_, _, hany ob _ q2 hq2, fun _ => rfl, ?_⟩
                  conv => whnf
                  refine ⟨rfl, bool_of hr ?_, rfl⟩
                  rw [sum_iff]
                  constructor
                  · intro e
                    have e : q2 = false := by simpa using e
                    refine .inr ⟨hk3, .inr ⟨h4, h5⟩, fun a ha => Classical.byContradiction fun hn => ?_⟩
                    have := hq2.2 ⟨T1.mk0 a, List.mem_map.2 ⟨a, ha, rfl⟩, hn⟩
                    rw [e] at this; cases this
                  · rintro (h | ⟨_, _, h⟩)
                    · omega
                    · have : q2 = false := by
                        cases hq : q2 with
                        | false => rfl
                        | true =>
                          obtain ⟨t, ht, hn⟩ := hq2.1 hq
                          obtain ⟨a, ha, rfl⟩ := List.mem_map.1 ht
                          exact absurd (h a ha) hn
                      rw [this]; rfl
                · conv => whnf
                  have h5 : c.n ≠ 1 := by simpa using h5
                  refine ⟨rfl, bool_of hr ⟨fun e => (nomatch e), fun h => ?_⟩, rfl⟩
                  exfalso
                  rcases sum_iff.1 h with h | ⟨_, h, _⟩
                  · omega
                  · rcases h with h | h
                    · exact h7 h.2
                    · exact h5 h.2
              · conv => whnf
                have h4 : c.text ≠ absS := fun e => by
                  have : (c.text.toList == absS.toList) = true := by rw [beq_iff_eq, bytes_eq]; exact e
                  have h4 : (c.text.toList == absS.toList) = false := h4
                  rw [this] at h4; cases h4
                refine ⟨rfl, bool_of hr ⟨fun e => (nomatch e), fun h => ?_⟩, rfl⟩
                exfalso
                rcases sum_iff.1 h with h | ⟨_, h, _⟩
                · omega
                · rcases h with h | h
                  · exact h7 h.2
                  · exact h4 h.1
          · conv => whnf
            have h6 : c.text ∉ twos := fun hm => by rw [hq.2 hm] at h6; cases h6
            refine sel_split (fun h4 => ?_) (fun h4 => ?_)
            · conv => whnf
              have h4 : c.text = absS := by
                have := eq_of_beq h4
                exact bytes_eq.1 this
              refine sel_split (fun h5 => ?_) (fun h5 => ?_)
              · conv => whnf
                have h5 : c.n = 1 := by simpa using h5
                refine ⟨_, _, (args_ok lab (c :: r) sp hl hf ob _).le le14, fun _ => noRefM _ _, ?_⟩
                conv => whnf
                refine ⟨_, _, hany ob _ q2 hq2, fun _ => rfl, ?_⟩
                conv => whnf
                refine ⟨rfl, bool_of hr ?_, rfl⟩
                rw [sum_iff]
                constructor
                · intro e
                  have e : q2 = false := by simpa using e
                  refine .inr ⟨hk3, .inr ⟨h4, h5⟩, fun a ha => Classical.byContradiction fun hn => ?_⟩
                  have := hq2.2 ⟨T1.mk0 a, List.mem_map.2 ⟨a, ha, rfl⟩, hn⟩
                  rw [e] at this; cases this
                · rintro (h | ⟨_, _, h⟩)
                  · omega
                  · have : q2 = false := by
                      cases hq : q2 with
                      | false => rfl
                      | true =>
                        obtain ⟨t, ht, hn⟩ := hq2.1 hq
                        obtain ⟨a, ha, rfl⟩ := List.mem_map.1 ht
                        exact absurd (h a ha) hn
                    rw [this]; rfl
              · conv => whnf
                have h5 : c.n ≠ 1 := by simpa using h5
                refine ⟨rfl, bool_of hr ⟨fun e => (nomatch e), fun h => ?_⟩, rfl⟩
                exfalso
                rcases sum_iff.1 h with h | ⟨_, h, _⟩
                · omega
                · rcases h with h | h
                  · exact h6 h.1
                  · exact h5 h.2
            · conv => whnf
              have h4 : c.text ≠ absS := fun e => by
                have : (c.text.toList == absS.toList) = true := by rw [beq_iff_eq, bytes_eq]; exact e
                have h4 : (c.text.toList == absS.toList) = false := h4
                rw [this] at h4; cases h4
              refine ⟨rfl, bool_of hr ⟨fun e => (nomatch e), fun h => ?_⟩, rfl⟩
              exfalso
              rcases sum_iff.1 h with h | ⟨_, h, _⟩
              · omega
              · rcases h with h | h
                · exact h6 h.1
                · exact h4 h.1
        · conv => whnf
          have h3 : c.k ≠ 3 := by simpa using h3
          refine ⟨rfl, bool_of hr ⟨fun e => (nomatch e), fun h => ?_⟩, rfl⟩
          exfalso
          rcases sum_iff.1 h with h | ⟨h, _⟩
          · omega
          · exact h3 h
end Tree

set_option autoImplicit false
set_option linter.unusedVariables false
set_option linter.unusedSimpArgs false
namespace Tree
open Go
set_option maxHeartbeats 4000000
set_option maxRecDepth 100000
def comps : List ByteArray := [⟨#[60]⟩, ⟨#[61, 60]⟩, ⟨#[62]⟩, ⟨#[62, 61]⟩, ⟨#[61, 58, 61]⟩, ⟨#[61, 92, 61]⟩]
def tests : List ByteArray := [⟨#[105, 110, 116, 101, 103, 101, 114]⟩, ⟨#[97, 116, 111, 109]⟩, ⟨#[99, 111, 109, 112, 111, 117, 110, 100]⟩, ⟨#[107, 110, 111, 119, 110]⟩]
def equalS : ByteArray := ⟨#[101, 113, 117, 97, 108]⟩
def unlikeS : ByteArray := ⟨#[117, 110, 108, 105, 107, 101]⟩
def FlatP (cs : List C) : Prop := ∃ c r, cs = c :: r ∧ c.k ≠ 3
theorem flat_cons {c : C} {r : List C} : FlatP (c :: r) ↔ c.k ≠ 3 := ⟨fun ⟨_, _, e, h⟩ => by cases e; exact h, fun h => ⟨c, r, rfl, h⟩⟩
theorem right_cons {cs : List C} (h : RightP cs) : ∃ c r, cs = c :: r := by
  cases cs with
  | nil => exact absurd rfl h.1
  | cons c r => exact ⟨c, r, rfl⟩
theorem isFlat_ok (lab : Nat) (cs : List C) (sp : List (List LV)) (hR : cs ≠ []) (ob : Obs) (pb : Nat) (r : Bool) (hr : r = true ↔ FlatP cs) : Gives env4 327 [sl5 false lab cs sp] ob pb (.bool r, ob) := by
  obtain ⟨c, t, rfl⟩ : ∃ c r, cs = c :: r := by
    cases cs with
    | nil => exact absurd rfl hR
    | cons c r => exact ⟨c, r, rfl⟩
  rw [flat_cons] at hr
  refine gives_code (f := tf327) rfl ?_
  conv => whnf
  refine ⟨_, ⟨by omega, idx_row (cs := c :: t) (i := 0) rfl⟩, ?_⟩
  conv => whnf
  refine ⟨rfl, bool_of hr ?_, rfl⟩
  simp
def CalP (cs : List C) : Prop := ∃ c r, cs = c :: r ∧ c.k ≠ 1 ∧ c.k ≠ 4 ∧ NameP c.text.data.toList
theorem call_cons {c : C} {r : List C} : CalP (c :: r) ↔ c.k ≠ 1 ∧ c.k ≠ 4 ∧ NameP c.text.data.toList := ⟨fun ⟨_, _, e, h⟩ => by cases e; exact h, fun h => ⟨c, r, rfl, h⟩⟩
theorem isCall_ok (lab : Nat) (cs : List C) (sp : List (List LV)) (hR : cs ≠ []) (hf : ∀ c ∈ cs, c.fine) (ob : Obs) (pb : Nat) (r : Bool) (hr : r = true ↔ CalP cs) : Gives env4 317 [sl5 false lab cs sp] ob pb (.bool r, ob) := by
  obtain ⟨c, t, rfl⟩ : ∃ c r, cs = c :: r := by
    cases cs with
    | nil => exact absurd rfl hR
    | cons c r => exact ⟨c, r, rfl⟩
  rw [call_cons] at hr
  refine gives_code (f := tf317) rfl ?_
  conv => whnf
  refine ⟨_, ⟨by omega, idx_row (cs := c :: t) (i := 0) rfl⟩, ?_⟩
  conv => whnf
  refine sel_split (fun h => ?_) (fun h => ?_)
  · conv => whnf
    have h : c.k ≠ 1 := by simpa using h
    refine ⟨_, ⟨by omega, idx_row (cs := c :: t) (i := 0) rfl⟩, ?_⟩
    conv => whnf
    refine sel_split (fun h2 => ?_) (fun h2 => ?_)
    · conv => whnf
      have h2 : c.k ≠ 4 := by simpa using h2
      obtain ⟨q, hq⟩ := boolOf (NameP c.text.data.toList)
      refine ⟨_, ⟨by omega, idx_row (cs := c :: t) (i := 0) rfl⟩, ?_⟩
      conv => whnf
      refine ⟨_, _, (isName_ok c.text (hf c (List.mem_cons_self ..)).1 ob _ q hq).le le14, fun _ => rfl, ?_⟩
      conv => whnf
      refine ⟨rfl, bool_of hr ?_, rfl⟩
      rw [hq]; exact ⟨fun g => ⟨h, h2, g⟩, fun g => g.2.2⟩
    · conv => whnf
      have h2 : c.k = 4 := by simpa using h2
      exact ⟨rfl, bool_of hr ⟨fun e => (nomatch e), fun g => absurd h2 g.2.1⟩, rfl⟩
  · conv => whnf
    have h : c.k = 1 := by simpa using h
    exact ⟨rfl, bool_of hr ⟨fun e => (nomatch e), fun g => absurd h g.1⟩, rfl⟩
def GuardOp (c : C) : Prop := (c.n = 1 ∧ c.text ∈ tests) ∨ (c.n = 2 ∧ (c.text = equalS ∨ c.text = unlikeS))
def GuardP (cs : List C) : Prop := IsP cs trueS 0 ∨ ∃ c r, cs = c :: r ∧ c.k = 3 ∧ ((c.n = 2 ∧ c.text ∈ comps ∧ ∀ a ∈ argsR cs, SumP a) ∨ (GuardOp c ∧ ∀ a ∈ argsR cs, FlatP a))
theorem op_not {c : C} (h : GuardOp c) : ¬ (c.n = 2 ∧ c.text ∈ comps) := by
  rintro ⟨h1, h2⟩
  rcases h with ⟨g, _⟩ | ⟨_, g⟩
  · omega
  · rcases g with g | g
    · rw [g] at h2; revert h2; simp [comps, equalS, unlikeS]
    · rw [g] at h2; revert h2; simp [comps, equalS, unlikeS]
theorem guard_iff {c : C} {r : List C} (ht : ¬ IsP (c :: r) trueS 0) (hk : c.k = 3) : GuardP (c :: r) ↔ (c.n = 2 ∧ c.text ∈ comps ∧ ∀ a ∈ argsR (c :: r), SumP a) ∨ (GuardOp c ∧ ∀ a ∈ argsR (c :: r), FlatP a) := by
  constructor
  · rintro (h | ⟨c', r', e, _, h⟩)
    · exact absurd h ht
    · cases e; exact h
  · intro h; exact .inr ⟨c, r, rfl, hk, h⟩
theorem str_ne {a b : ByteArray} (h : (a.toList == b.toList) = false) : a ≠ b := by
  intro e; subst e; simp at h
theorem str_eq {a b : ByteArray} (h : (a.toList == b.toList) = true) : a = b := bytes_eq.1 (eq_of_beq h)

theorem isGuard_ok (lab : Nat) (cs : List C) (sp : List (List LV)) (hR : RightP cs) (hf : ∀ c ∈ cs, c.fine) (ob : Obs) (pb : Nat) (res : Bool) (hr : res = true ↔ GuardP cs) : Gives env4 303 [sl5 false lab cs sp] ob pb (.bool res, ob) := by
  obtain ⟨c, r, rfl⟩ := right_cons hR
  have hl : (c :: r).length ≤ 4611686018427387904 := by have := hR.2.1; omega
  refine gives_code (f := tf303) rfl ?_
  conv => whnf
  obtain ⟨k, hk⟩ := boolOf (IsP (c :: r) trueS 0)
  refine ⟨_, _, is_ok lab (c :: r) sp trueS 0 ob _ k hk, fun _ => rfl, ?_⟩
  conv => whnf
  refine sel_split (fun h => ?_) (fun h => ?_)
  · conv => whnf
    exact ⟨rfl, bool_of hr ⟨fun _ => .inl (hk.1 h), fun _ => rfl⟩, rfl⟩
  · conv => whnf
    have ht : ¬ IsP (c :: r) trueS 0 := fun hn => by rw [hk.2 hn] at h; cases h
    refine ⟨_, ⟨by omega, idx_row (cs := c :: r) (i := 0) rfl⟩, ?_⟩
    conv => whnf
    refine sel_split (fun h2 => ?_) (fun h2 => ?_)
    · conv => whnf
      have h2 : c.k ≠ 3 := by simpa using h2
      refine ⟨rfl, bool_of hr ⟨fun e => (nomatch e), fun h => ?_⟩, rfl⟩
      exfalso
      rcases h with h | ⟨_, _, e, h, _⟩
      · exact ht h
      · cases e; exact h2 h
    · conv => whnf
      have hk3 : c.k = 3 := by simpa using h2
      refine sel_split (fun h3 => ?_) (fun h3 => ?_)
      · conv => whnf
        have hn2 : c.n = 2 := by simpa using h3
        obtain ⟨q, hq⟩ := boolOf (c.text ∈ comps)
        refine ⟨_, _, (hasStr_ok 0 comps c.text (by decide) ob _ q hq).le le14, fun _ => rfl, ?_⟩
        conv => whnf
        refine sel_split (fun h4 => ?_) (fun h4 => ?_)
        · conv => whnf
          have hcm : c.text ∈ comps := hq.1 h4
          refine ⟨_, _, (args_ok lab (c :: r) sp hl hf ob _).le le14, fun _ => noRefM _ _, ?_⟩
          conv => whnf
          obtain ⟨q2, hq2⟩ := boolOf (∃ t ∈ (argsR (c :: r)).map T1.mk0, ¬ SumP t.cs)
          refine ⟨_, _, any33p_ok 328 _ _ 0 _ ((argsR (c :: r)).map T1.mk0) [] (fun t => ¬ SumP t.cs) (by rw [List.length_map]; have := argsR_len (c :: r); omega) (fun t ht ob pb q hq => ?_) ob _ q2 hq2, fun _ => rfl, ?_⟩
          · obtain ⟨a, ha, rfl⟩ := List.mem_map.1 ht
            obtain ⟨s1, s2, s3⟩ := args_small hR hk3 ha
            obtain ⟨q', hq'⟩ := boolOf (SumP a)
            refine gives_code (f := tf328) rfl ?_
            conv => whnf
            refine ⟨_, _, isSum_ok _ 0 a [] (Nat.le_refl _) s2 (fun d hd => hf d (s3 d hd)) ob _ q' hq', fun _ => rfl, ?_⟩
            conv => whnf
            refine ⟨rfl, bool_of hq ?_, rfl⟩
            show (!q') = true ↔ ¬ SumP a
            rw [← hq']; cases q' <;> simp
          conv => whnf
          refine ⟨rfl, bool_of hr ?_, rfl⟩
          rw [guard_iff ht hk3]
          have hall : (!q2) = true ↔ ∀ a ∈ argsR (c :: r), SumP a := by
            constructor
            · intro e a ha
              have e : q2 = false := by simpa using e
              refine Classical.byContradiction fun hn => ?_
              have := hq2.2 ⟨T1.mk0 a, List.mem_map.2 ⟨a, ha, rfl⟩, hn⟩
              rw [e] at this; cases this
            · intro h
              cases hq : q2 with
              | false => rfl
              | true =>
                obtain ⟨t, ht, hn⟩ := hq2.1 hq
                obtain ⟨a, ha, rfl⟩ := List.mem_map.1 ht
                exact absurd (h a ha) hn
          rw [hall]
          exact ⟨fun h => .inl ⟨hn2, hcm, h⟩, fun h => by rcases h with h | h; exact h.2.2; exact absurd ⟨hn2, hcm⟩ (op_not h.1)⟩
        · conv => whnf
          have hcm : c.text ∉ comps := fun hm => by rw [hq.2 hm] at h4; cases h4
          refine sel_split (fun k1 => ?_) (fun k1 => ?_)
          · conv => whnf
            have k1 : c.n = 1 := by simpa using k1
            obtain ⟨p, hp⟩ := boolOf (c.text ∈ tests)
            refine ⟨_, _, (hasStr_ok 0 tests c.text (by decide) ob _ p hp).le le14, fun _ => rfl, ?_⟩
            conv => whnf
            refine sel_split (fun k2 => ?_) (fun k2 => ?_)
            · conv => whnf
              have k2 : c.text ∈ tests := hp.1 k2
              refine ⟨_, _, (args_ok lab (c :: r) sp hl hf ob _).le le14, fun _ => noRefM _ _, ?_⟩
              conv => whnf
              obtain ⟨q2, hq2⟩ := boolOf (∃ t ∈ (argsR (c :: r)).map T1.mk0, ¬ FlatP t.cs)
              refine ⟨_, _, any33p_ok 328 _ _ 0 _ ((argsR (c :: r)).map T1.mk0) [] (fun t => ¬ FlatP t.cs) (by rw [List.length_map]; have := argsR_len (c :: r); omega) (fun t ht ob pb q hq => ?_) ob _ q2 hq2, fun _ => rfl, ?_⟩
              · obtain ⟨a, ha, rfl⟩ := List.mem_map.1 ht
                obtain ⟨s1, s2, s3⟩ := args_small hR hk3 ha
                obtain ⟨q', hq'⟩ := boolOf (FlatP a)
                refine gives_code (f := tf328) rfl ?_
                conv => whnf
                refine ⟨_, _, isFlat_ok 0 a [] s2.1 ob _ q' hq', fun _ => rfl, ?_⟩
                conv => whnf
                refine ⟨rfl, bool_of hq ?_, rfl⟩
                show (!q') = true ↔ ¬ FlatP a
                rw [← hq']; cases q' <;> simp
              conv => whnf
              refine ⟨rfl, bool_of hr ?_, rfl⟩
              rw [guard_iff ht hk3]
              have hall : (!q2) = true ↔ ∀ a ∈ argsR (c :: r), FlatP a := by
                constructor
                · intro e a ha
                  have e : q2 = false := by simpa using e
                  refine Classical.byContradiction fun hn => ?_
                  have := hq2.2 ⟨T1.mk0 a, List.mem_map.2 ⟨a, ha, rfl⟩, hn⟩
                  rw [e] at this; cases this
                · intro h
                  cases hq : q2 with
                  | false => rfl
                  | true =>
                    obtain ⟨t, ht, hn⟩ := hq2.1 hq
                    obtain ⟨a, ha, rfl⟩ := List.mem_map.1 ht
                    exact absurd (h a ha) hn
              rw [hall]
              have hop : GuardOp c := .inl ⟨k1, k2⟩
              exact ⟨fun h => .inr ⟨hop, h⟩, fun h => by rcases h with h | h; exact absurd ⟨h.1, h.2.1⟩ (op_not hop); exact h.2⟩
            · conv => whnf
              have k2 : c.text ∉ tests := fun hm => by rw [hp.2 hm] at k2; cases k2
              refine sel_split (fun g1 => ?_) (fun g1 => ?_)
              · conv => whnf
                have g1 : c.n = 2 := by simpa using g1
                refine sel_split (fun g2 => ?_) (fun g2 => ?_)
                · conv => whnf
                  have g2 : c.text = equalS := str_eq g2
                  refine ⟨_, _, (args_ok lab (c :: r) sp hl hf ob _).le le14, fun _ => noRefM _ _, ?_⟩
                  conv => whnf
                  obtain ⟨q2, hq2⟩ := boolOf (∃ t ∈ (argsR (c :: r)).map T1.mk0, ¬ FlatP t.cs)
                  refine ⟨_, _, any33p_ok 328 _ _ 0 _ ((argsR (c :: r)).map T1.mk0) [] (fun t => ¬ FlatP t.cs) (by rw [List.length_map]; have := argsR_len (c :: r); omega) (fun t ht ob pb q hq => ?_) ob _ q2 hq2, fun _ => rfl, ?_⟩
                  · obtain ⟨a, ha, rfl⟩ := List.mem_map.1 ht
                    obtain ⟨s1, s2, s3⟩ := args_small hR hk3 ha
                    obtain ⟨q', hq'⟩ := boolOf (FlatP a)
                    refine gives_code (f := tf328) rfl ?_
                    conv => whnf
                    refine ⟨_, _, isFlat_ok 0 a [] s2.1 ob _ q' hq', fun _ => rfl, ?_⟩
                    conv => whnf
                    refine ⟨rfl, bool_of hq ?_, rfl⟩
                    show (!q') = true ↔ ¬ FlatP a
                    rw [← hq']; cases q' <;> simp
                  conv => whnf
                  refine ⟨rfl, bool_of hr ?_, rfl⟩
                  rw [guard_iff ht hk3]
                  have hall : (!q2) = true ↔ ∀ a ∈ argsR (c :: r), FlatP a := by
                    constructor
                    · intro e a ha
                      have e : q2 = false := by simpa using e
                      refine Classical.byContradiction fun hn => ?_
                      have := hq2.2 ⟨T1.mk0 a, List.mem_map.2 ⟨a, ha, rfl⟩, hn⟩
                      rw [e] at this; cases this
                    · intro h
                      cases hq : q2 with
                      | false => rfl
                      | true =>
                        obtain ⟨t, ht, hn⟩ := hq2.1 hq
                        obtain ⟨a, ha, rfl⟩ := List.mem_map.1 ht
                        exact absurd (h a ha) hn
                  rw [hall]
                  have hop : GuardOp c := .inr ⟨g1, .inl g2⟩
                  exact ⟨fun h => .inr ⟨hop, h⟩, fun h => by rcases h with h | h; exact absurd ⟨h.1, h.2.1⟩ (op_not hop); exact h.2⟩
                · conv => whnf
                  have g2 : c.text ≠ equalS := str_ne g2
                  refine sel_split (fun g3 => ?_) (fun g3 => ?_)
                  · conv => whnf
                    have g3 : c.text = unlikeS := str_eq g3
                    refine ⟨_, _, (args_ok lab (c :: r) sp hl hf ob _).le le14, fun _ => noRefM _ _, ?_⟩
                    conv => whnf
                    obtain ⟨q2, hq2⟩ := boolOf (∃ t ∈ (argsR (c :: r)).map T1.mk0, ¬ FlatP t.cs)
                    refine ⟨_, _, any33p_ok 328 _ _ 0 _ ((argsR (c :: r)).map T1.mk0) [] (fun t => ¬ FlatP t.cs) (by rw [List.length_map]; have := argsR_len (c :: r); omega) (fun t ht ob pb q hq => ?_) ob _ q2 hq2, fun _ => rfl, ?_⟩
                    · obtain ⟨a, ha, rfl⟩ := List.mem_map.1 ht
                      obtain ⟨s1, s2, s3⟩ := args_small hR hk3 ha
                      obtain ⟨q', hq'⟩ := boolOf (FlatP a)
                      refine gives_code (f := tf328) rfl ?_
                      conv => whnf
                      refine ⟨_, _, isFlat_ok 0 a [] s2.1 ob _ q' hq', fun _ => rfl, ?_⟩
                      conv => whnf
                      refine ⟨rfl, bool_of hq ?_, rfl⟩
                      show (!q') = true ↔ ¬ FlatP a
                      rw [← hq']; cases q' <;> simp
                    conv => whnf
                    refine ⟨rfl, bool_of hr ?_, rfl⟩
                    rw [guard_iff ht hk3]
                    have hall : (!q2) = true ↔ ∀ a ∈ argsR (c :: r), FlatP a := by
                      constructor
                      · intro e a ha
                        have e : q2 = false := by simpa using e
                        refine Classical.byContradiction fun hn => ?_
                        have := hq2.2 ⟨T1.mk0 a, List.mem_map.2 ⟨a, ha, rfl⟩, hn⟩
                        rw [e] at this; cases this
                      · intro h
                        cases hq : q2 with
                        | false => rfl
                        | true =>
                          obtain ⟨t, ht, hn⟩ := hq2.1 hq
                          obtain ⟨a, ha, rfl⟩ := List.mem_map.1 ht
                          exact absurd (h a ha) hn
                    rw [hall]
                    have hop : GuardOp c := .inr ⟨g1, .inr g3⟩
                    exact ⟨fun h => .inr ⟨hop, h⟩, fun h => by rcases h with h | h; exact absurd ⟨h.1, h.2.1⟩ (op_not hop); exact h.2⟩
                  · conv => whnf
                    have g3 : c.text ≠ unlikeS := str_ne g3
                    refine ⟨rfl, bool_of hr ⟨fun e => (nomatch e), fun h => ?_⟩, rfl⟩
                    exfalso
                    rcases (guard_iff ht hk3).1 h with h | h
                    · exact hcm h.2.1
                    · rcases h.1 with h | h
                      · exact k2 h.2
                      · exact h.2.elim g2 g3
              · conv => whnf
                have g1 : c.n ≠ 2 := by simpa using g1
                refine ⟨rfl, bool_of hr ⟨fun e => (nomatch e), fun h => ?_⟩, rfl⟩
                exfalso
                rcases (guard_iff ht hk3).1 h with h | h
                · exact hcm h.2.1
                · rcases h.1 with h | h
                  · exact k2 h.2
                  · exact g1 h.1
          · conv => whnf
            have k1 : c.n ≠ 1 := by simpa using k1
            refine sel_split (fun g1 => ?_) (fun g1 => ?_)
            · conv => whnf
              have g1 : c.n = 2 := by simpa using g1
              refine sel_split (fun g2 => ?_) (fun g2 => ?_)
              · conv => whnf
                have g2 : c.text = equalS := str_eq g2
                refine ⟨_, _, (args_ok lab (c :: r) sp hl hf ob _).le le14, fun _ => noRefM _ _, ?_⟩
                conv => whnf
                obtain ⟨q2, hq2⟩ := boolOf (∃ t ∈ (argsR (c :: r)).map T1.mk0, ¬ FlatP t.cs)
                refine ⟨_, _, any33p_ok 328 _ _ 0 _ ((argsR (c :: r)).map T1.mk0) [] (fun t => ¬ FlatP t.cs) (by rw [List.length_map]; have := argsR_len (c :: r); omega) (fun t ht ob pb q hq => ?_) ob _ q2 hq2, fun _ => rfl, ?_⟩
                · obtain ⟨a, ha, rfl⟩ := List.mem_map.1 ht
                  obtain ⟨s1, s2, s3⟩ := args_small hR hk3 ha
                  obtain ⟨q', hq'⟩ := boolOf (FlatP a)
                  refine gives_code (f := tf328) rfl ?_
                  conv => whnf
                  refine ⟨_, _, isFlat_ok 0 a [] s2.1 ob _ q' hq', fun _ => rfl, ?_⟩
                  conv => whnf
                  refine ⟨rfl, bool_of hq ?_, rfl⟩
                  show (!q') = true ↔ ¬ FlatP a
                  rw [← hq']; cases q' <;> simp
                conv => whnf
                refine ⟨rfl, bool_of hr ?_, rfl⟩
                rw [guard_iff ht hk3]
                have hall : (!q2) = true ↔ ∀ a ∈ argsR (c :: r), FlatP a := by
                  constructor
                  · intro e a ha
                    have e : q2 = false := by simpa using e
                    refine Classical.byContradiction fun hn => ?_
                    have := hq2.2 ⟨T1.mk0 a, List.mem_map.2 ⟨a, ha, rfl⟩, hn⟩
                    rw [e] at this; cases this
                  · intro h
                    cases hq : q2 with
                    | false => rfl
                    | true =>
                      obtain ⟨t, ht, hn⟩ := hq2.1 hq
                      obtain ⟨a, ha, rfl⟩ := List.mem_map.1 ht
                      exact absurd (h a ha) hn
                rw [hall]
                have hop : GuardOp c := .inr ⟨g1, .inl g2⟩
                exact ⟨fun h => .inr ⟨hop, h⟩, fun h => by rcases h with h | h; exact absurd ⟨h.1, h.2.1⟩ (op_not hop); exact h.2⟩
              · conv => whnf
                have g2 : c.text ≠ equalS := str_ne g2
                refine sel_split (fun g3 => ?_) (fun g3 => ?_)
                · conv => whnf
                  have g3 : c.text = unlikeS := str_eq g3
                  refine ⟨_, _, (args_ok lab (c :: r) sp hl hf ob _).le le14, fun _ => noRefM _ _, ?_⟩
                  conv => whnf
                  obtain ⟨q2, hq2⟩ := boolOf (∃ t ∈ (argsR (c :: r)).map T1.mk0, ¬ FlatP t.cs)
                  refine ⟨_, _, any33p_ok 328 _ _ 0 _ ((argsR (c :: r)).map T1.mk0) [] (fun t => ¬ FlatP t.cs) (by rw [List.length_map]; have := argsR_len (c :: r); omega) (fun t ht ob pb q hq => ?_) ob _ q2 hq2, fun _ => rfl, ?_⟩
                  · obtain ⟨a, ha, rfl⟩ := List.mem_map.1 ht
                    obtain ⟨s1, s2, s3⟩ := args_small hR hk3 ha
                    obtain ⟨q', hq'⟩ := boolOf (FlatP a)
                    refine gives_code (f := tf328) rfl ?_
                    conv => whnf
                    refine ⟨_, _, isFlat_ok 0 a [] s2.1 ob _ q' hq', fun _ => rfl, ?_⟩
                    conv => whnf
                    refine ⟨rfl, bool_of hq ?_, rfl⟩
                    show (!q') = true ↔ ¬ FlatP a
                    rw [← hq']; cases q' <;> simp
                  conv => whnf
                  refine ⟨rfl, bool_of hr ?_, rfl⟩
                  rw [guard_iff ht hk3]
                  have hall : (!q2) = true ↔ ∀ a ∈ argsR (c :: r), FlatP a := by
                    constructor
                    · intro e a ha
                      have e : q2 = false := by simpa using e
                      refine Classical.byContradiction fun hn => ?_
                      have := hq2.2 ⟨T1.mk0 a, List.mem_map.2 ⟨a, ha, rfl⟩, hn⟩
                      rw [e] at this; cases this
                    · intro h
                      cases hq : q2 with
                      | false => rfl
                      | true =>
                        obtain ⟨t, ht, hn⟩ := hq2.1 hq
                        obtain ⟨a, ha, rfl⟩ := List.mem_map.1 ht
                        exact absurd (h a ha) hn
                  rw [hall]
                  have hop : GuardOp c := .inr ⟨g1, .inr g3⟩
                  exact ⟨fun h => .inr ⟨hop, h⟩, fun h => by rcases h with h | h; exact absurd ⟨h.1, h.2.1⟩ (op_not hop); exact h.2⟩
                · conv => whnf
                  have g3 : c.text ≠ unlikeS := str_ne g3
                  refine ⟨rfl, bool_of hr ⟨fun e => (nomatch e), fun h => ?_⟩, rfl⟩
                  exfalso
                  rcases (guard_iff ht hk3).1 h with h | h
                  · exact hcm h.2.1
                  · rcases h.1 with h | h
                    · exact k1 h.1
                    · exact h.2.elim g2 g3
            · conv => whnf
              have g1 : c.n ≠ 2 := by simpa using g1
              refine ⟨rfl, bool_of hr ⟨fun e => (nomatch e), fun h => ?_⟩, rfl⟩
              exfalso
              rcases (guard_iff ht hk3).1 h with h | h
              · exact hcm h.2.1
              · rcases h.1 with h | h
                · exact k1 h.1
                · exact g1 h.1
      · conv => whnf
        have hn2 : c.n ≠ 2 := by simpa using h3
        refine sel_split (fun k1 => ?_) (fun k1 => ?_)
        · conv => whnf
          have k1 : c.n = 1 := by simpa using k1
          obtain ⟨p, hp⟩ := boolOf (c.text ∈ tests)
          refine ⟨_, _, (hasStr_ok 0 tests c.text (by decide) ob _ p hp).le le14, fun _ => rfl, ?_⟩
          conv => whnf
          refine sel_split (fun k2 => ?_) (fun k2 => ?_)
          · conv => whnf
            have k2 : c.text ∈ tests := hp.1 k2
            refine ⟨_, _, (args_ok lab (c :: r) sp hl hf ob _).le le14, fun _ => noRefM _ _, ?_⟩
            conv => whnf
            obtain ⟨q2, hq2⟩ := boolOf (∃ t ∈ (argsR (c :: r)).map T1.mk0, ¬ FlatP t.cs)
            refine ⟨_, _, any33p_ok 328 _ _ 0 _ ((argsR (c :: r)).map T1.mk0) [] (fun t => ¬ FlatP t.cs) (by rw [List.length_map]; have := argsR_len (c :: r); omega) (fun t ht ob pb q hq => ?_) ob _ q2 hq2, fun _ => rfl, ?_⟩
            · obtain ⟨a, ha, rfl⟩ := List.mem_map.1 ht
              obtain ⟨s1, s2, s3⟩ := args_small hR hk3 ha
              obtain ⟨q', hq'⟩ := boolOf (FlatP a)
              refine gives_code (f := tf328) rfl ?_
              conv => whnf
              refine ⟨_, _, isFlat_ok 0 a [] s2.1 ob _ q' hq', fun _ => rfl, ?_⟩
              conv => whnf
              refine ⟨rfl, bool_of hq ?_, rfl⟩
              show (!q') = true ↔ ¬ FlatP a
              rw [← hq']; cases q' <;> simp
            conv => whnf
            refine ⟨rfl, bool_of hr ?_, rfl⟩
            rw [guard_iff ht hk3]
            have hall : (!q2) = true ↔ ∀ a ∈ argsR (c :: r), FlatP a := by
              constructor
              · intro e a ha
                have e : q2 = false := by simpa using e
                refine Classical.byContradiction fun hn => ?_
                have := hq2.2 ⟨T1.mk0 a, List.mem_map.2 ⟨a, ha, rfl⟩, hn⟩
                rw [e] at this; cases this
              · intro h
                cases hq : q2 with
                | false => rfl
                | true =>
                  obtain ⟨t, ht, hn⟩ := hq2.1 hq
                  obtain ⟨a, ha, rfl⟩ := List.mem_map.1 ht
                  exact absurd (h a ha) hn
            rw [hall]
            have hop : GuardOp c := .inl ⟨k1, k2⟩
            exact ⟨fun h => .inr ⟨hop, h⟩, fun h => by rcases h with h | h; exact absurd ⟨h.1, h.2.1⟩ (op_not hop); exact h.2⟩
          · conv => whnf
            have k2 : c.text ∉ tests := fun hm => by rw [hp.2 hm] at k2; cases k2
            refine sel_split (fun g1 => ?_) (fun g1 => ?_)
            · conv => whnf
              have g1 : c.n = 2 := by simpa using g1
              refine sel_split (fun g2 => ?_) (fun g2 => ?_)
              · conv => whnf
                have g2 : c.text = equalS := str_eq g2
                refine ⟨_, _, (args_ok lab (c :: r) sp hl hf ob _).le le14, fun _ => noRefM _ _, ?_⟩
                conv => whnf
                obtain ⟨q2, hq2⟩ := boolOf (∃ t ∈ (argsR (c :: r)).map T1.mk0, ¬ FlatP t.cs)
                refine ⟨_, _, any33p_ok 328 _ _ 0 _ ((argsR (c :: r)).map T1.mk0) [] (fun t => ¬ FlatP t.cs) (by rw [List.length_map]; have := argsR_len (c :: r); omega) (fun t ht ob pb q hq => ?_) ob _ q2 hq2, fun _ => rfl, ?_⟩
                · obtain ⟨a, ha, rfl⟩ := List.mem_map.1 ht
                  obtain ⟨s1, s2, s3⟩ := args_small hR hk3 ha
                  obtain ⟨q', hq'⟩ := boolOf (FlatP a)
                  refine gives_code (f := tf328) rfl ?_
                  conv => whnf
                  refine ⟨_, _, isFlat_ok 0 a [] s2.1 ob _ q' hq', fun _ => rfl, ?_⟩
                  conv => whnf
                  refine ⟨rfl, bool_of hq ?_, rfl⟩
                  show (!q') = true ↔ ¬ FlatP a
                  rw [← hq']; cases q' <;> simp
                conv => whnf
                refine ⟨rfl, bool_of hr ?_, rfl⟩
                rw [guard_iff ht hk3]
                have hall : (!q2) = true ↔ ∀ a ∈ argsR (c :: r), FlatP a := by
                  constructor
                  · intro e a ha
                    have e : q2 = false := by simpa using e
                    refine Classical.byContradiction fun hn => ?_
                    have := hq2.2 ⟨T1.mk0 a, List.mem_map.2 ⟨a, ha, rfl⟩, hn⟩
                    rw [e] at this; cases this
                  · intro h
                    cases hq : q2 with
                    | false => rfl
                    | true =>
                      obtain ⟨t, ht, hn⟩ := hq2.1 hq
                      obtain ⟨a, ha, rfl⟩ := List.mem_map.1 ht
                      exact absurd (h a ha) hn
                rw [hall]
                have hop : GuardOp c := .inr ⟨g1, .inl g2⟩
                exact ⟨fun h => .inr ⟨hop, h⟩, fun h => by rcases h with h | h; exact absurd ⟨h.1, h.2.1⟩ (op_not hop); exact h.2⟩
              · conv => whnf
                have g2 : c.text ≠ equalS := str_ne g2
                refine sel_split (fun g3 => ?_) (fun g3 => ?_)
                · conv => whnf
                  have g3 : c.text = unlikeS := str_eq g3
                  refine ⟨_, _, (args_ok lab (c :: r) sp hl hf ob _).le le14, fun _ => noRefM _ _, ?_⟩
                  conv => whnf
                  obtain ⟨q2, hq2⟩ := boolOf (∃ t ∈ (argsR (c :: r)).map T1.mk0, ¬ FlatP t.cs)
                  refine ⟨_, _, any33p_ok 328 _ _ 0 _ ((argsR (c :: r)).map T1.mk0) [] (fun t => ¬ FlatP t.cs) (by rw [List.length_map]; have := argsR_len (c :: r); omega) (fun t ht ob pb q hq => ?_) ob _ q2 hq2, fun _ => rfl, ?_⟩
                  · obtain ⟨a, ha, rfl⟩ := List.mem_map.1 ht
                    obtain ⟨s1, s2, s3⟩ := args_small hR hk3 ha
                    obtain ⟨q', hq'⟩ := boolOf (FlatP a)
                    refine gives_code (f := tf328) rfl ?_
                    conv => whnf
                    refine ⟨_, _, isFlat_ok 0 a [] s2.1 ob _ q' hq', fun _ => rfl, ?_⟩
                    conv => whnf
                    refine ⟨rfl, bool_of hq ?_, rfl⟩
                    show (!q') = true ↔ ¬ FlatP a
                    rw [← hq']; cases q' <;> simp
                  conv => whnf
                  refine ⟨rfl, bool_of hr ?_, rfl⟩
                  rw [guard_iff ht hk3]
                  have hall : (!q2) = true ↔ ∀ a ∈ argsR (c :: r), FlatP a := by
                    constructor
                    · intro e a ha
                      have e : q2 = false := by simpa using e
                      refine Classical.byContradiction fun hn => ?_
                      have := hq2.2 ⟨T1.mk0 a, List.mem_map.2 ⟨a, ha, rfl⟩, hn⟩
                      rw [e] at this; cases this
                    · intro h
                      cases hq : q2 with
                      | false => rfl
                      | true =>
                        obtain ⟨t, ht, hn⟩ := hq2.1 hq
                        obtain ⟨a, ha, rfl⟩ := List.mem_map.1 ht
                        exact absurd (h a ha) hn
                  rw [hall]
                  have hop : GuardOp c := .inr ⟨g1, .inr g3⟩
                  exact ⟨fun h => .inr ⟨hop, h⟩, fun h => by rcases h with h | h; exact absurd ⟨h.1, h.2.1⟩ (op_not hop); exact h.2⟩
                · conv => whnf
                  have g3 : c.text ≠ unlikeS := str_ne g3
                  refine ⟨rfl, bool_of hr ⟨fun e => (nomatch e), fun h => ?_⟩, rfl⟩
                  exfalso
                  rcases (guard_iff ht hk3).1 h with h | h
                  · exact hn2 h.1
                  · rcases h.1 with h | h
                    · exact k2 h.2
                    · exact h.2.elim g2 g3
            · conv => whnf
              have g1 : c.n ≠ 2 := by simpa using g1
              refine ⟨rfl, bool_of hr ⟨fun e => (nomatch e), fun h => ?_⟩, rfl⟩
              exfalso
              rcases (guard_iff ht hk3).1 h with h | h
              · exact hn2 h.1
              · rcases h.1 with h | h
                · exact k2 h.2
                · exact g1 h.1
        · conv => whnf
          have k1 : c.n ≠ 1 := by simpa using k1
          refine sel_split (fun g1 => ?_) (fun g1 => ?_)
          · conv => whnf
            have g1 : c.n = 2 := by simpa using g1
            refine sel_split (fun g2 => ?_) (fun g2 => ?_)
            · conv => whnf
              have g2 : c.text = equalS := str_eq g2
              refine ⟨_, _, (args_ok lab (c :: r) sp hl hf ob _).le le14, fun _ => noRefM _ _, ?_⟩
              conv => whnf
              obtain ⟨q2, hq2⟩ := boolOf (∃ t ∈ (argsR (c :: r)).map T1.mk0, ¬ FlatP t.cs)
              refine ⟨_, _, any33p_ok 328 _ _ 0 _ ((argsR (c :: r)).map T1.mk0) [] (fun t => ¬ FlatP t.cs) (by rw [List.length_map]; have := argsR_len (c :: r); omega) (fun t ht ob pb q hq => ?_) ob _ q2 hq2, fun _ => rfl, ?_⟩
              · obtain ⟨a, ha, rfl⟩ := List.mem_map.1 ht
                obtain ⟨s1, s2, s3⟩ := args_small hR hk3 ha
                obtain ⟨q', hq'⟩ := boolOf (FlatP a)
                refine gives_code (f := tf328) rfl ?_
                conv => whnf
                refine ⟨_, _, isFlat_ok 0 a [] s2.1 ob _ q' hq', fun _ => rfl, ?_⟩
                conv => whnf
                refine ⟨rfl, bool_of hq ?_, rfl⟩
                show (!q') = true ↔ ¬ FlatP a
                rw [← hq']; cases q' <;> simp
              conv => whnf
              refine ⟨rfl, bool_of hr ?_, rfl⟩
              rw [guard_iff ht hk3]
              have hall : (!q2) = true ↔ ∀ a ∈ argsR (c :: r), FlatP a := by
                constructor
                · intro e a ha
                  have e : q2 = false := by simpa using e
                  refine Classical.byContradiction fun hn => ?_
                  have := hq2.2 ⟨T1.mk0 a, List.mem_map.2 ⟨a, ha, rfl⟩, hn⟩
                  rw [e] at this; cases this
                · intro h
                  cases hq : q2 with
                  | false => rfl
                  | true =>
                    obtain ⟨t, ht, hn⟩ := hq2.1 hq
                    obtain ⟨a, ha, rfl⟩ := List.mem_map.1 ht
                    exact absurd (h a ha) hn
              rw [hall]
              have hop : GuardOp c := .inr ⟨g1, .inl g2⟩
              exact ⟨fun h => .inr ⟨hop, h⟩, fun h => by rcases h with h | h; exact absurd ⟨h.1, h.2.1⟩ (op_not hop); exact h.2⟩
            · conv => whnf
              have g2 : c.text ≠ equalS := str_ne g2
              refine sel_split (fun g3 => ?_) (fun g3 => ?_)
              · conv => whnf
                have g3 : c.text = unlikeS := str_eq g3
                refine ⟨_, _, (args_ok lab (c :: r) sp hl hf ob _).le le14, fun _ => noRefM _ _, ?_⟩
                conv => whnf
                obtain ⟨q2, hq2⟩ := boolOf (∃ t ∈ (argsR (c :: r)).map T1.mk0, ¬ FlatP t.cs)
                refine ⟨_, _, any33p_ok 328 _ _ 0 _ ((argsR (c :: r)).map T1.mk0) [] (fun t => ¬ FlatP t.cs) (by rw [List.length_map]; have := argsR_len (c :: r); omega) (fun t ht ob pb q hq => ?_) ob _ q2 hq2, fun _ => rfl, ?_⟩
                · obtain ⟨a, ha, rfl⟩ := List.mem_map.1 ht
                  obtain ⟨s1, s2, s3⟩ := args_small hR hk3 ha
                  obtain ⟨q', hq'⟩ := boolOf (FlatP a)
                  refine gives_code (f := tf328) rfl ?_
                  conv => whnf
                  refine ⟨_, _, isFlat_ok 0 a [] s2.1 ob _ q' hq', fun _ => rfl, ?_⟩
                  conv => whnf
                  refine ⟨rfl, bool_of hq ?_, rfl⟩
                  show (!q') = true ↔ ¬ FlatP a
                  rw [← hq']; cases q' <;> simp
                conv => whnf
                refine ⟨rfl, bool_of hr ?_, rfl⟩
                rw [guard_iff ht hk3]
                have hall : (!q2) = true ↔ ∀ a ∈ argsR (c :: r), FlatP a := by
                  constructor
                  · intro e a ha
                    have e : q2 = false := by simpa using e
                    refine Classical.byContradiction fun hn => ?_
                    have := hq2.2 ⟨T1.mk0 a, List.mem_map.2 ⟨a, ha, rfl⟩, hn⟩
                    rw [e] at this; cases this
                  · intro h
                    cases hq : q2 with
                    | false => rfl
                    | true =>
                      obtain ⟨t, ht, hn⟩ := hq2.1 hq
                      obtain ⟨a, ha, rfl⟩ := List.mem_map.1 ht
                      exact absurd (h a ha) hn
                rw [hall]
                have hop : GuardOp c := .inr ⟨g1, .inr g3⟩
                exact ⟨fun h => .inr ⟨hop, h⟩, fun h => by rcases h with h | h; exact absurd ⟨h.1, h.2.1⟩ (op_not hop); exact h.2⟩
              · conv => whnf
                have g3 : c.text ≠ unlikeS := str_ne g3
                refine ⟨rfl, bool_of hr ⟨fun e => (nomatch e), fun h => ?_⟩, rfl⟩
                exfalso
                rcases (guard_iff ht hk3).1 h with h | h
                · exact hn2 h.1
                · rcases h.1 with h | h
                  · exact k1 h.1
                  · exact h.2.elim g2 g3
          · conv => whnf
            have g1 : c.n ≠ 2 := by simpa using g1
            refine ⟨rfl, bool_of hr ⟨fun e => (nomatch e), fun h => ?_⟩, rfl⟩
            exfalso
            rcases (guard_iff ht hk3).1 h with h | h
            · exact hn2 h.1
            · rcases h.1 with h | h
              · exact k1 h.1
              · exact g1 h.1
end Tree

set_option autoImplicit false
set_option linter.unusedVariables false
set_option linter.unusedSimpArgs false
namespace Tree
open Go
set_option maxHeartbeats 4000000
set_option maxRecDepth 100000
def eqS : ByteArray := ⟨#[61]⟩
def asS : ByteArray := ⟨#[58, 61]⟩
def PlaceP (cs : List C) : Prop := ∃ c r, cs = c :: r ∧ (c.k = 4 ∨ c.k = 1 ∧ 0 ≤ c.n ∧ c.n < 4)
open Classical in
noncomputable def Goal0 (cs : List C) : Prop := if IsP cs eqS 2 then True else if IsP cs asS 2 then SumP ((argsR cs).getD 1 []) else if IsP cs atS 2 then False else CalP cs
open Classical in
noncomputable def GoalP (sent : Prop) (cs : List C) : Prop := if IsP cs eqS 2 then True else if IsP cs asS 2 then SumP ((argsR cs).getD 1 []) else if IsP cs atS 2 then (sent ∧ Goal0 ((argsR cs).getD 0 []) ∧ PlaceP ((argsR cs).getD 1 [])) else CalP cs
theorem goal0_iff (cs : List C) : GoalP False cs ↔ Goal0 cs := by
  unfold GoalP Goal0
  split
  · exact Iff.rfl
  · split
    · exact Iff.rfl
    · split
      · simp
      · exact Iff.rfl
theorem args2 {cs : List C} (hR : RightP cs) {s : ByteArray} (h : IsP cs s 2) : ∃ a b, argsR cs = [a, b] ∧ RightP a ∧ RightP b ∧ (∀ d ∈ a, d ∈ cs) ∧ (∀ d ∈ b, d ∈ cs) ∧ a.length < cs.length ∧ b.length < cs.length := by
  obtain ⟨c, r, rfl, h3, h4⟩ := h
  have hk : c.k = 3 := by
    rcases h4 with g | g
    · exact g.1
    · omega
  have hn : c.n = 2 := by
    rcases h4 with g | g
    · exact g.2
    · omega
  obtain ⟨f1, f2, f3, f4⟩ := args_facts hR hk
  obtain ⟨g1, g2, g3, g4⟩ := struct_facts hR hk
  have hlen : (argsR (c :: r)).length = 2 := by omega
  match hx : argsR (c :: r), hlen with
  | [a, b], _ =>
    have ha : a ∈ argsR (c :: r) := by rw [hx]; simp
    have hb : b ∈ argsR (c :: r) := by rw [hx]; simp
    obtain ⟨p1, p2, p3⟩ := args_small hR hk ha
    obtain ⟨q1, q2, q3⟩ := args_small hR hk hb
    exact ⟨a, b, rfl, p2, q2, p3, q3, p1, q1⟩
theorem isGoalF_ok (lab : Nat) (cs : List C) (sp : List (List LV)) (hR : RightP cs) (hf : ∀ c ∈ cs, c.fine) (sent : Bool) (rec : ∀ (a : List C), RightP a → a.length < cs.length → (∀ c ∈ a, c.fine) → sent = true → ∀ ob pb (q : Bool), (q = true ↔ Goal0 a) → Gives env4 305 [sl5 false 0 a [], .bool false] ob pb (.bool q, ob)) (ob : Obs) (pb : Nat) (r : Bool) (hr : r = true ↔ GoalP (sent = true) cs) : Gives env4 305 [sl5 false lab cs sp, .bool sent] ob pb (.bool r, ob) := by
  have hl : cs.length ≤ 4611686018427387904 := by have := hR.2.1; omega
  refine gives_code (f := tf305) rfl ?_
  conv => whnf
  refine ⟨_, _, (args_ok lab cs sp hl hf ob _).le le14, fun _ => noRefM _ _, ?_⟩
  conv => whnf
  obtain ⟨k1, hk1⟩ := boolOf (IsP cs eqS 2)
  refine ⟨_, _, is_ok lab cs sp eqS 2 ob _ k1 hk1, fun _ => rfl, ?_⟩
  conv => whnf
  refine sel_split (fun h1 => ?_) (fun h1 => ?_)
  · conv => whnf
    refine ⟨rfl, bool_of hr ⟨fun _ => ?_, fun _ => rfl⟩, rfl⟩
    unfold GoalP; rw [if_pos (hk1.1 h1)]; trivial
  · conv => whnf
    have h1 : ¬ IsP cs eqS 2 := fun hn => by rw [hk1.2 hn] at h1; cases h1
    obtain ⟨k2, hk2⟩ := boolOf (IsP cs asS 2)
    refine ⟨_, _, is_ok lab cs sp asS 2 ob _ k2 hk2, fun _ => rfl, ?_⟩
    conv => whnf
    refine sel_split (fun h2 => ?_) (fun h2 => ?_)
    · have h2 := hk2.1 h2
      obtain ⟨a, b, ha, ra, rb, fa, fb, la, lb⟩ := args2 hR h2
      have hg : GoalP (sent = true) cs ↔ SumP b := by unfold GoalP; rw [if_neg h1, if_pos h2, ha]; rfl
      rw [hg] at hr
      rw [ha]
      conv => whnf
      refine ⟨_, ⟨by omega, idx_t (ts := [a, b].map T1.mk0) (i := 1) rfl⟩, ?_⟩
      conv => whnf
      refine ⟨_, _, isSum_ok _ 0 b [] (Nat.le_refl _) rb (fun d hd => hf d (fb d hd)) ob _ r hr, fun _ => rfl, ?_⟩
      conv => whnf
      exact ⟨rfl, rfl, rfl⟩
    · have h2 : ¬ IsP cs asS 2 := fun hn => by rw [hk2.2 hn] at h2; cases h2
      conv => whnf
      obtain ⟨k3, hk3⟩ := boolOf (IsP cs atS 2)
      refine ⟨_, _, is_ok lab cs sp atS 2 ob _ k3 hk3, fun _ => rfl, ?_⟩
      conv => whnf
      refine sel_split (fun h3 => ?_) (fun h3 => ?_)
      · have h3 := hk3.1 h3
        obtain ⟨a, b, ha, ra, rb, fa, fb, la, lb⟩ := args2 hR h3
        have hg : GoalP (sent = true) cs ↔ sent = true ∧ Goal0 a ∧ PlaceP b := by unfold GoalP; rw [if_neg h1, if_neg h2, if_pos h3, ha]; rfl
        rw [hg] at hr
        obtain ⟨c, t, rfl⟩ := right_cons rb
        have hpl : PlaceP (c :: t) ↔ (c.k = 4 ∨ c.k = 1 ∧ 0 ≤ c.n ∧ c.n < 4) := ⟨fun ⟨_, _, e, h⟩ => by cases e; exact h, fun h => ⟨c, t, rfl, h⟩⟩
        rw [hpl] at hr
        rw [ha]
        conv => whnf
        refine ⟨_, ⟨by omega, idx_t (ts := [a, c :: t].map T1.mk0) (i := 1) rfl⟩, ?_⟩
        conv => whnf
        refine ⟨_, ⟨by omega, idx_row (cs := c :: t) (i := 0) rfl⟩, ?_⟩
        conv => whnf
        refine sel_split (fun h4 => ?_) (fun h4 => ?_)
        · conv => whnf
          refine ⟨_, ⟨by omega, idx_t (ts := [a, c :: t].map T1.mk0) (i := 0) rfl⟩, ?_⟩
          conv => whnf
          obtain ⟨q, hq⟩ := boolOf (Goal0 a)
          refine ⟨_, _, rec a ra la (fun d hd => hf d (fa d hd)) h4 ob _ q hq, fun _ => rfl, ?_⟩
          conv => whnf
          refine sel_split (fun h5 => ?_) (fun h5 => ?_)
          · conv => whnf
            have h5 := hq.1 h5
            refine sel_split (fun h6 => ?_) (fun h6 => ?_)
            · conv => whnf
              have h6 : c.k = 4 := by simpa using h6
              exact ⟨rfl, bool_of hr ⟨fun _ => ⟨h4, h5, .inl h6⟩, fun _ => rfl⟩, rfl⟩
            · conv => whnf
              have h6 : c.k ≠ 4 := by simpa using h6
              refine sel_split (fun h7 => ?_) (fun h7 => ?_)
              · conv => whnf
                have h7 : c.k = 1 := by simpa using h7
                refine sel_split (fun h8 => ?_) (fun h8 => ?_)
                · conv => whnf
                  have h8 : 0 ≤ c.n := by simpa using h8
                  refine ⟨rfl, bool_of hr ⟨fun e => ⟨h4, h5, .inr ⟨h7, h8, by simpa using e⟩⟩, fun h => ?_⟩, rfl⟩
                  rcases h.2.2 with g | g
                  · exact absurd g h6
                  · simpa using g.2.2
                · conv => whnf
                  have h8 : ¬ 0 ≤ c.n := by simpa using h8
                  refine ⟨rfl, bool_of hr ⟨fun e => (nomatch e), fun h => ?_⟩, rfl⟩
                  exfalso
                  rcases h.2.2 with g | g
                  · exact absurd g h6
                  · exact h8 g.2.1
              · conv => whnf
                have h7 : c.k ≠ 1 := by simpa using h7
                refine ⟨rfl, bool_of hr ⟨fun e => (nomatch e), fun h => ?_⟩, rfl⟩
                exfalso
                rcases h.2.2 with g | g
                · exact absurd g h6
                · exact h7 g.1
          · conv => whnf
            refine ⟨rfl, bool_of hr ⟨fun e => (nomatch e), fun h => ?_⟩, rfl⟩
            rw [hq.2 h.2.1] at h5; cases h5
        · conv => whnf
          refine ⟨rfl, bool_of hr ⟨fun e => (nomatch e), fun h => ?_⟩, rfl⟩
          rw [h4] at h; exact absurd h.1 (by simp)
      · have h3 : ¬ IsP cs atS 2 := fun hn => by rw [hk3.2 hn] at h3; cases h3
        have hg : GoalP (sent = true) cs ↔ CalP cs := by unfold GoalP; rw [if_neg h1, if_neg h2, if_neg h3]
        rw [hg] at hr
        conv => whnf
        refine ⟨_, _, isCall_ok lab cs sp hR.1 hf ob _ r hr, fun _ => rfl, ?_⟩
        conv => whnf
        exact ⟨rfl, rfl, rfl⟩
theorem goal0_ok (lab : Nat) (cs : List C) (sp : List (List LV)) (hR : RightP cs) (hf : ∀ c ∈ cs, c.fine) (ob : Obs) (pb : Nat) (r : Bool) (hr : r = true ↔ Goal0 cs) : Gives env4 305 [sl5 false lab cs sp, .bool false] ob pb (.bool r, ob) := by
  refine isGoalF_ok lab cs sp hR hf false (fun _ _ _ _ h => by cases h) ob pb r ?_
  rw [hr, ← goal0_iff]; simp
theorem isGoal_ok (lab : Nat) (cs : List C) (sp : List (List LV)) (hR : RightP cs) (hf : ∀ c ∈ cs, c.fine) (ob : Obs) (pb : Nat) (r : Bool) (hr : r = true ↔ GoalP True cs) : Gives env4 305 [sl5 false lab cs sp, .bool true] ob pb (.bool r, ob) := by
  refine isGoalF_ok lab cs sp hR hf true (fun a ra _ fa _ ob pb q hq => goal0_ok 0 a [] ra fa ob pb q hq) ob pb r ?_
  rw [hr]; simp
def Cl.lv (c : Cl) : LV := .agg c.row
def LongW (c : Cl) : Prop := c.guards.length > 4 ∨ c.body.length > 8 ∨ c.locals > 16
end Tree

set_option autoImplicit false
set_option linter.unusedVariables false
set_option linter.unusedSimpArgs false
namespace Tree
open Go
set_option maxHeartbeats 4000000
set_option maxRecDepth 100000
structure G1 where
  lab : Nat
  ts : List T1
  sp : List (List LV)
def G1.row (g : G1) : List LV := [sl1 false g.lab g.ts g.sp]
def termsOf (c : Cl) : List T1 := ⟨c.hlab, c.head, c.hsp⟩ :: c.guards ++ c.body
def FormW (c : Cl) : Prop := c.locals < 0 ∨ (∃ t ∈ termsOf c, ¬ RightP t.cs) ∨ ∃ v ∈ varsT [] (termsOf c), v.1 ≠ -1 ∨ v.2 ≥ c.locals
end Tree

set_option autoImplicit false
set_option linter.unusedVariables false
set_option linter.unusedSimpArgs false
namespace Tree
open Go
set_option maxHeartbeats 4000000
set_option maxRecDepth 100000
def cntV (cs : List C) : Nat := (cs.filter fun c => c.k == 4).length
def HeadW (c : Cl) : Prop := ¬ CalP c.head ∨ IsP c.head trueS 0 ∨ cntV c.head > (varsC [] c.head).length
def GuardW (c : Cl) : Prop := ∃ g ∈ c.guards, ¬ GuardP g.cs ∨ ∃ v ∈ varsC [] g.cs, v ∉ varsC [] c.head
def BodyW (c : Cl) : Prop := ∃ g ∈ c.body, ¬ GoalP True g.cs
def PredW (there : List PV) (c : Cl) : Prop := ∃ q ∈ callsC [] c.body, q ∉ there
end Tree

set_option autoImplicit false
set_option linter.unusedVariables false
set_option linter.unusedSimpArgs false
namespace Tree
open Go
set_option maxHeartbeats 4000000
set_option maxRecDepth 100000
def LookW (there : List PV) : Nat → Cl → Prop
  | 0, c => LongW c
  | 1, c => FormW c
  | 2, c => HeadW c
  | 3, c => GuardW c
  | 4, c => BodyW c
  | 5, c => PredW there c
  | _, _ => False
/-- All looks before the k-th have passed. -/
def Passed (there : List PV) (p : List Cl) (k : Nat) : Prop := ∀ k', k' < k → ∀ c ∈ p, ¬ LookW there k' c
theorem Passed.right {there : List PV} {p : List Cl} {k : Nat} (h : Passed there p k) (hk : 2 ≤ k) {c : Cl} (hc : c ∈ p) : RightP c.head ∧ (∀ g ∈ c.guards, RightP g.cs) ∧ ∀ g ∈ c.body, RightP g.cs := by
  have h1 : ¬ FormW c := h 1 (by omega) c hc
  have h2 : ∀ t ∈ termsOf c, RightP t.cs := fun t ht => Classical.byContradiction fun hn => h1 (.inr (.inl ⟨t, ht, hn⟩))
  have e : termsOf c = (⟨c.hlab, c.head, c.hsp⟩ : T1) :: (c.guards ++ c.body) := rfl
  rw [e] at h2
  refine ⟨h2 ⟨c.hlab, c.head, c.hsp⟩ (List.mem_cons_self ..), fun g hg => h2 g (List.mem_cons_of_mem _ (List.mem_append_left _ hg)), fun g hg => h2 g (List.mem_cons_of_mem _ (List.mem_append_right _ hg))⟩
end Tree
