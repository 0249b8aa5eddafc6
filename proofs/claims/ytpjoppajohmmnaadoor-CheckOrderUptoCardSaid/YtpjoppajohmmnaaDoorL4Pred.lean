/- Layer 4: predicates in rows; what a term calls, or heads. -/
import Derived.Test.YtpjoppajohmmnaaDoorL4Env
import Derived.Test.YtpjoppajohmmnaaDoorL1Args
set_option autoImplicit false
set_option linter.unusedVariables false
set_option linter.unusedSimpArgs false
namespace Tree
open Go
set_option maxHeartbeats 4000000
set_option maxRecDepth 100000
abbrev PV := ByteArray × Int
def prow (v : PV) : List LV := [.str v.1, .int .i64 v.2]
abbrev slP (o : Bool) (l : Nat) (ns : List PV) (sp : List (List LV)) : LV := .sl o l 2 (ns.map prow) sp
def pv (v : PV) : LV := .agg [.str v.1, .int .i64 v.2]
theorem idx_p {ns : List PV} {i : Nat} {v : PV} (h : ns[i]? = some v) : (ns.map prow)[i]? = some [.str v.1, .int .i64 v.2] := by
  rw [List.getElem?_map, h]; rfl
theorem noRefP (n : Nat) (o : Bool) (l : Nat) (ns : List PV) : (slP o l ns []).noRef n = true := by
  have : LV.noRefss n (ns.map prow) = true := by
    induction ns with
    | nil => simp [LV.noRefss]
    | cons v ns ih => simp [LV.noRefss, ih, prow, LV.noRefs, LV.noRef]
  simp [LV.noRef, LV.noRefss, this]
theorem pv_eq {v x : PV} {q : Bool} (h : ((v.1.toList == x.1.toList) && ((v.2 == x.2) && true)) = q) : q = true ↔ v = x := by
  subst h
  obtain ⟨a, b⟩ := v; obtain ⟨c, d⟩ := x
  simp [bytes_eq]
def S313 (v x : LV) (bx : List LV) (n : Nat) (i : Int) (ob : Obs) : WSt := ⟨.val v :: .val .undef :: .val .undef :: .box bx :: .val .undef :: .val .undef :: .val .undef :: .val (.int .i64 n) :: .val (.int .i64 i) :: List.replicate 10 (.val .undef), ob, []⟩
theorem first_of {α : Type} (ns : List α) (x : α) (r : Bool) (hr : r = true ↔ x ∈ ns) : ∃ j : Int, (decide (j ≥ 0) = r) ∧ (∀ i : Nat, ns[i]? = some x → (∀ k v, k < i → ns[k]? = some v → v ≠ x) → j = i) ∧ ((∀ (k : Nat) v, ns[k]? = some v → v ≠ x) → j = -1) := by
  by_cases hx : x ∈ ns
  · have : ∃ i : Nat, ns[i]? = some x ∧ ∀ k v, k < i → ns[k]? = some v → v ≠ x := by
      apply Classical.byContradiction
      intro hn
      have all : ∀ n : Nat, ∀ k v, k < n → ns[k]? = some v → v ≠ x := by
        intro n
        induction n with
        | zero => intro k d hk; omega
        | succ n ih =>
          intro k v hk hv e
          by_cases hkn : k < n
          · exact ih k v hkn hv e
          · have : k = n := by omega
            subst this; subst e
            exact hn ⟨k, hv, ih⟩
      obtain ⟨i, hi, e⟩ := List.getElem_of_mem hx
      exact all (i + 1) i x (by omega) (by rw [List.getElem?_eq_getElem hi, e]) rfl
    obtain ⟨i, h1, h2⟩ := this
    refine ⟨i, by rw [hr.2 hx]; simp, fun i' h4 h6 => ?_, fun h4 => absurd rfl (h4 i x h1)⟩
    rcases Nat.lt_trichotomy i i' with h7 | h7 | h7
    · exact absurd rfl (h6 i x h7 h1)
    · rw [h7]
    · exact absurd rfl (h2 i' x h7 h4)
  · have hf : r = false := by
      cases r with
      | false => rfl
      | true => exact absurd (hr.1 rfl) hx
    exact ⟨-1, by rw [hf]; decide, fun i h1 _ => absurd (List.mem_of_getElem? h1) hx, fun _ => rfl⟩
theorem hasPred_ok (lab : Nat) (ns : List PV) (sp : List (List LV)) (x : PV) (hl : ns.length ≤ 4611686018427387904) (ob : Obs) (pb : Nat) (r : Bool) (hr : r = true ↔ x ∈ ns) : Gives env4 308 [slP false lab ns sp, pv x] ob pb (.bool r, ob) := by
  have hlen : (ns.map prow).length = ns.length := by simp
  obtain ⟨j, hj0, hg⟩ : ∃ j : Int, decide (j ≥ 0) = r ∧ Gives env4 313 [slP false lab ns sp, pv x] ob (max pb ob.length) (.int .i64 j, ob) := by
    obtain ⟨j, hj0, hj1, hj2⟩ := first_of ns x r hr
    refine ⟨j, hj0, ?_⟩
    refine gives_code (f := tf313) rfl ?_
    conv => whnf
    refine loop_abs (S := fun i : Nat => S313 (slP false lab ns sp) .undef [.str x.1, .int .i64 x.2] (ns.map prow).length i ob) (m := fun i => ns.length - i) (P := fun i => i ≤ ns.length ∧ ∀ k v, k < i → ns[k]? = some v → v ≠ x) ?_ 0 ⟨Nat.zero_le _, fun k s h => by omega⟩ rfl
    rintro R i ⟨hi, hP⟩ hN hE hR
    conv => whnf
    refine sel_split (fun h => ?_) (fun h => ?_)
    · conv => whnf
      have h := of_decide_eq_true h
      rw [hlen] at h
      obtain ⟨v, hv⟩ : ∃ s, ns[i]? = some s := ⟨_, List.getElem?_eq_getElem (show i < ns.length by omega)⟩
      refine ⟨_, ⟨by omega, idx_p hv⟩, ?_⟩
      conv => whnf
      refine sel_split (fun h2 => ?_) (fun h2 => ?_)
      · conv => whnf
        have h2 : v = x := ((pv_eq h2).1 rfl).symm
        refine hR _ ?_
        conv => whnf
        refine ⟨rfl, ?_, rfl⟩
        rw [hj1 i (by rw [hv, h2]) hP]; rfl
      · conv => whnf
        have h2 : v ≠ x := fun e => by have := (pv_eq h2).2 e.symm; cases this
        have e : IntKind.i64.wrap ((i : Int) + 1) = ((i + 1 : Nat) : Int) := by rw [wrap64] <;> omega
        refine hN (i + 1) _ ⟨by omega, fun k s' hk hs' => ?_⟩ (by omega) ?_
        · by_cases hki : k = i
          · subst hki; rw [hv] at hs'; cases hs'; exact h2
          · exact hP k s' (by omega) hs'
        · rw [← e]; rfl
    · conv => whnf
      have h := of_decide_eq_false h
      rw [hlen] at h
      refine hE _ _ ?_
      conv => whnf
      refine ⟨rfl, ?_, rfl⟩
      rw [hj2 (fun k s hk => hP k s (by have := (List.getElem?_eq_some_iff.1 hk).1; omega) hk)]; rfl
  refine gives_code (f := tf308) rfl ?_
  conv => whnf
  refine ⟨_, _, hg, fun _ => rfl, ?_⟩
  conv => whnf
  refine ⟨rfl, ?_, rfl⟩
  show LV.bool _ = LV.bool r
  rw [hj0]
def S289 (v : LV) (bx : List LV) (i : Int) (ob : Obs) : WSt := ⟨.val v :: .val .undef :: .val .undef :: .box bx :: .val .undef :: .val (.int .i64 i) :: List.replicate 12 (.val .undef), ob, []⟩
theorem has_ok (lab : Nat) (ns : List PV) (sp : List (List LV)) (x : PV) (hl : ns.length ≤ 4611686018427387904) (ob : Obs) (pb : Nat) (r : Bool) (hr : r = true ↔ x ∈ ns) : Gives env4 289 [slP false lab ns sp, pv x] ob pb (.bool r, ob) := by
  have hlen : (ns.map prow).length = ns.length := by simp
  refine gives_code (f := tf289) rfl ?_
  conv => whnf
  refine loop_abs (S := fun i : Nat => S289 (slP false lab ns sp) [.str x.1, .int .i64 x.2] i ob) (m := fun i => ns.length - i) (P := fun i => i ≤ ns.length ∧ ∀ k v, k < i → ns[k]? = some v → v ≠ x) ?_ 0 ⟨Nat.zero_le _, fun k s h => by omega⟩ rfl
  rintro R i ⟨hi, hP⟩ hN hE hR
  conv => whnf
  refine sel_split (fun h => ?_) (fun h => ?_)
  · conv => whnf
    have h := of_decide_eq_true h
    rw [hlen] at h
    obtain ⟨v, hv⟩ : ∃ s, ns[i]? = some s := ⟨_, List.getElem?_eq_getElem (show i < ns.length by omega)⟩
    refine ⟨_, ⟨by omega, idx_p hv⟩, ?_⟩
    conv => whnf
    refine sel_split (fun h2 => ?_) (fun h2 => ?_)
    · conv => whnf
      have h2 : v = x := (pv_eq h2).1 rfl
      refine hR _ ?_
      conv => whnf
      refine ⟨rfl, bool_of hr ⟨fun _ => h2 ▸ List.mem_of_getElem? hv, fun _ => rfl⟩, rfl⟩
    · conv => whnf
      have h2 : v ≠ x := fun e => by have := (pv_eq h2).2 e; cases this
      have e : IntKind.i64.wrap ((i : Int) + 1) = ((i + 1 : Nat) : Int) := by rw [wrap64] <;> omega
      refine hN (i + 1) _ ⟨by omega, fun k s' hk hs' => ?_⟩ (by omega) ?_
      · by_cases hki : k = i
        · subst hki; rw [hv] at hs'; cases hs'; exact h2
        · exact hP k s' (by omega) hs'
      · rw [← e]; rfl
  · conv => whnf
    have h := of_decide_eq_false h
    rw [hlen] at h
    refine hE _ _ ?_
    conv => whnf
    refine ⟨rfl, bool_of hr ⟨fun e => (nomatch e), fun hm => ?_⟩, rfl⟩
    obtain ⟨k, hk, e⟩ := List.getElem_of_mem hm
    exact absurd rfl (hP k x (by omega) (by rw [List.getElem?_eq_getElem hk, e]))
open Classical in
/-- What a term calls, or heads. -/
noncomputable def predC : List C → Option PV
  | [] => none
  | c :: _ => if NameP c.text.data.toList then (if c.k = 2 then some (c.text, 0) else if c.k = 3 then some (c.text, c.n) else none) else none
def predV : Option PV → LV
  | some p => .tup [pv p, .bool true]
  | none => .tup [pv (emptyS, 0), .bool false]
theorem predOf_ok (lab : Nat) (cs : List C) (sp : List (List LV)) (hl : cs.length ≤ 4611686018427387904) (hf : ∀ c ∈ cs, c.fine) (ob : Obs) (pb : Nat) : Gives env4 307 [sl5 false lab cs sp] ob pb (predV (predC cs), ob) := by
  have hlen : (cs.map C.row).length = cs.length := by simp
  refine gives_code (f := tf307) rfl ?_
  conv => whnf
  refine sel_split (fun h => ?_) (fun h => ?_)
  · conv => whnf
    rw [hlen] at h
    have h : cs = [] := List.length_eq_zero_iff.1 (by simp at h; simp [h])
    subst h
    exact ⟨rfl, rfl, rfl⟩
  · conv => whnf
    rw [hlen] at h
    obtain ⟨c, r, rfl⟩ : ∃ c r, cs = c :: r := by
      cases cs with
      | nil => simp at h
      | cons c r => exact ⟨c, r, rfl⟩
    obtain ⟨q, hq⟩ := boolOf (NameP c.text.data.toList)
    refine ⟨_, ⟨by omega, idx_row (cs := c :: r) (i := 0) rfl⟩, ?_⟩
    conv => whnf
    refine ⟨_, _, (isName_ok c.text (hf c (List.mem_cons_self ..)).1 ob _ q hq).le le14, fun _ => rfl, ?_⟩
    conv => whnf
    refine sel_split (fun h1 => ?_) (fun h1 => ?_)
    · conv => whnf
      have h1 : q = false := by simpa using h1
      refine ⟨rfl, ?_, rfl⟩
      have : ¬ NameP c.text.data.toList := fun hn => by rw [hq.2 hn] at h1; cases h1
      simp only [predC, if_neg this]; rfl
    · conv => whnf
      have h1 : q = true := by simpa using h1
      have hn := hq.1 h1
      refine ⟨_, ⟨by omega, idx_row (cs := c :: r) (i := 0) rfl⟩, ?_⟩
      conv => whnf
      refine sel_split (fun h2 => ?_) (fun h2 => ?_)
      · conv => whnf
        have h2 : c.k = 2 := by simpa using h2
        refine ⟨rfl, ?_, rfl⟩
        simp only [predC, if_pos hn, if_pos h2]; rfl
      · conv => whnf
        have h2 : c.k ≠ 2 := by simpa using h2
        refine sel_split (fun h3 => ?_) (fun h3 => ?_)
        · conv => whnf
          have h3 : c.k = 3 := by simpa using h3
          refine ⟨rfl, ?_, rfl⟩
          simp only [predC, if_pos hn, if_neg h2, if_pos h3]; rfl
        · conv => whnf
          have h3 : c.k ≠ 3 := by simpa using h3
          refine ⟨rfl, ?_, rfl⟩
          simp only [predC, if_pos hn, if_neg h2, if_neg h3]; rfl
def IsP (cs : List C) (s : ByteArray) (n : Int) : Prop := ∃ c r, cs = c :: r ∧ c.text = s ∧ (c.k = 3 ∧ c.n = n ∨ n = 0 ∧ c.k = 2)
theorem is_ok (lab : Nat) (cs : List C) (sp : List (List LV)) (s : ByteArray) (n : Int) (ob : Obs) (pb : Nat) (r : Bool) (hr : r = true ↔ IsP cs s n) : Gives env4 312 [sl5 false lab cs sp, .str s, .int .i64 n] ob pb (.bool r, ob) := by
  have hlen : (cs.map C.row).length = cs.length := by simp
  refine gives_code (f := tf312) rfl ?_
  conv => whnf
  refine sel_split (fun h => ?_) (fun h => ?_)
  · conv => whnf
    rw [hlen] at h
    have h : cs = [] := List.length_eq_zero_iff.1 (by simp at h; simp [h])
    subst h
    refine ⟨rfl, bool_of hr ⟨fun e => (nomatch e), fun ⟨c, r, e, _⟩ => by cases e⟩, rfl⟩
  · conv => whnf
    rw [hlen] at h
    obtain ⟨c, t, rfl⟩ : ∃ c r, cs = c :: r := by
      cases cs with
      | nil => simp at h
      | cons c r => exact ⟨c, r, rfl⟩
    have hP : IsP (c :: t) s n ↔ c.text = s ∧ (c.k = 3 ∧ c.n = n ∨ n = 0 ∧ c.k = 2) := by
      constructor
      · rintro ⟨c', r', e, h⟩; cases e; exact h
      · intro h; exact ⟨c, t, rfl, h⟩
    rw [hP] at hr
    refine ⟨_, ⟨by omega, idx_row (cs := c :: t) (i := 0) rfl⟩, ?_⟩
    conv => whnf
    refine sel_split (fun h1 => ?_) (fun h1 => ?_)
    · conv => whnf
      have h1 : c.text ≠ s := by simpa [bytes_eq] using h1
      refine ⟨rfl, bool_of hr ⟨fun e => (nomatch e), fun h => absurd h.1 h1⟩, rfl⟩
    · conv => whnf
      have h1 : c.text = s := by simpa [bytes_eq] using h1
      refine ⟨_, ⟨by omega, idx_row (cs := c :: t) (i := 0) rfl⟩, ?_⟩
      conv => whnf
      refine sel_split (fun h2 => ?_) (fun h2 => ?_)
      · conv => whnf
        have h2 : c.k = 3 := by simpa using h2
        refine ⟨_, ⟨by omega, idx_row (cs := c :: t) (i := 0) rfl⟩, ?_⟩
        conv => whnf
        refine sel_split (fun h3 => ?_) (fun h3 => ?_)
        · conv => whnf
          have h3 : c.n = n := by simpa using h3
          exact ⟨rfl, bool_of hr ⟨fun _ => ⟨h1, .inl ⟨h2, h3⟩⟩, fun _ => rfl⟩, rfl⟩
        · conv => whnf
          have h3 : c.n ≠ n := by simpa using h3
          refine sel_split (fun h4 => ?_) (fun h4 => ?_)
          · conv => whnf
            refine ⟨_, ⟨by omega, idx_row (cs := c :: t) (i := 0) rfl⟩, ?_⟩
            conv => whnf
            refine ⟨rfl, bool_of hr ⟨fun e => ?_, fun h => ?_⟩, rfl⟩
            · have e : c.k = 2 := by simpa using e
              omega
            · exfalso; rcases h.2 with g | g
              · exact h3 g.2
              · omega
          · conv => whnf
            have h4 : n ≠ 0 := by simpa using h4
            refine ⟨rfl, bool_of hr ⟨fun e => (nomatch e), fun h => ?_⟩, rfl⟩
            exfalso; rcases h.2 with g | g
            · exact h3 g.2
            · exact h4 g.1
      · conv => whnf
        have h2 : c.k ≠ 3 := by simpa using h2
        refine sel_split (fun h4 => ?_) (fun h4 => ?_)
        · conv => whnf
          have h4 : n = 0 := by simpa using h4
          refine ⟨_, ⟨by omega, idx_row (cs := c :: t) (i := 0) rfl⟩, ?_⟩
          conv => whnf
          refine ⟨rfl, bool_of hr ⟨fun e => ?_, fun h => ?_⟩, rfl⟩
          · have e : c.k = 2 := by simpa using e
            exact ⟨h1, .inr ⟨h4, e⟩⟩
          · rcases h.2 with g | g
            · exact absurd g.1 h2
            · simp [g.2]
        · conv => whnf
          have h4 : n ≠ 0 := by simpa using h4
          refine ⟨rfl, bool_of hr ⟨fun e => (nomatch e), fun h => ?_⟩, rfl⟩
          exfalso; rcases h.2 with g | g
          · exact h2 g.1
          · exact h4 g.1
end Tree
