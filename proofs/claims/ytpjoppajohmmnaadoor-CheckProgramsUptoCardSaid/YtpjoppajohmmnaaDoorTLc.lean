/- Layer 4: predicates in rows; what a term calls, or heads. -/
import Derived.Test.YtpjoppajohmmnaaDoorL4Env
import Derived.Test.YtpjoppajohmmnaaDoorTLb
import Derived.Test.YtpjoppajohmmnaaDoorTW
set_option autoImplicit false
set_option linter.unusedVariables false
set_option linter.unusedSimpArgs false
namespace Tree
open Go
set_option maxHeartbeats 4000000
set_option maxRecDepth 100000
abbrev PV := ByteArray × Int
def prow (v : PV) : List LV := [.str v.1, .int .i64 v.2]
abbrev slP (o : Bool) (l : Nat) (ns : List PV) (sp : List (List LV)) : LV := .sl o l 2 (ns.map prow) sp
def pv (v : PV) : LV := .agg [.str v.1, .int .i64 v.2]
theorem idx_p {ns : List PV} {i : Nat} {v : PV} (h : ns[i]? = some v) : (ns.map prow)[i]? = some [.str v.1, .int .i64 v.2] := by
  rw [List.getElem?_map, h]; rfl
theorem noRefP (n : Nat) (o : Bool) (l : Nat) (ns : List PV) : (slP o l ns []).noRef n = true := by
  have : LV.noRefss n (ns.map prow) = true := by
    induction ns with
    | nil => simp [LV.noRefss]
    | cons v ns ih => simp [LV.noRefss, ih, prow, LV.noRefs, LV.noRef]
  simp [LV.noRef, LV.noRefss, this]
theorem pv_eq {v x : PV} {q : Bool} (h : ((v.1.toList == x.1.toList) && ((v.2 == x.2) && true)) = q) : q = true ↔ v = x := by
  subst h
  obtain ⟨a, b⟩ := v; obtain ⟨c, d⟩ := x
  simp [bytes_eq]
def S313 (v x : LV) (bx : List LV) (n : Nat) (i : Int) (ob : Obs) : WSt := ⟨.val v :: .val .undef :: .val .undef :: .box bx :: .val .undef :: .val .undef :: .val .undef :: .val (.int .i64 n) :: .val (.int .i64 i) :: List.replicate 10 (.val .undef), ob, []⟩
theorem first_of {α : Type} (ns : List α) (x : α) (r : Bool) (hr : r = true ↔ x ∈ ns) : ∃ j : Int, (decide (j ≥ 0) = r) ∧ (∀ i : Nat, ns[i]? = some x → (∀ k v, k < i → ns[k]? = some v → v ≠ x) → j = i) ∧ ((∀ (k : Nat) v, ns[k]? = some v → v ≠ x) → j = -1) := by
  by_cases hx : x ∈ ns
  · have : ∃ i : Nat, ns[i]? = some x ∧ ∀ k v, k < i → ns[k]? = some v → v ≠ x := by
      apply Classical.byContradiction
      intro hn
      have all : ∀ n : Nat, ∀ k v, k < n → ns[k]? = some v → v ≠ x := by
        intro n
        induction n with
        | zero => intro k d hk; omega
        | succ n ih =>
          intro k v hk hv e
          by_cases hkn : k < n
          · exact ih k v hkn hv e
          · have : k = n := by omega
            subst this; subst e
            exact hn ⟨k, hv, ih⟩
      obtain ⟨i, hi, e⟩ := List.getElem_of_mem hx
      exact all (i + 1) i x (by omega) (by rw [List.getElem?_eq_getElem hi, e]) rfl
    obtain ⟨i, h1, h2⟩ := this
    refine ⟨i, by rw [hr.2 hx]; simp, fun i' h4 h6 => ?_, fun h4 => absurd rfl (h4 i x h1)⟩
    rcases Nat.lt_trichotomy i i' with h7 | h7 | h7
    · exact absurd rfl (h6 i x h7 h1)
    · rw [h7]
    · exact absurd rfl (h2 i' x h7 h4)
  · have hf : r = false := by
      cases r with
      | false => rfl
      | true => exact absurd (hr.1 rfl) hx
    exact ⟨-1, by rw [hf]; decide, fun i h1 _ => absurd (List.mem_of_getElem? h1) hx, fun _ => rfl⟩
theorem hasPred_ok (lab : Nat) (ns : List PV) (sp : List (List LV)) (x : PV) (hl : ns.length ≤ 4611686018427387904) (ob : Obs) (pb : Nat) (r : Bool) (hr : r = true ↔ x ∈ ns) : Gives env4 308 [slP false lab ns sp, pv x] ob pb (.bool r, ob) := by
  have hlen : (ns.map prow).length = ns.length := by simp
  obtain ⟨j, hj0, hg⟩ : ∃ j : Int, decide (j ≥ 0) = r ∧ Gives env4 313 [slP false lab ns sp, pv x] ob (max pb ob.length) (.int .i64 j, ob) := by
    obtain ⟨j, hj0, hj1, hj2⟩ := first_of ns x r hr
    refine ⟨j, hj0, ?_⟩
    refine gives_code (f := tf313) rfl ?_
    conv => whnf
    refine loop_abs (S := fun i : Nat => S313 (slP false lab ns sp) .undef [.str x.1, .int .i64 x.2] (ns.map prow).length i ob) (m := fun i => ns.length - i) (P := fun i => i ≤ ns.length ∧ ∀ k v, k < i → ns[k]? = some v → v ≠ x) ?_ 0 ⟨Nat.zero_le _, fun k s h => by omega⟩ rfl
    rintro R i ⟨hi, hP⟩ hN hE hR
    conv => whnf
    refine sel_split (fun h => ?_) (fun h => ?_)
    · conv => whnf
      have h := of_decide_eq_true h
      rw [hlen] at h
      obtain ⟨v, hv⟩ : ∃ s, ns[i]? = some s := ⟨_, List.getElem?_eq_getElem (show i < ns.length by omega)⟩
      refine ⟨_, ⟨by omega, idx_p hv⟩, ?_⟩
      conv => whnf
      refine sel_split (fun h2 => ?_) (fun h2 => ?_)
      · conv => whnf
        have h2 : v = x := ((pv_eq h2).1 rfl).symm
        refine hR _ ?_
        conv => whnf
        refine ⟨rfl, ?_, rfl⟩
        rw [hj1 i (by rw [hv, h2]) hP]; rfl
      · conv => whnf
        have h2 : v ≠ x := fun e => by have := (pv_eq h2).2 e.symm; cases this
        have e : IntKind.i64.wrap ((i : Int) + 1) = ((i + 1 : Nat) : Int) := by rw [wrap64] <;> omega
        refine hN (i + 1) _ ⟨by omega, fun k s' hk hs' => ?_⟩ (by omega) ?_
        · by_cases hki : k = i
          · subst hki; rw [hv] at hs'; cases hs'; exact h2
          · exact hP k s' (by omega) hs'
        · rw [← e]; rfl
    · conv => whnf
      have h := of_decide_eq_false h
      rw [hlen] at h
      refine hE _ _ ?_
      conv => whnf
      refine ⟨rfl, ?_, rfl⟩
      rw [hj2 (fun k s hk => hP k s (by have := (List.getElem?_eq_some_iff.1 hk).1; omega) hk)]; rfl
  refine gives_code (f := tf308) rfl ?_
  conv => whnf
  refine ⟨_, _, hg, fun _ => rfl, ?_⟩
  conv => whnf
  refine ⟨rfl, ?_, rfl⟩
  show LV.bool _ = LV.bool r
  rw [hj0]
open Classical in
/-- What a term calls, or heads. -/
noncomputable def predC : List C → Option PV
  | [] => none
  | c :: _ => if NameP c.text.data.toList then (if c.k = 2 then some (c.text, 0) else if c.k = 3 then some (c.text, c.n) else none) else none
def predV : Option PV → LV
  | some p => .tup [pv p, .bool true]
  | none => .tup [pv (emptyS, 0), .bool false]
theorem predOf_ok (lab : Nat) (cs : List C) (sp : List (List LV)) (hl : cs.length ≤ 4611686018427387904) (hf : ∀ c ∈ cs, c.fine) (ob : Obs) (pb : Nat) : Gives env4 307 [sl5 false lab cs sp] ob pb (predV (predC cs), ob) := by
  have hlen : (cs.map C.row).length = cs.length := by simp
  refine gives_code (f := tf307) rfl ?_
  conv => whnf
  refine sel_split (fun h => ?_) (fun h => ?_)
  · conv => whnf
    rw [hlen] at h
    have h : cs = [] := List.length_eq_zero_iff.1 (by simp at h; simp [h])
    subst h
    exact ⟨rfl, rfl, rfl⟩
  · conv => whnf
    rw [hlen] at h
    obtain ⟨c, r, rfl⟩ : ∃ c r, cs = c :: r := by
      cases cs with
      | nil => simp at h
      | cons c r => exact ⟨c, r, rfl⟩
    obtain ⟨q, hq⟩ := boolOf (NameP c.text.data.toList)
    refine ⟨_, ⟨by omega, idx_row (cs := c :: r) (i := 0) rfl⟩, ?_⟩
    conv => whnf
    refine ⟨_, _, (isName_ok c.text (hf c (List.mem_cons_self ..)).1 ob _ q hq).le le14, fun _ => rfl, ?_⟩
    conv => whnf
    refine sel_split (fun h1 => ?_) (fun h1 => ?_)
    · conv => whnf
      have h1 : q = false := by simpa using h1
      refine ⟨rfl, ?_, rfl⟩
      have : ¬ NameP c.text.data.toList := fun hn => by rw [hq.2 hn] at h1; cases h1
      simp only [predC, if_neg this]; rfl
    · conv => whnf
      have h1 : q = true := by simpa using h1
      have hn := hq.1 h1
      refine ⟨_, ⟨by omega, idx_row (cs := c :: r) (i := 0) rfl⟩, ?_⟩
      conv => whnf
      refine sel_split (fun h2 => ?_) (fun h2 => ?_)
      · conv => whnf
        have h2 : c.k = 2 := by simpa using h2
        refine ⟨rfl, ?_, rfl⟩
        simp only [predC, if_pos hn, if_pos h2]; rfl
      · conv => whnf
        have h2 : c.k ≠ 2 := by simpa using h2
        refine sel_split (fun h3 => ?_) (fun h3 => ?_)
        · conv => whnf
          have h3 : c.k = 3 := by simpa using h3
          refine ⟨rfl, ?_, rfl⟩
          simp only [predC, if_pos hn, if_neg h2, if_pos h3]; rfl
        · conv => whnf
          have h3 : c.k ≠ 3 := by simpa using h3
          refine ⟨rfl, ?_, rfl⟩
          simp only [predC, if_pos hn, if_neg h2, if_neg h3]; rfl
def IsP (cs : List C) (s : ByteArray) (n : Int) : Prop := ∃ c r, cs = c :: r ∧ c.text = s ∧ (c.k = 3 ∧ c.n = n ∨ n = 0 ∧ c.k = 2)
theorem is_ok (lab : Nat) (cs : List C) (sp : List (List LV)) (s : ByteArray) (n : Int) (ob : Obs) (pb : Nat) (r : Bool) (hr : r = true ↔ IsP cs s n) : Gives env4 312 [sl5 false lab cs sp, .str s, .int .i64 n] ob pb (.bool r, ob) := by
  have hlen : (cs.map C.row).length = cs.length := by simp
  refine gives_code (f := tf312) rfl ?_
  conv => whnf
  refine sel_split (fun h => ?_) (fun h => ?_)
  · conv => whnf
    rw [hlen] at h
    have h : cs = [] := List.length_eq_zero_iff.1 (by simp at h; simp [h])
    subst h
    refine ⟨rfl, bool_of hr ⟨fun e => (nomatch e), fun ⟨c, r, e, _⟩ => by cases e⟩, rfl⟩
  · conv => whnf
    rw [hlen] at h
    obtain ⟨c, t, rfl⟩ : ∃ c r, cs = c :: r := by
      cases cs with
      | nil => simp at h
      | cons c r => exact ⟨c, r, rfl⟩
    have hP : IsP (c :: t) s n ↔ c.text = s ∧ (c.k = 3 ∧ c.n = n ∨ n = 0 ∧ c.k = 2) := by
      constructor
      · rintro ⟨c', r', e, h⟩; cases e; exact h
      · intro h; exact ⟨c, t, rfl, h⟩
    rw [hP] at hr
    refine ⟨_, ⟨by omega, idx_row (cs := c :: t) (i := 0) rfl⟩, ?_⟩
    conv => whnf
    refine sel_split (fun h1 => ?_) (fun h1 => ?_)
    · conv => whnf
      have h1 : c.text ≠ s := by simpa [bytes_eq] using h1
      refine ⟨rfl, bool_of hr ⟨fun e => (nomatch e), fun h => absurd h.1 h1⟩, rfl⟩
    · conv => whnf
      have h1 : c.text = s := by simpa [bytes_eq] using h1
      refine ⟨_, ⟨by omega, idx_row (cs := c :: t) (i := 0) rfl⟩, ?_⟩
      conv => whnf
      refine sel_split (fun h2 => ?_) (fun h2 => ?_)
      · conv => whnf
        have h2 : c.k = 3 := by simpa using h2
        refine ⟨_, ⟨by omega, idx_row (cs := c :: t) (i := 0) rfl⟩, ?_⟩
        conv => whnf
        refine sel_split (fun h3 => ?_) (fun h3 => ?_)
        · conv => whnf
          have h3 : c.n = n := by simpa using h3
          exact ⟨rfl, bool_of hr ⟨fun _ => ⟨h1, .inl ⟨h2, h3⟩⟩, fun _ => rfl⟩, rfl⟩
        · conv => whnf
          have h3 : c.n ≠ n := by simpa using h3
          refine sel_split (fun h4 => ?_) (fun h4 => ?_)
          · conv => whnf
            refine ⟨_, ⟨by omega, idx_row (cs := c :: t) (i := 0) rfl⟩, ?_⟩
            conv => whnf
            refine ⟨rfl, bool_of hr ⟨fun e => ?_, fun h => ?_⟩, rfl⟩
            · have e : c.k = 2 := by simpa using e
              omega
            · exfalso; rcases h.2 with g | g
              · exact h3 g.2
              · omega
          · conv => whnf
            have h4 : n ≠ 0 := by simpa using h4
            refine ⟨rfl, bool_of hr ⟨fun e => (nomatch e), fun h => ?_⟩, rfl⟩
            exfalso; rcases h.2 with g | g
            · exact h3 g.2
            · exact h4 g.1
      · conv => whnf
        have h2 : c.k ≠ 3 := by simpa using h2
        refine sel_split (fun h4 => ?_) (fun h4 => ?_)
        · conv => whnf
          have h4 : n = 0 := by simpa using h4
          refine ⟨_, ⟨by omega, idx_row (cs := c :: t) (i := 0) rfl⟩, ?_⟩
          conv => whnf
          refine ⟨rfl, bool_of hr ⟨fun e => ?_, fun h => ?_⟩, rfl⟩
          · have e : c.k = 2 := by simpa using e
            exact ⟨h1, .inr ⟨h4, e⟩⟩
          · rcases h.2 with g | g
            · exact absurd g.1 h2
            · simp [g.2]
        · conv => whnf
          have h4 : n ≠ 0 := by simpa using h4
          refine ⟨rfl, bool_of hr ⟨fun e => (nomatch e), fun h => ?_⟩, rfl⟩
          exfalso; rcases h.2 with g | g
          · exact h2 g.1
          · exact h4 g.1
end Tree

set_option autoImplicit false
set_option linter.unusedVariables false
set_option linter.unusedSimpArgs false
namespace Tree
open Go
set_option maxHeartbeats 4000000
set_option maxRecDepth 100000
def atS : ByteArray := ⟨#[64]⟩
def trueS : ByteArray := ⟨#[116, 114, 117, 101]⟩
open Classical in
/-- What a right goal calls. -/
noncomputable def callC (cs : List C) : Option PV :=
  if RightP cs then
    match predC (if IsP cs atS 2 then (argsR cs).headD [] else cs) with
    | some q => if q = (trueS, 0) then none else some q
    | none => none
  else none
open Classical in
noncomputable def addP (acc : List PV) (v : PV) : List PV := if v ∈ acc then acc else acc ++ [v]
noncomputable def addO (acc : List PV) (v : Option PV) : List PV := match v with
  | some v => addP acc v
  | none => acc
noncomputable def callsC (acc : List PV) (ts : List T1) : List PV := ts.foldl (fun acc t => addO acc (callC t.cs)) acc
theorem callsC_take {ts : List T1} {i : Nat} {t : T1} (h : ts[i]? = some t) (acc : List PV) : callsC acc (ts.take (i + 1)) = addO (callsC acc (ts.take i)) (callC t.cs) := by
  rw [List.take_add_one, h]; simp [callsC]
theorem addO_len (acc : List PV) (v : Option PV) : (addO acc v).length ≤ acc.length + 1 := by
  unfold addO; split
  · unfold addP; split <;> simp
  · omega
theorem callsC_len : ∀ (ts : List T1) (acc : List PV), (callsC acc ts).length ≤ acc.length + ts.length
  | [], acc => by simp [callsC]
  | t :: ts, acc => by
    have h1 := addO_len acc (callC t.cs)
    have h2 := callsC_len ts (addO acc (callC t.cs))
    have e : callsC acc (t :: ts) = callsC (addO acc (callC t.cs)) ts := rfl
    rw [e, List.length_cons]; omega
theorem pv_neq {v x : PV} {q : Bool} (h : (!((v.1.toList == x.1.toList) && ((v.2 == x.2) && true))) = q) : q = false ↔ v = x := by
  rw [← pv_eq rfl, ← h]; simp
theorem noRefM (n : Nat) (l : List (List C)) : (sl1 true 0 (l.map T1.mk0) []).noRef n = true := by
  have := noRef1 n true 0 (l.map T1.mk0)
  have e : (l.map T1.mk0).map T1.own = l.map T1.mk0 := by rw [List.map_map]; rfl
  rw [e] at this; exact this
theorem noRefPV (n : Nat) (p : Option PV) : (predV p).noRef n = true := by
  cases p <;> simp [predV, pv, LV.noRef, LV.noRefs]
def S300 (v o : LV) (n : Nat) (i : Int) (ob : Obs) : WSt := ⟨List.replicate 3 (.val .undef) ++ .val o :: List.replicate 4 (.val .undef) ++ .val v :: .val (.int .i64 n) :: .val (.int .i64 i) :: List.replicate 35 (.val .undef), ob, []⟩
theorem calls_ok (lab : Nat) (ts : List T1) (sp : List (List LV)) (hl : ts.length ≤ 1048576) (hf : ∀ t ∈ ts, t.fine) (ob : Obs) (pb : Nat) : Gives env4 300 [sl1 false lab ts sp] ob pb (slP true 0 (callsC [] ts) [], ob) := by
  have hlen : (ts.map T1.row).length = ts.length := by simp
  refine gives_code (f := tf300) rfl ?_
  conv => whnf
  refine loop_abs (S := fun i : Nat => S300 (sl1 false lab ts sp) (slP true 0 (callsC [] (ts.take i)) []) (ts.map T1.row).length i ob) (m := fun i => ts.length - i) (P := fun i => i ≤ ts.length) ?_ 0 (Nat.zero_le _) rfl
  intro R i hi hN hE hR
  conv => whnf
  refine sel_split (fun h => ?_) (fun h => ?_)
  · conv => whnf
    have h := of_decide_eq_true h
    rw [hlen] at h
    obtain ⟨t, ht⟩ : ∃ t, ts[i]? = some t := ⟨_, List.getElem?_eq_getElem (show i < ts.length by omega)⟩
    have e : IntKind.i64.wrap ((i : Int) + 1) = ((i + 1 : Nat) : Int) := by rw [wrap64] <;> omega
    have hstep := callsC_take ht []
    have hacc := callsC_len (ts.take i) []
    have htk : (ts.take i).length ≤ i := by rw [List.length_take]; exact Nat.min_le_left _ _
    simp only [List.length_nil, Nat.zero_add] at hacc
    have htf := hf t (List.mem_of_getElem? ht)
    refine ⟨_, ⟨by omega, idx_t ht⟩, ?_⟩
    conv => whnf
    obtain ⟨r, hr⟩ := boolOf (RightP t.cs)
    refine ⟨_, _, (right_ok t.lab t.cs t.sp htf.1 htf.2 ob _ r hr).le le14, fun _ => rfl, ?_⟩
    conv => whnf
    refine sel_split (fun h1 => ?_) (fun h1 => ?_)
    · conv => whnf
      have h1 : r = false := by simpa using h1
      have hst : callsC [] (ts.take (i + 1)) = callsC [] (ts.take i) := by
        rw [hstep]; unfold callC; rw [if_neg (fun hR => by rw [hr.2 hR] at h1; cases h1)]; rfl
      refine hN (i + 1) _ (by omega) (by omega) ?_
      rw [← e, hst]; rfl
    · conv => whnf
      have h1 : r = true := by simpa using h1
      have hRt := hr.1 h1
      obtain ⟨k, hk⟩ := boolOf (IsP t.cs atS 2)
      refine ⟨_, _, is_ok t.lab t.cs t.sp atS 2 ob _ k hk, fun _ => rfl, ?_⟩
      conv => whnf
      refine sel_split (fun h2 => ?_) (fun h2 => ?_)
      · have h2 := hk.1 h2
        obtain ⟨a, rest, ha, haf⟩ : ∃ a rest, argsR t.cs = a :: rest ∧ (∀ c ∈ a, c.fine) ∧ a.length ≤ 256 := by
          obtain ⟨c, r', hc, h3, h4⟩ := h2
          have h5 : c.k = 3 := by
            rcases h4 with g | g
            · exact g.1
            · omega
          rw [hc] at hRt
          obtain ⟨f1, f2, f3, f4⟩ := args_facts hRt h5
          obtain ⟨g1, g2, g3, g4⟩ := struct_facts hRt h5
          cases hx : argsR (c :: r') with
          | nil => rw [hx] at f2; simp at f2; omega
          | cons a rest =>
            have ham : a ∈ argsR (c :: r') := by rw [hx]; exact List.mem_cons_self ..
            refine ⟨a, rest, by rw [hc, hx], fun d hd => htf.2 d ?_, (f4 a ham).2.1⟩
            rw [hc]; refine List.mem_cons_of_mem _ ?_
            rw [← f3]; exact List.mem_flatten.2 ⟨a, ham, hd⟩
        have hcall : callC t.cs = match predC a with
            | some q => if q = (trueS, 0) then none else some q
            | none => none := by
          unfold callC; rw [if_pos hRt, if_pos h2, ha]; rfl
        conv => whnf
        refine ⟨_, _, (args_ok t.lab t.cs t.sp htf.1 htf.2 ob _).le le14, fun _ => noRefM _ _, ?_⟩
        rw [ha]
        conv => whnf
        refine ⟨_, ⟨by omega, idx_t (ts := (a :: rest).map T1.mk0) (i := 0) rfl⟩, ?_⟩
        conv => whnf

        refine ⟨_, _, predOf_ok 0 a [] (by omega) haf.1 ob _, fun _ => noRefPV _ _, ?_⟩
        rcases hp : predC a with _ | q
        · conv => whnf
          refine hN (i + 1) _ (by omega) (by omega) ?_
          rw [← e, hstep, hcall, hp]; rfl
        · conv => whnf
          refine sel_split (fun h4 => ?_) (fun h4 => ?_)
          · conv => whnf
            have h4 : q ≠ (trueS, 0) := fun hq => by have := (pv_neq (x := (trueS, 0)) h4).2 hq; cases this
            obtain ⟨b, hb⟩ := boolOf (q ∈ callsC [] (ts.take i))
            refine ⟨_, _, hasPred_ok 0 _ [] q (by omega) ob _ b hb, fun _ => rfl, ?_⟩
            conv => whnf
            refine sel_split (fun h5 => ?_) (fun h5 => ?_)
            · conv => whnf
              have h5 : b = false := by simpa using h5
              have h5 : q ∉ callsC [] (ts.take i) := fun hm => by rw [hb.2 hm] at h5; cases h5
              have hst : callsC [] (ts.take (i + 1)) = callsC [] (ts.take i) ++ [q] := by
                rw [hstep, hcall, hp]; simp only [if_neg h4]; show addP _ _ = _; unfold addP; rw [if_neg h5]
              refine ⟨(callsC [] (ts.take (i + 1))).map prow, ⟨.inl rfl, ?_, ?_⟩, ?_⟩
              · show (((callsC [] (ts.take i)).map prow).length + 1) * 24 ≤ _
                rw [List.length_map]; omega
              · rw [hst, List.map_append]; rfl
              conv => whnf
              refine hN (i + 1) _ (by omega) (by omega) ?_
              rw [← e]; rfl
            · conv => whnf
              have h5 : b = true := by simpa using h5
              have hst : callsC [] (ts.take (i + 1)) = callsC [] (ts.take i) := by
                rw [hstep, hcall, hp]; simp only [if_neg h4]; show addP _ _ = _; unfold addP; rw [if_pos (hb.1 h5)]
              refine hN (i + 1) _ (by omega) (by omega) ?_
              rw [← e, hst]; rfl
          · conv => whnf
            have h4 : q = (trueS, 0) := (pv_neq (x := (trueS, 0)) h4).1 rfl
            have hst : callsC [] (ts.take (i + 1)) = callsC [] (ts.take i) := by
              rw [hstep, hcall, hp]; simp only [if_pos h4]; rfl
            refine hN (i + 1) _ (by omega) (by omega) ?_
            rw [← e, hst]; rfl
      · have h2 : ¬ IsP t.cs atS 2 := fun hn => by rw [hk.2 hn] at h2; cases h2
        have hcall : callC t.cs = match predC t.cs with
            | some q => if q = (trueS, 0) then none else some q
            | none => none := by
          unfold callC; rw [if_pos hRt, if_neg h2]
        conv => whnf
        refine ⟨_, _, predOf_ok t.lab t.cs t.sp htf.1 htf.2 ob _, fun _ => noRefPV _ _, ?_⟩
        rcases hp : predC t.cs with _ | q
        · conv => whnf
          refine hN (i + 1) _ (by omega) (by omega) ?_
          rw [← e, hstep, hcall, hp]; rfl
        · conv => whnf
          refine sel_split (fun h4 => ?_) (fun h4 => ?_)
          · conv => whnf
            have h4 : q ≠ (trueS, 0) := fun hq => by have := (pv_neq (x := (trueS, 0)) h4).2 hq; cases this
            obtain ⟨b, hb⟩ := boolOf (q ∈ callsC [] (ts.take i))
            refine ⟨_, _, hasPred_ok 0 _ [] q (by omega) ob _ b hb, fun _ => rfl, ?_⟩
            conv => whnf
            refine sel_split (fun h5 => ?_) (fun h5 => ?_)
            · conv => whnf
              have h5 : b = false := by simpa using h5
              have h5 : q ∉ callsC [] (ts.take i) := fun hm => by rw [hb.2 hm] at h5; cases h5
              have hst : callsC [] (ts.take (i + 1)) = callsC [] (ts.take i) ++ [q] := by
                rw [hstep, hcall, hp]; simp only [if_neg h4]; show addP _ _ = _; unfold addP; rw [if_neg h5]
              refine ⟨(callsC [] (ts.take (i + 1))).map prow, ⟨.inl rfl, ?_, ?_⟩, ?_⟩
              · show (((callsC [] (ts.take i)).map prow).length + 1) * 24 ≤ _
                rw [List.length_map]; omega
              · rw [hst, List.map_append]; rfl
              conv => whnf
              refine hN (i + 1) _ (by omega) (by omega) ?_
              rw [← e]; rfl
            · conv => whnf
              have h5 : b = true := by simpa using h5
              have hst : callsC [] (ts.take (i + 1)) = callsC [] (ts.take i) := by
                rw [hstep, hcall, hp]; simp only [if_neg h4]; show addP _ _ = _; unfold addP; rw [if_pos (hb.1 h5)]
              refine hN (i + 1) _ (by omega) (by omega) ?_
              rw [← e, hst]; rfl
          · conv => whnf
            have h4 : q = (trueS, 0) := (pv_neq (x := (trueS, 0)) h4).1 rfl
            have hst : callsC [] (ts.take (i + 1)) = callsC [] (ts.take i) := by
              rw [hstep, hcall, hp]; simp only [if_pos h4]; rfl
            refine hN (i + 1) _ (by omega) (by omega) ?_
            rw [← e, hst]; rfl
  · conv => whnf
    have h := of_decide_eq_false h
    rw [hlen] at h
    have : i = ts.length := by omega
    subst this
    refine hE _ _ ?_
    conv => whnf
    refine ⟨rfl, ?_, rfl⟩
    rw [List.take_length]; rfl
end Tree

set_option autoImplicit false
set_option linter.unusedVariables false
set_option linter.unusedSimpArgs false
namespace Tree
open Go
set_option maxHeartbeats 4000000
set_option maxRecDepth 100000
structure Cl where
  hlab : Nat
  head : List C
  hsp : List (List LV)
  glab : Nat
  guards : List T1
  gsp : List (List LV)
  blab : Nat
  body : List T1
  bsp : List (List LV)
  locals : Int
def Cl.row (c : Cl) : List LV := [sl5 false c.hlab c.head c.hsp, sl1 false c.glab c.guards c.gsp, sl1 false c.blab c.body c.bsp, .int .i64 c.locals]
abbrev slC (o : Bool) (l : Nat) (ns : List Cl) (sp : List (List LV)) : LV := .sl o l 4 (ns.map Cl.row) sp
theorem idx_c {ns : List Cl} {i : Nat} {c : Cl} (h : ns[i]? = some c) : (ns.map Cl.row)[i]? = some [.sl false c.hlab 5 (c.head.map C.row) c.hsp, .sl false c.glab 1 (c.guards.map T1.row) c.gsp, .sl false c.blab 1 (c.body.map T1.row) c.bsp, .int .i64 c.locals] := by
  rw [List.getElem?_map, h]; rfl
structure Cl.fine (c : Cl) : Prop where
  hl : c.head.length ≤ 1048576
  hf : ∀ d ∈ c.head, d.fine
  gl : c.guards.length ≤ 1048576
  gf : ∀ t ∈ c.guards, t.fine
  bl : c.body.length ≤ 1048576
  bf : ∀ t ∈ c.body, t.fine
  hn : ∀ n, LV.noRefss n c.hsp = true
  gn : ∀ t ∈ c.guards, ∀ n, LV.noRefss n t.sp = true
  bn : ∀ t ∈ c.body, ∀ n, LV.noRefss n t.sp = true
  gc : ∀ t ∈ c.guards, t.cs.length ≤ 1048576
  bc : ∀ t ∈ c.body, t.cs.length ≤ 1048576
def irow (n : Nat) : List LV := [.int .i64 n]
abbrev slN (o : Bool) (l : Nat) (ns : List Nat) (sp : List (List LV)) : LV := .sl o l 1 (ns.map irow) sp
theorem noRefN (n : Nat) (o : Bool) (l : Nat) (ns : List Nat) : (slN o l ns []).noRef n = true := by
  have : LV.noRefss n (ns.map irow) = true := by
    induction ns with
    | nil => simp [LV.noRefss]
    | cons v ns ih => simp [LV.noRefss, ih, irow, LV.noRefs, LV.noRef]
  simp [LV.noRef, LV.noRefss, this]
open Classical in
noncomputable def clausesN (p : List Cl) (q : PV) (i : Nat) : List Nat := (List.range i).filter fun j => decide (∃ c, p[j]? = some c ∧ predC c.head = some q)
noncomputable def clausesC (p : List Cl) (q : PV) : List Nat := clausesN p q p.length
theorem clausesN_mem {p : List Cl} {q : PV} {i j : Nat} : j ∈ clausesN p q i ↔ j < i ∧ ∃ c, p[j]? = some c ∧ predC c.head = some q := by
  simp [clausesN]
theorem clausesN_len (p : List Cl) (q : PV) (i : Nat) : (clausesN p q i).length ≤ i := by
  unfold clausesN; exact Nat.le_trans (List.length_filter_le ..) (by rw [List.length_range]; exact Nat.le_refl _)
theorem clausesN_yes {p : List Cl} {q : PV} {i : Nat} {c : Cl} (h : p[i]? = some c) (hq : predC c.head = some q) : clausesN p q (i + 1) = clausesN p q i ++ [i] := by
  unfold clausesN
  rw [List.range_succ, List.filter_append, List.filter_cons_of_pos (by simp only [decide_eq_true_eq]; exact ⟨c, h, hq⟩)]; rfl
theorem clausesN_no {p : List Cl} {q : PV} {i : Nat} {c : Cl} (h : p[i]? = some c) (hq : predC c.head ≠ some q) : clausesN p q (i + 1) = clausesN p q i := by
  unfold clausesN
  rw [List.range_succ, List.filter_append, List.filter_cons_of_neg (by simp only [decide_eq_true_eq]; rintro ⟨d, h1, h2⟩; rw [h] at h1; cases h1; exact hq h2)]; simp
noncomputable def callsAt (p : List Cl) (k : Nat) : List PV := match p[k]? with
  | some c => callsC [] c.body
  | none => []
end Tree

set_option autoImplicit false
set_option linter.unusedVariables false
set_option linter.unusedSimpArgs false
namespace Tree
open Go
set_option maxHeartbeats 4000000
set_option maxRecDepth 100000
noncomputable def addL (o ds : List PV) : List PV := ds.foldl addP o
noncomputable def kids (p : List Cl) (q : PV) : List PV := (clausesC p q).flatMap (callsAt p)
theorem mem_addP {o : List PV} {v x : PV} : x ∈ addP o v ↔ x ∈ o ∨ x = v := by
  unfold addP; split
  · rename_i h
    constructor
    · exact .inl
    · rintro (h1 | rfl)
      · exact h1
      · exact h
  · simp
theorem mem_addL : ∀ (ds o : List PV) (x : PV), x ∈ addL o ds ↔ x ∈ o ∨ x ∈ ds
  | [], o, x => by simp [addL]
  | d :: ds, o, x => by
    have e : addL o (d :: ds) = addL (addP o d) ds := rfl
    rw [e, mem_addL ds, mem_addP, List.mem_cons, or_assoc]
theorem nodup_addP {o : List PV} {v : PV} (h : o.Nodup) : (addP o v).Nodup := by
  unfold addP; split
  · exact h
  · rename_i hn
    rw [List.nodup_append]
    refine ⟨h, by simp, ?_⟩
    intro a ha b hb e
    simp at hb; subst hb; subst e; exact hn ha
theorem nodup_addL : ∀ (ds o : List PV), o.Nodup → (addL o ds).Nodup
  | [], o, h => h
  | d :: ds, o, h => nodup_addL ds _ (nodup_addP h)
theorem pre_addP (o : List PV) (v : PV) : ∃ e, addP o v = o ++ e := by
  unfold addP; split
  · exact ⟨[], by simp⟩
  · exact ⟨[v], rfl⟩
theorem pre_addL : ∀ (ds o : List PV), ∃ e, addL o ds = o ++ e
  | [], o => ⟨[], by simp [addL]⟩
  | d :: ds, o => by
    obtain ⟨e, h⟩ := pre_addP o d
    obtain ⟨e', h'⟩ := pre_addL ds (addP o d)
    exact ⟨e ++ e', by rw [← List.append_assoc, ← h, ← h']; rfl⟩
/-- All that may ever be reached. -/
noncomputable def allOf (p : List Cl) (base : List PV) : List PV := base ++ p.flatMap fun c => callsC [] c.body
theorem callsAt_all {p : List Cl} {base : List PV} {k : Nat} {x : PV} (h : x ∈ callsAt p k) : x ∈ allOf p base := by
  unfold callsAt at h
  split at h
  · rename_i c hc
    exact List.mem_append_right _ (List.mem_flatMap.2 ⟨c, List.mem_of_getElem? hc, h⟩)
  · cases h
theorem kids_all {p : List Cl} {base : List PV} {q x : PV} (h : x ∈ kids p q) : x ∈ allOf p base := by
  obtain ⟨k, _, h2⟩ := List.mem_flatMap.1 h
  exact callsAt_all h2
structure Good (p : List Cl) (base o : List PV) (i : Nat) : Prop where
  le : i ≤ o.length
  nd : o.Nodup
  sub : ∀ x ∈ o, x ∈ allOf p base
  bs : ∀ x ∈ base, x ∈ o
  cl : ∀ (j : Nat) q, j < i → o[j]? = some q → ∀ d ∈ kids p q, d ∈ o
  mn : ∀ X : List PV, (∀ x ∈ base, x ∈ X) → (∀ q ∈ X, ∀ d ∈ kids p q, d ∈ X) → ∀ x ∈ o, x ∈ X
theorem Good.len {p : List Cl} {base o : List PV} {i : Nat} (h : Good p base o i) : o.length ≤ (allOf p base).length := h.nd.length_le_of_subset fun x hx => h.sub x hx
theorem Good.step {p : List Cl} {base o : List PV} {i : Nat} {q : PV} (h : Good p base o i) (hq : o[i]? = some q) : Good p base (addL o (kids p q)) (i + 1) := by
  obtain ⟨e, he⟩ := pre_addL (kids p q) o
  have hi : i < o.length := (List.getElem?_eq_some_iff.1 hq).1
  refine ⟨?_, nodup_addL _ _ h.nd, fun x hx => ?_, fun x hx => (mem_addL _ _ _).2 (.inl (h.bs x hx)), fun j q' hj hq' d hd => ?_, fun X h1 h2 x hx => ?_⟩
  · rw [he, List.length_append]; omega
  · rcases (mem_addL _ _ _).1 hx with g | g
    · exact h.sub x g
    · exact kids_all g
  · have hlt : j < o.length := by omega
    rw [he, List.getElem?_append_left hlt] at hq'
    rcases Nat.lt_or_ge j i with hji | hji
    · exact (mem_addL _ _ _).2 (.inl (h.cl j q' hji hq' d hd))
    · have : j = i := by omega
      subst this
      rw [hq] at hq'; cases hq'
      exact (mem_addL _ _ _).2 (.inr hd)
  · rcases (mem_addL _ _ _).1 hx with g | g
    · exact h.mn X h1 h2 x g
    · exact h2 q (h.mn X h1 h2 q (List.mem_of_getElem? hq)) x g
/-- What is reached: closed, no more than that. -/
structure Reach (p : List Cl) (base o : List PV) : Prop where
  bs : ∀ x ∈ base, x ∈ o
  cl : ∀ q ∈ o, ∀ d ∈ kids p q, d ∈ o
  mn : ∀ X : List PV, (∀ x ∈ base, x ∈ X) → (∀ q ∈ X, ∀ d ∈ kids p q, d ∈ X) → ∀ x ∈ o, x ∈ X
end Tree

set_option autoImplicit false
set_option linter.unusedVariables false
set_option linter.unusedSimpArgs false
namespace Tree
open Go
set_option maxHeartbeats 4000000
set_option maxRecDepth 100000
/-- The number of the first one with p, or -1. -/
def FirstJ {α : Type} (xs : List α) (p : α → Prop) (j : Int) : Prop := (∃ (i : Nat) (x : α), j = i ∧ xs[i]? = some x ∧ p x ∧ ∀ (k : Nat) y, k < i → xs[k]? = some y → ¬ p y) ∨ j = -1 ∧ ∀ x ∈ xs, ¬ p x
theorem firstJ {α : Type} (xs : List α) (p : α → Prop) : ∃ j, FirstJ xs p j := by
  by_cases h : ∃ c ∈ xs, p c
  · have : ∃ (i : Nat) (c : α), xs[i]? = some c ∧ p c ∧ ∀ (k : Nat) d, k < i → xs[k]? = some d → ¬ p d := by
      apply Classical.byContradiction
      intro hn
      have all : ∀ n : Nat, ∀ (k : Nat) d, k < n → xs[k]? = some d → ¬ p d := by
        intro n
        induction n with
        | zero => intro k d hk; omega
        | succ n ih =>
          intro k d hk hd hp
          by_cases hkn : k < n
          · exact ih k d hkn hd hp
          · have : k = n := by omega
            subst this
            exact hn ⟨k, d, hd, hp, ih⟩
      obtain ⟨c, hc, hp⟩ := h
      obtain ⟨i, hi, e⟩ := List.getElem_of_mem hc
      exact all (i + 1) i c (by omega) (by rw [List.getElem?_eq_getElem hi, e]) hp
    obtain ⟨i, c, h1, h2, h3⟩ := this
    exact ⟨i, .inl ⟨i, c, rfl, h1, h2, h3⟩⟩
  · exact ⟨-1, .inr ⟨rfl, fun x hx hp => h ⟨x, hx, hp⟩⟩⟩
theorem FirstJ.at {α : Type} {xs : List α} {p : α → Prop} {j : Int} (h : FirstJ xs p j) {i : Nat} {x : α} (hx : xs[i]? = some x) (hp : p x) (hn : ∀ (k : Nat) y, k < i → xs[k]? = some y → ¬ p y) : j = i := by
  rcases h with ⟨i', x', rfl, h1, h2, h3⟩ | ⟨rfl, h1⟩
  · rcases Nat.lt_trichotomy i i' with h7 | h7 | h7
    · exact absurd hp (h3 i x h7 hx)
    · rw [h7]
    · exact absurd h2 (hn i' x' h7 h1)
  · exact absurd hp (h1 x (List.mem_of_getElem? hx))
theorem FirstJ.none {α : Type} {xs : List α} {p : α → Prop} {j : Int} (h : FirstJ xs p j) (hn : ∀ (k : Nat) y, k < xs.length → xs[k]? = some y → ¬ p y) : j = -1 := by
  rcases h with ⟨i', x', rfl, h1, h2, h3⟩ | ⟨rfl, h1⟩
  · exact absurd h2 (hn i' x' (List.getElem?_eq_some_iff.1 h1).1 h1)
  · rfl
theorem FirstJ.ge {α : Type} {xs : List α} {p : α → Prop} {j : Int} (h : FirstJ xs p j) : j ≥ 0 ↔ ∃ x ∈ xs, p x := by
  rcases h with ⟨i', x', rfl, h1, h2, h3⟩ | ⟨rfl, h1⟩
  · exact ⟨fun _ => ⟨x', List.mem_of_getElem? h1, h2⟩, fun _ => by omega⟩
  · exact ⟨fun h => by omega, fun ⟨x, hx, hp⟩ => absurd hp (h1 x hx)⟩
def SIx (v x : LV) (n : Nat) (i : Int) (ob : Obs) : WSt := ⟨.val v :: .val x :: List.replicate 5 (.val .undef) ++ .val (.int .i64 n) :: .val (.int .i64 i) :: List.replicate 10 (.val .undef), ob, []⟩
theorem idx296_ok (g  lab : Nat) (xs : List Cl) (sp : List (List LV)) (p : Cl → Prop) (hl : xs.length ≤ 4611686018427387904) (hg : ∀ x ∈ xs, ∀ ob pb (r : Bool), (r = true ↔ p x) → Gives env4 g (.agg x.row :: []) ob pb (.bool r, ob)) (ob : Obs) (pb : Nat) :
    ∃ j : Int, FirstJ xs p j ∧ Gives env4 296 [slC false lab xs sp, .fn g []] ob pb (.int .i64 j, ob) := by
  obtain ⟨j, hj⟩ := firstJ xs p
  refine ⟨j, hj, ?_⟩
  have hlen : (xs.map Cl.row).length = xs.length := by simp
  refine gives_code (f := tf296) rfl ?_
  conv => whnf
  refine loop_abs (S := fun i : Nat => SIx (slC false lab xs sp) (.fn g []) (xs.map Cl.row).length i ob) (m := fun i => xs.length - i) (P := fun i => i ≤ xs.length ∧ ∀ (k : Nat) d, k < i → xs[k]? = some d → ¬ p d) ?_ 0 ⟨Nat.zero_le _, fun k s h => by omega⟩ rfl
  rintro R i ⟨hi, hP⟩ hN hE hR
  conv => whnf
  refine sel_split (fun h => ?_) (fun h => ?_)
  · conv => whnf
    have h := of_decide_eq_true h
    rw [hlen] at h
    obtain ⟨c, hc⟩ : ∃ c, xs[i]? = some c := ⟨_, List.getElem?_eq_getElem (show i < xs.length by omega)⟩
    refine ⟨_, ⟨by omega, idx_c hc⟩, ?_⟩
    conv => whnf
    obtain ⟨q, hq⟩ := boolOf (p c)
    refine ⟨_, _, hg c (List.mem_of_getElem? hc) ob _ q hq, fun _ => rfl, ?_⟩
    conv => whnf
    refine sel_split (fun h2 => ?_) (fun h2 => ?_)
    · conv => whnf
      refine hR _ ?_
      conv => whnf
      refine ⟨rfl, ?_, rfl⟩
      rw [hj.at hc (hq.1 h2) hP]; rfl
    · conv => whnf
      have e : IntKind.i64.wrap ((i : Int) + 1) = ((i + 1 : Nat) : Int) := by rw [wrap64] <;> omega
      refine hN (i + 1) _ ⟨by omega, fun k d hk hd => ?_⟩ (by omega) ?_
      · by_cases hki : k = i
        · subst hki; rw [hc] at hd; cases hd
          intro hp; rw [hq.2 hp] at h2; cases h2
        · exact hP k d (by omega) hd
      · rw [← e]; rfl
  · conv => whnf
    have h := of_decide_eq_false h
    rw [hlen] at h
    refine hE _ _ ?_
    conv => whnf
    refine ⟨rfl, ?_, rfl⟩
    rw [hj.none fun k d hk => hP k d (by omega)]; rfl
theorem idx296p_ok (g ca co lab : Nat) (cb : List LV) (xs : List Cl) (sp : List (List LV)) (p : Cl → Prop) (hl : xs.length ≤ 4611686018427387904) (hg : ∀ x ∈ xs, ∀ ob pb (r : Bool), (r = true ↔ p x) → Gives env4 g (.agg x.row :: [.iptr ca cb co]) ob pb (.bool r, ob)) (ob : Obs) (pb : Nat) :
    ∃ j : Int, FirstJ xs p j ∧ Gives env4 296 [slC false lab xs sp, .fn g [.iptr ca cb co]] ob pb (.int .i64 j, ob) := by
  obtain ⟨j, hj⟩ := firstJ xs p
  refine ⟨j, hj, ?_⟩
  have hlen : (xs.map Cl.row).length = xs.length := by simp
  refine gives_code (f := tf296) rfl ?_
  conv => whnf
  refine loop_abs (S := fun i : Nat => SIx (slC false lab xs sp) (.fn g [.iptr ca cb co]) (xs.map Cl.row).length i ob) (m := fun i => xs.length - i) (P := fun i => i ≤ xs.length ∧ ∀ (k : Nat) d, k < i → xs[k]? = some d → ¬ p d) ?_ 0 ⟨Nat.zero_le _, fun k s h => by omega⟩ rfl
  rintro R i ⟨hi, hP⟩ hN hE hR
  conv => whnf
  refine sel_split (fun h => ?_) (fun h => ?_)
  · conv => whnf
    have h := of_decide_eq_true h
    rw [hlen] at h
    obtain ⟨c, hc⟩ : ∃ c, xs[i]? = some c := ⟨_, List.getElem?_eq_getElem (show i < xs.length by omega)⟩
    refine ⟨_, ⟨by omega, idx_c hc⟩, ?_⟩
    conv => whnf
    obtain ⟨q, hq⟩ := boolOf (p c)
    refine ⟨_, _, hg c (List.mem_of_getElem? hc) ob _ q hq, fun _ => rfl, ?_⟩
    conv => whnf
    refine sel_split (fun h2 => ?_) (fun h2 => ?_)
    · conv => whnf
      refine hR _ ?_
      conv => whnf
      refine ⟨rfl, ?_, rfl⟩
      rw [hj.at hc (hq.1 h2) hP]; rfl
    · conv => whnf
      have e : IntKind.i64.wrap ((i : Int) + 1) = ((i + 1 : Nat) : Int) := by rw [wrap64] <;> omega
      refine hN (i + 1) _ ⟨by omega, fun k d hk hd => ?_⟩ (by omega) ?_
      · by_cases hki : k = i
        · subst hki; rw [hc] at hd; cases hd
          intro hp; rw [hq.2 hp] at h2; cases h2
        · exact hP k d (by omega) hd
      · rw [← e]; rfl
  · conv => whnf
    have h := of_decide_eq_false h
    rw [hlen] at h
    refine hE _ _ ?_
    conv => whnf
    refine ⟨rfl, ?_, rfl⟩
    rw [hj.none fun k d hk => hP k d (by omega)]; rfl
theorem idx311p_ok (g ca co lab : Nat) (cb : List LV) (xs : List PV) (sp : List (List LV)) (p : PV → Prop) (hl : xs.length ≤ 4611686018427387904) (hg : ∀ x ∈ xs, ∀ ob pb (r : Bool), (r = true ↔ p x) → Gives env4 g (pv x :: [.iptr ca cb co]) ob pb (.bool r, ob)) (ob : Obs) (pb : Nat) :
    ∃ j : Int, FirstJ xs p j ∧ Gives env4 311 [slP false lab xs sp, .fn g [.iptr ca cb co]] ob pb (.int .i64 j, ob) := by
  obtain ⟨j, hj⟩ := firstJ xs p
  refine ⟨j, hj, ?_⟩
  have hlen : (xs.map prow).length = xs.length := by simp
  refine gives_code (f := tf311) rfl ?_
  conv => whnf
  refine loop_abs (S := fun i : Nat => SIx (slP false lab xs sp) (.fn g [.iptr ca cb co]) (xs.map prow).length i ob) (m := fun i => xs.length - i) (P := fun i => i ≤ xs.length ∧ ∀ (k : Nat) d, k < i → xs[k]? = some d → ¬ p d) ?_ 0 ⟨Nat.zero_le _, fun k s h => by omega⟩ rfl
  rintro R i ⟨hi, hP⟩ hN hE hR
  conv => whnf
  refine sel_split (fun h => ?_) (fun h => ?_)
  · conv => whnf
    have h := of_decide_eq_true h
    rw [hlen] at h
    obtain ⟨c, hc⟩ : ∃ c, xs[i]? = some c := ⟨_, List.getElem?_eq_getElem (show i < xs.length by omega)⟩
    refine ⟨_, ⟨by omega, idx_p hc⟩, ?_⟩
    conv => whnf
    obtain ⟨q, hq⟩ := boolOf (p c)
    refine ⟨_, _, hg c (List.mem_of_getElem? hc) ob _ q hq, fun _ => rfl, ?_⟩
    conv => whnf
    refine sel_split (fun h2 => ?_) (fun h2 => ?_)
    · conv => whnf
      refine hR _ ?_
      conv => whnf
      refine ⟨rfl, ?_, rfl⟩
      rw [hj.at hc (hq.1 h2) hP]; rfl
    · conv => whnf
      have e : IntKind.i64.wrap ((i : Int) + 1) = ((i + 1 : Nat) : Int) := by rw [wrap64] <;> omega
      refine hN (i + 1) _ ⟨by omega, fun k d hk hd => ?_⟩ (by omega) ?_
      · by_cases hki : k = i
        · subst hki; rw [hc] at hd; cases hd
          intro hp; rw [hq.2 hp] at h2; cases h2
        · exact hP k d (by omega) hd
      · rw [← e]; rfl
  · conv => whnf
    have h := of_decide_eq_false h
    rw [hlen] at h
    refine hE _ _ ?_
    conv => whnf
    refine ⟨rfl, ?_, rfl⟩
    rw [hj.none fun k d hk => hP k d (by omega)]; rfl
theorem any310p_ok (g ca co lab : Nat) (cb : List LV) (xs : List PV) (sp : List (List LV)) (p : PV → Prop) (hl : xs.length ≤ 4611686018427387904) (hg : ∀ x ∈ xs, ∀ ob pb (r : Bool), (r = true ↔ p x) → Gives env4 g (pv x :: [.iptr ca cb co]) ob pb (.bool r, ob)) (ob : Obs) (pb : Nat) (r : Bool) (hr : r = true ↔ ∃ x ∈ xs, p x) :
    Gives env4 310 [slP false lab xs sp, .fn g [.iptr ca cb co]] ob pb (.bool r, ob) := by
  obtain ⟨j, hj, hg⟩ := idx311p_ok g ca co lab cb xs sp p hl hg ob (max pb ob.length)
  refine gives_code (f := tf310) rfl ?_
  conv => whnf
  refine ⟨_, _, hg, fun _ => rfl, ?_⟩
  conv => whnf
  refine ⟨rfl, bool_of hr ?_, rfl⟩
  rw [decide_eq_true_iff, hj.ge]
theorem idx53_ok (g  lab : Nat) (xs : List T1) (sp : List (List LV)) (p : T1 → Prop) (hl : xs.length ≤ 4611686018427387904) (hg : ∀ x ∈ xs, ∀ ob pb (r : Bool), (r = true ↔ p x) → Gives env4 g (sl5 false x.lab x.cs x.sp :: []) ob pb (.bool r, ob)) (ob : Obs) (pb : Nat) :
    ∃ j : Int, FirstJ xs p j ∧ Gives env4 53 [sl1 false lab xs sp, .fn g []] ob pb (.int .i64 j, ob) := by
  obtain ⟨j, hj⟩ := firstJ xs p
  refine ⟨j, hj, ?_⟩
  have hlen : (xs.map T1.row).length = xs.length := by simp
  refine gives_code (f := tf53) rfl ?_
  conv => whnf
  refine loop_abs (S := fun i : Nat => SIx (sl1 false lab xs sp) (.fn g []) (xs.map T1.row).length i ob) (m := fun i => xs.length - i) (P := fun i => i ≤ xs.length ∧ ∀ (k : Nat) d, k < i → xs[k]? = some d → ¬ p d) ?_ 0 ⟨Nat.zero_le _, fun k s h => by omega⟩ rfl
  rintro R i ⟨hi, hP⟩ hN hE hR
  conv => whnf
  refine sel_split (fun h => ?_) (fun h => ?_)
  · conv => whnf
    have h := of_decide_eq_true h
    rw [hlen] at h
    obtain ⟨c, hc⟩ : ∃ c, xs[i]? = some c := ⟨_, List.getElem?_eq_getElem (show i < xs.length by omega)⟩
    refine ⟨_, ⟨by omega, idx_t hc⟩, ?_⟩
    conv => whnf
    obtain ⟨q, hq⟩ := boolOf (p c)
    refine ⟨_, _, hg c (List.mem_of_getElem? hc) ob _ q hq, fun _ => rfl, ?_⟩
    conv => whnf
    refine sel_split (fun h2 => ?_) (fun h2 => ?_)
    · conv => whnf
      refine hR _ ?_
      conv => whnf
      refine ⟨rfl, ?_, rfl⟩
      rw [hj.at hc (hq.1 h2) hP]; rfl
    · conv => whnf
      have e : IntKind.i64.wrap ((i : Int) + 1) = ((i + 1 : Nat) : Int) := by rw [wrap64] <;> omega
      refine hN (i + 1) _ ⟨by omega, fun k d hk hd => ?_⟩ (by omega) ?_
      · by_cases hki : k = i
        · subst hki; rw [hc] at hd; cases hd
          intro hp; rw [hq.2 hp] at h2; cases h2
        · exact hP k d (by omega) hd
      · rw [← e]; rfl
  · conv => whnf
    have h := of_decide_eq_false h
    rw [hlen] at h
    refine hE _ _ ?_
    conv => whnf
    refine ⟨rfl, ?_, rfl⟩
    rw [hj.none fun k d hk => hP k d (by omega)]; rfl
theorem any33_ok (g  lab : Nat) (xs : List T1) (sp : List (List LV)) (p : T1 → Prop) (hl : xs.length ≤ 4611686018427387904) (hg : ∀ x ∈ xs, ∀ ob pb (r : Bool), (r = true ↔ p x) → Gives env4 g (sl5 false x.lab x.cs x.sp :: []) ob pb (.bool r, ob)) (ob : Obs) (pb : Nat) (r : Bool) (hr : r = true ↔ ∃ x ∈ xs, p x) :
    Gives env4 33 [sl1 false lab xs sp, .fn g []] ob pb (.bool r, ob) := by
  obtain ⟨j, hj, hg⟩ := idx53_ok g  lab  xs sp p hl hg ob (max pb ob.length)
  refine gives_code (f := tf33) rfl ?_
  conv => whnf
  refine ⟨_, _, hg, fun _ => rfl, ?_⟩
  conv => whnf
  refine ⟨rfl, bool_of hr ?_, rfl⟩
  rw [decide_eq_true_iff, hj.ge]
theorem idx53p_ok (g ca co lab : Nat) (cb : List LV) (xs : List T1) (sp : List (List LV)) (p : T1 → Prop) (hl : xs.length ≤ 4611686018427387904) (hg : ∀ x ∈ xs, ∀ ob pb (r : Bool), (r = true ↔ p x) → Gives env4 g (sl5 false x.lab x.cs x.sp :: [.iptr ca cb co]) ob pb (.bool r, ob)) (ob : Obs) (pb : Nat) :
    ∃ j : Int, FirstJ xs p j ∧ Gives env4 53 [sl1 false lab xs sp, .fn g [.iptr ca cb co]] ob pb (.int .i64 j, ob) := by
  obtain ⟨j, hj⟩ := firstJ xs p
  refine ⟨j, hj, ?_⟩
  have hlen : (xs.map T1.row).length = xs.length := by simp
  refine gives_code (f := tf53) rfl ?_
  conv => whnf
  refine loop_abs (S := fun i : Nat => SIx (sl1 false lab xs sp) (.fn g [.iptr ca cb co]) (xs.map T1.row).length i ob) (m := fun i => xs.length - i) (P := fun i => i ≤ xs.length ∧ ∀ (k : Nat) d, k < i → xs[k]? = some d → ¬ p d) ?_ 0 ⟨Nat.zero_le _, fun k s h => by omega⟩ rfl
  rintro R i ⟨hi, hP⟩ hN hE hR
  conv => whnf
  refine sel_split (fun h => ?_) (fun h => ?_)
  · conv => whnf
    have h := of_decide_eq_true h
    rw [hlen] at h
    obtain ⟨c, hc⟩ : ∃ c, xs[i]? = some c := ⟨_, List.getElem?_eq_getElem (show i < xs.length by omega)⟩
    refine ⟨_, ⟨by omega, idx_t hc⟩, ?_⟩
    conv => whnf
    obtain ⟨q, hq⟩ := boolOf (p c)
    refine ⟨_, _, hg c (List.mem_of_getElem? hc) ob _ q hq, fun _ => rfl, ?_⟩
    conv => whnf
    refine sel_split (fun h2 => ?_) (fun h2 => ?_)
    · conv => whnf
      refine hR _ ?_
      conv => whnf
      refine ⟨rfl, ?_, rfl⟩
      rw [hj.at hc (hq.1 h2) hP]; rfl
    · conv => whnf
      have e : IntKind.i64.wrap ((i : Int) + 1) = ((i + 1 : Nat) : Int) := by rw [wrap64] <;> omega
      refine hN (i + 1) _ ⟨by omega, fun k d hk hd => ?_⟩ (by omega) ?_
      · by_cases hki : k = i
        · subst hki; rw [hc] at hd; cases hd
          intro hp; rw [hq.2 hp] at h2; cases h2
        · exact hP k d (by omega) hd
      · rw [← e]; rfl
  · conv => whnf
    have h := of_decide_eq_false h
    rw [hlen] at h
    refine hE _ _ ?_
    conv => whnf
    refine ⟨rfl, ?_, rfl⟩
    rw [hj.none fun k d hk => hP k d (by omega)]; rfl
theorem any33p_ok (g ca co lab : Nat) (cb : List LV) (xs : List T1) (sp : List (List LV)) (p : T1 → Prop) (hl : xs.length ≤ 4611686018427387904) (hg : ∀ x ∈ xs, ∀ ob pb (r : Bool), (r = true ↔ p x) → Gives env4 g (sl5 false x.lab x.cs x.sp :: [.iptr ca cb co]) ob pb (.bool r, ob)) (ob : Obs) (pb : Nat) (r : Bool) (hr : r = true ↔ ∃ x ∈ xs, p x) :
    Gives env4 33 [sl1 false lab xs sp, .fn g [.iptr ca cb co]] ob pb (.bool r, ob) := by
  obtain ⟨j, hj, hg⟩ := idx53p_ok g ca co lab cb xs sp p hl hg ob (max pb ob.length)
  refine gives_code (f := tf33) rfl ?_
  conv => whnf
  refine ⟨_, _, hg, fun _ => rfl, ?_⟩
  conv => whnf
  refine ⟨rfl, bool_of hr ?_, rfl⟩
  rw [decide_eq_true_iff, hj.ge]
theorem idx207p_ok (g ca co lab : Nat) (cb : List LV) (xs : List NV) (sp : List (List LV)) (p : NV → Prop) (hl : xs.length ≤ 4611686018427387904) (hg : ∀ x ∈ xs, ∀ ob pb (r : Bool), (r = true ↔ p x) → Gives env4 g (nm x.1 x.2 :: [.iptr ca cb co]) ob pb (.bool r, ob)) (ob : Obs) (pb : Nat) :
    ∃ j : Int, FirstJ xs p j ∧ Gives env4 207 [sl2 false lab xs sp, .fn g [.iptr ca cb co]] ob pb (.int .i64 j, ob) := by
  obtain ⟨j, hj⟩ := firstJ xs p
  refine ⟨j, hj, ?_⟩
  have hlen : (xs.map nrow).length = xs.length := by simp
  refine gives_code (f := tf207) rfl ?_
  conv => whnf
  refine loop_abs (S := fun i : Nat => SIx (sl2 false lab xs sp) (.fn g [.iptr ca cb co]) (xs.map nrow).length i ob) (m := fun i => xs.length - i) (P := fun i => i ≤ xs.length ∧ ∀ (k : Nat) d, k < i → xs[k]? = some d → ¬ p d) ?_ 0 ⟨Nat.zero_le _, fun k s h => by omega⟩ rfl
  rintro R i ⟨hi, hP⟩ hN hE hR
  conv => whnf
  refine sel_split (fun h => ?_) (fun h => ?_)
  · conv => whnf
    have h := of_decide_eq_true h
    rw [hlen] at h
    obtain ⟨c, hc⟩ : ∃ c, xs[i]? = some c := ⟨_, List.getElem?_eq_getElem (show i < xs.length by omega)⟩
    refine ⟨_, ⟨by omega, idx_n hc⟩, ?_⟩
    conv => whnf
    obtain ⟨q, hq⟩ := boolOf (p c)
    refine ⟨_, _, hg c (List.mem_of_getElem? hc) ob _ q hq, fun _ => rfl, ?_⟩
    conv => whnf
    refine sel_split (fun h2 => ?_) (fun h2 => ?_)
    · conv => whnf
      refine hR _ ?_
      conv => whnf
      refine ⟨rfl, ?_, rfl⟩
      rw [hj.at hc (hq.1 h2) hP]; rfl
    · conv => whnf
      have e : IntKind.i64.wrap ((i : Int) + 1) = ((i + 1 : Nat) : Int) := by rw [wrap64] <;> omega
      refine hN (i + 1) _ ⟨by omega, fun k d hk hd => ?_⟩ (by omega) ?_
      · by_cases hki : k = i
        · subst hki; rw [hc] at hd; cases hd
          intro hp; rw [hq.2 hp] at h2; cases h2
        · exact hP k d (by omega) hd
      · rw [← e]; rfl
  · conv => whnf
    have h := of_decide_eq_false h
    rw [hlen] at h
    refine hE _ _ ?_
    conv => whnf
    refine ⟨rfl, ?_, rfl⟩
    rw [hj.none fun k d hk => hP k d (by omega)]; rfl
theorem any174p_ok (g ca co lab : Nat) (cb : List LV) (xs : List NV) (sp : List (List LV)) (p : NV → Prop) (hl : xs.length ≤ 4611686018427387904) (hg : ∀ x ∈ xs, ∀ ob pb (r : Bool), (r = true ↔ p x) → Gives env4 g (nm x.1 x.2 :: [.iptr ca cb co]) ob pb (.bool r, ob)) (ob : Obs) (pb : Nat) (r : Bool) (hr : r = true ↔ ∃ x ∈ xs, p x) :
    Gives env4 174 [sl2 false lab xs sp, .fn g [.iptr ca cb co]] ob pb (.bool r, ob) := by
  obtain ⟨j, hj, hg⟩ := idx207p_ok g ca co lab cb xs sp p hl hg ob (max pb ob.length)
  refine gives_code (f := tf174) rfl ?_
  conv => whnf
  refine ⟨_, _, hg, fun _ => rfl, ?_⟩
  conv => whnf
  refine ⟨rfl, bool_of hr ?_, rfl⟩
  rw [decide_eq_true_iff, hj.ge]
end Tree

set_option autoImplicit false
set_option linter.unusedVariables false
set_option linter.unusedSimpArgs false
namespace Tree
open Go
set_option maxHeartbeats 4000000
set_option maxRecDepth 100000
def bs (l : List Nat) : ByteArray := ⟨(l.map (UInt8.ofNat ·)).toArray⟩
def twos : List ByteArray := [⟨#[43]⟩, ⟨#[45]⟩, ⟨#[42]⟩, ⟨#[100, 105, 118]⟩, ⟨#[109, 111, 100]⟩, ⟨#[109, 105, 110]⟩, ⟨#[109, 97, 120]⟩]
def absS : ByteArray := ⟨#[97, 98, 115]⟩
def SumOp (c : C) : Prop := (c.text ∈ twos ∧ c.n = 2) ∨ (c.text = absS ∧ c.n = 1)
inductive SumP : List C → Prop
  | leaf {c : C} {r : List C} (h : c.k = 1 ∨ c.k = 4) : SumP (c :: r)
  | op {c : C} {r : List C} (hk : c.k = 3) (ho : SumOp c) (ha : ∀ a ∈ argsR (c :: r), SumP a) : SumP (c :: r)
theorem sum_iff {c : C} {r : List C} : SumP (c :: r) ↔ (c.k = 1 ∨ c.k = 4) ∨ (c.k = 3 ∧ SumOp c ∧ ∀ a ∈ argsR (c :: r), SumP a) := by
  constructor
  · intro h
    cases h with
    | leaf h => exact .inl h
    | op h1 h2 h3 => exact .inr ⟨h1, h2, h3⟩
  · rintro (h | ⟨h1, h2, h3⟩)
    · exact .leaf h
    · exact .op h1 h2 h3
theorem args_small {c : C} {r : List C} (h : RightP (c :: r)) (hk : c.k = 3) {a : List C} (ha : a ∈ argsR (c :: r)) : a.length < (c :: r).length ∧ RightP a ∧ ∀ d ∈ a, d ∈ c :: r := by
  obtain ⟨f1, f2, f3, f4⟩ := args_facts h hk
  refine ⟨?_, f4 a ha, fun d hd => List.mem_cons_of_mem _ (by rw [← f3]; exact List.mem_flatten.2 ⟨a, ha, hd⟩)⟩
  have : a.length ≤ (argsR (c :: r)).flatten.length := by
    have hs : ∀ (l : List (List C)), a ∈ l → a.length ≤ l.flatten.length := by
      intro l
      induction l with
      | nil => intro h; cases h
      | cons x l ih =>
        intro h
        simp only [List.flatten_cons, List.length_append]
        rcases List.mem_cons.1 h with rfl | h
        · omega
        · have := ih h; omega
    exact hs _ ha
  rw [f3] at this
  simp only [List.length_cons]; omega
theorem argsR_len (cs : List C) : (argsR cs).length ≤ 8 := by
  by_cases h : StructP cs
  · obtain ⟨hR, c, r, rfl, hk⟩ := h
    obtain ⟨_, _, _, h4⟩ := (right_walk _).1 hR
    rw [(args_facts hR hk).2.1]
    exact (ok_parts (h4 c (List.mem_cons_self ..))).2
  · unfold argsR; rw [if_neg h]; simp

theorem isSum_ok : ∀ (n : Nat) (lab : Nat) (cs : List C) (sp : List (List LV)), cs.length ≤ n → RightP cs → (∀ c ∈ cs, c.fine) → ∀ (ob : Obs) (pb : Nat) (r : Bool), (r = true ↔ SumP cs) → Gives env4 301 [sl5 false lab cs sp] ob pb (.bool r, ob)
  | 0, lab, cs, sp, hn, hR, _, ob, pb, r, _ => by
    have := hR.1
    cases cs with
    | nil => exact absurd rfl this
    | cons c r => simp at hn
  | n + 1, lab, [], sp, hn, hR, _, ob, pb, r, _ => absurd rfl hR.1
  | n + 1, lab, c :: r, sp, hn, hR, hf, ob, pb, res, hr => by
    have hl : (c :: r).length ≤ 4611686018427387904 := by have := hR.2.1; omega
    refine gives_code (f := tf301) rfl ?_
    conv => whnf
    refine ⟨_, ⟨by omega, idx_row (cs := c :: r) (i := 0) rfl⟩, ?_⟩
    conv => whnf
    refine sel_split (fun h1 => ?_) (fun h1 => ?_)
    · conv => whnf
      have h1 : c.k = 1 := by simpa using h1
      exact ⟨rfl, bool_of hr ⟨fun _ => .leaf (.inl h1), fun _ => rfl⟩, rfl⟩
    · conv => whnf
      have h1 : c.k ≠ 1 := by simpa using h1
      refine sel_split (fun h2 => ?_) (fun h2 => ?_)
      · conv => whnf
        have h2 : c.k = 4 := by simpa using h2
        exact ⟨rfl, bool_of hr ⟨fun _ => .leaf (.inr h2), fun _ => rfl⟩, rfl⟩
      · conv => whnf
        have h2 : c.k ≠ 4 := by simpa using h2
        refine sel_split (fun h3 => ?_) (fun h3 => ?_)
        · have hk3 : c.k = 3 := by simpa using h3
          have hany : ∀ (ob : Obs) (pb : Nat) (r' : Bool), (r' = true ↔ ∃ t ∈ (argsR (c :: r)).map T1.mk0, ¬ SumP t.cs) → Gives env4 33 [sl1 false 0 ((argsR (c :: r)).map T1.mk0) [], .fn 326 []] ob pb (.bool r', ob) := by
            intro ob pb r' hr'
            refine any33_ok 326 0 ((argsR (c :: r)).map T1.mk0) [] (fun t => ¬ SumP t.cs) (by rw [List.length_map]; have := argsR_len (c :: r); omega) (fun t ht ob pb q hq => ?_) ob pb r' hr'
            obtain ⟨a, ha, rfl⟩ := List.mem_map.1 ht
            obtain ⟨s1, s2, s3⟩ := args_small hR hk3 ha
            obtain ⟨q', hq'⟩ := boolOf (SumP a)
            refine gives_code (f := tf326) rfl ?_
            conv => whnf
            refine ⟨_, _, isSum_ok n 0 a [] (by omega) s2 (fun d hd => hf d (s3 d hd)) ob _ q' hq', fun _ => rfl, ?_⟩
            conv => whnf
            refine ⟨rfl, bool_of hq ?_, rfl⟩
            show (!q') = true ↔ ¬ SumP a
            rw [← hq']; cases q' <;> simp
          conv => whnf
          obtain ⟨q, hq⟩ := boolOf (c.text ∈ twos)
          obtain ⟨q2, hq2⟩ := boolOf (∃ t ∈ (argsR (c :: r)).map T1.mk0, ¬ SumP t.cs)
          refine ⟨_, _, (hasStr_ok 0 twos c.text (by decide) ob _ q hq).le le14, fun _ => rfl, ?_⟩
          conv => whnf
          refine sel_split (fun h6 => ?_) (fun h6 => ?_)
          · conv => whnf
            refine sel_split (fun h7 => ?_) (fun h7 => ?_)
            · conv => whnf
              have h7 : c.n = 2 := by simpa using h7
              refine ⟨_, _, (args_ok lab (c :: r) sp hl hf ob _).le le14, fun _ => noRefM _ _, ?_⟩
              conv => whnf
              refine ⟨_, _, hany ob _ q2 hq2, fun _ => rfl, ?_⟩
              conv => whnf
              refine ⟨rfl, bool_of hr ?_, rfl⟩
              rw [sum_iff]
              constructor
              · intro e
                have e : q2 = false := by simpa using e
                refine .inr ⟨hk3, .inl ⟨hq.1 h6, h7⟩, fun a ha => Classical.byContradiction fun hn => ?_⟩
                have := hq2.2 ⟨T1.mk0 a, List.mem_map.2 ⟨a, ha, rfl⟩, hn⟩
                rw [e] at this; cases this
              · rintro (h | ⟨_, _, h⟩)
                · omega
                · have : q2 = false := by
                    cases hq : q2 with
                    | false => rfl
                    | true =>
                      obtain ⟨t, ht, hn⟩ := hq2.1 hq
                      obtain ⟨a, ha, rfl⟩ := List.mem_map.1 ht
                      exact absurd (h a ha) hn
                  rw [this]; rfl
            · conv => whnf
              have h7 : c.n ≠ 2 := by simpa using h7
              refine sel_split (fun h4 => ?_) (fun h4 => ?_)
              · conv => whnf
                have h4 : c.text = absS := by
                  have := eq_of_beq h4
                  exact bytes_eq.1 this
                refine sel_split (fun h5 => ?_) (fun h5 => ?_)
                · conv => whnf
                  have h5 : c.n = 1 := by simpa using h5
                  refine ⟨_, _, (args_ok lab (c :: r) sp hl hf ob _).le le14, fun _ => noRefM _ _, ?_⟩
                  conv => whnf
                  refine ⟨_, _, hany ob _ q2 hq2, fun _ => rfl, ?_⟩
                  conv => whnf
                  refine ⟨rfl, bool_of hr ?_, rfl⟩
                  rw [sum_iff]
                  constructor
                  · intro e
                    have e : q2 = false := by simpa using e
                    refine .inr ⟨hk3, .inr ⟨h4, h5⟩, fun a ha => Classical.byContradiction fun hn => ?_⟩
                    have := hq2.2 ⟨T1.mk0 a, List.mem_map.2 ⟨a, ha, rfl⟩, hn⟩
                    rw [e] at this; cases this
                  · rintro (h | ⟨_, _, h⟩)
                    · omega
                    · have : q2 = false := by
                        cases hq : q2 with
                        | false => rfl
                        | true =>
                          obtain ⟨t, ht, hn⟩ := hq2.1 hq
                          obtain ⟨a, ha, rfl⟩ := List.mem_map.1 ht
                          exact absurd (h a ha) hn
                      rw [this]; rfl
                · conv => whnf
                  have h5 : c.n ≠ 1 := by simpa using h5
                  refine ⟨rfl, bool_of hr ⟨fun e => (nomatch e), fun h => ?_⟩, rfl⟩
                  exfalso
                  rcases sum_iff.1 h with h | ⟨_, h, _⟩
                  · omega
                  · rcases h with h | h
                    · exact h7 h.2
                    · exact h5 h.2
              · conv => whnf
                have h4 : c.text ≠ absS := fun e => by
                  have : (c.text.toList == absS.toList) = true := by rw [beq_iff_eq, bytes_eq]; exact e
                  have h4 : (c.text.toList == absS.toList) = false := h4
                  rw [this] at h4; cases h4
                refine ⟨rfl, bool_of hr ⟨fun e => (nomatch e), fun h => ?_⟩, rfl⟩
                exfalso
                rcases sum_iff.1 h with h | ⟨_, h, _⟩
                · omega
                · rcases h with h | h
                  · exact h7 h.2
                  · exact h4 h.1
          · conv => whnf
            have h6 : c.text ∉ twos := fun hm => by rw [hq.2 hm] at h6; cases h6
            refine sel_split (fun h4 => ?_) (fun h4 => ?_)
            · conv => whnf
              have h4 : c.text = absS := by
                have := eq_of_beq h4
                exact bytes_eq.1 this
              refine sel_split (fun h5 => ?_) (fun h5 => ?_)
              · conv => whnf
                have h5 : c.n = 1 := by simpa using h5
                refine ⟨_, _, (args_ok lab (c :: r) sp hl hf ob _).le le14, fun _ => noRefM _ _, ?_⟩
                conv => whnf
                refine ⟨_, _, hany ob _ q2 hq2, fun _ => rfl, ?_⟩
                conv => whnf
                refine ⟨rfl, bool_of hr ?_, rfl⟩
                rw [sum_iff]
                constructor
                · intro e
                  have e : q2 = false := by simpa using e
                  refine .inr ⟨hk3, .inr ⟨h4, h5⟩, fun a ha => Classical.byContradiction fun hn => ?_⟩
                  have := hq2.2 ⟨T1.mk0 a, List.mem_map.2 ⟨a, ha, rfl⟩, hn⟩
                  rw [e] at this; cases this
                · rintro (h | ⟨_, _, h⟩)
                  · omega
                  · have : q2 = false := by
                      cases hq : q2 with
                      | false => rfl
                      | true =>
                        obtain ⟨t, ht, hn⟩ := hq2.1 hq
                        obtain ⟨a, ha, rfl⟩ := List.mem_map.1 ht
                        exact absurd (h a ha) hn
                    rw [this]; rfl
              · conv => whnf
                have h5 : c.n ≠ 1 := by simpa using h5
                refine ⟨rfl, bool_of hr ⟨fun e => (nomatch e), fun h => ?_⟩, rfl⟩
                exfalso
                rcases sum_iff.1 h with h | ⟨_, h, _⟩
                · omega
                · rcases h with h | h
                  · exact h6 h.1
                  · exact h5 h.2
            · conv => whnf
              have h4 : c.text ≠ absS := fun e => by
                have : (c.text.toList == absS.toList) = true := by rw [beq_iff_eq, bytes_eq]; exact e
                have h4 : (c.text.toList == absS.toList) = false := h4
                rw [this] at h4; cases h4
              refine ⟨rfl, bool_of hr ⟨fun e => (nomatch e), fun h => ?_⟩, rfl⟩
              exfalso
              rcases sum_iff.1 h with h | ⟨_, h, _⟩
              · omega
              · rcases h with h | h
                · exact h6 h.1
                · exact h4 h.1
        · conv => whnf
          have h3 : c.k ≠ 3 := by simpa using h3
          refine ⟨rfl, bool_of hr ⟨fun e => (nomatch e), fun h => ?_⟩, rfl⟩
          exfalso
          rcases sum_iff.1 h with h | ⟨h, _⟩
          · omega
          · exact h3 h
end Tree

set_option autoImplicit false
set_option linter.unusedVariables false
set_option linter.unusedSimpArgs false
namespace Tree
open Go
set_option maxHeartbeats 4000000
set_option maxRecDepth 100000
def comps : List ByteArray := [⟨#[60]⟩, ⟨#[61, 60]⟩, ⟨#[62]⟩, ⟨#[62, 61]⟩, ⟨#[61, 58, 61]⟩, ⟨#[61, 92, 61]⟩]
def tests : List ByteArray := [⟨#[105, 110, 116, 101, 103, 101, 114]⟩, ⟨#[97, 116, 111, 109]⟩, ⟨#[99, 111, 109, 112, 111, 117, 110, 100]⟩, ⟨#[107, 110, 111, 119, 110]⟩]
def equalS : ByteArray := ⟨#[101, 113, 117, 97, 108]⟩
def unlikeS : ByteArray := ⟨#[117, 110, 108, 105, 107, 101]⟩
def FlatP (cs : List C) : Prop := ∃ c r, cs = c :: r ∧ c.k ≠ 3
theorem flat_cons {c : C} {r : List C} : FlatP (c :: r) ↔ c.k ≠ 3 := ⟨fun ⟨_, _, e, h⟩ => by cases e; exact h, fun h => ⟨c, r, rfl, h⟩⟩
theorem right_cons {cs : List C} (h : RightP cs) : ∃ c r, cs = c :: r := by
  cases cs with
  | nil => exact absurd rfl h.1
  | cons c r => exact ⟨c, r, rfl⟩
theorem isFlat_ok (lab : Nat) (cs : List C) (sp : List (List LV)) (hR : cs ≠ []) (ob : Obs) (pb : Nat) (r : Bool) (hr : r = true ↔ FlatP cs) : Gives env4 327 [sl5 false lab cs sp] ob pb (.bool r, ob) := by
  obtain ⟨c, t, rfl⟩ : ∃ c r, cs = c :: r := by
    cases cs with
    | nil => exact absurd rfl hR
    | cons c r => exact ⟨c, r, rfl⟩
  rw [flat_cons] at hr
  refine gives_code (f := tf327) rfl ?_
  conv => whnf
  refine ⟨_, ⟨by omega, idx_row (cs := c :: t) (i := 0) rfl⟩, ?_⟩
  conv => whnf
  refine ⟨rfl, bool_of hr ?_, rfl⟩
  simp
def CalP (cs : List C) : Prop := ∃ c r, cs = c :: r ∧ c.k ≠ 1 ∧ c.k ≠ 4 ∧ NameP c.text.data.toList
theorem call_cons {c : C} {r : List C} : CalP (c :: r) ↔ c.k ≠ 1 ∧ c.k ≠ 4 ∧ NameP c.text.data.toList := ⟨fun ⟨_, _, e, h⟩ => by cases e; exact h, fun h => ⟨c, r, rfl, h⟩⟩
theorem isCall_ok (lab : Nat) (cs : List C) (sp : List (List LV)) (hR : cs ≠ []) (hf : ∀ c ∈ cs, c.fine) (ob : Obs) (pb : Nat) (r : Bool) (hr : r = true ↔ CalP cs) : Gives env4 317 [sl5 false lab cs sp] ob pb (.bool r, ob) := by
  obtain ⟨c, t, rfl⟩ : ∃ c r, cs = c :: r := by
    cases cs with
    | nil => exact absurd rfl hR
    | cons c r => exact ⟨c, r, rfl⟩
  rw [call_cons] at hr
  refine gives_code (f := tf317) rfl ?_
  conv => whnf
  refine ⟨_, ⟨by omega, idx_row (cs := c :: t) (i := 0) rfl⟩, ?_⟩
  conv => whnf
  refine sel_split (fun h => ?_) (fun h => ?_)
  · conv => whnf
    have h : c.k ≠ 1 := by simpa using h
    refine ⟨_, ⟨by omega, idx_row (cs := c :: t) (i := 0) rfl⟩, ?_⟩
    conv => whnf
    refine sel_split (fun h2 => ?_) (fun h2 => ?_)
    · conv => whnf
      have h2 : c.k ≠ 4 := by simpa using h2
      obtain ⟨q, hq⟩ := boolOf (NameP c.text.data.toList)
      refine ⟨_, ⟨by omega, idx_row (cs := c :: t) (i := 0) rfl⟩, ?_⟩
      conv => whnf
      refine ⟨_, _, (isName_ok c.text (hf c (List.mem_cons_self ..)).1 ob _ q hq).le le14, fun _ => rfl, ?_⟩
      conv => whnf
      refine ⟨rfl, bool_of hr ?_, rfl⟩
      rw [hq]; exact ⟨fun g => ⟨h, h2, g⟩, fun g => g.2.2⟩
    · conv => whnf
      have h2 : c.k = 4 := by simpa using h2
      exact ⟨rfl, bool_of hr ⟨fun e => (nomatch e), fun g => absurd h2 g.2.1⟩, rfl⟩
  · conv => whnf
    have h : c.k = 1 := by simpa using h
    exact ⟨rfl, bool_of hr ⟨fun e => (nomatch e), fun g => absurd h g.1⟩, rfl⟩
def GuardOp (c : C) : Prop := (c.n = 1 ∧ c.text ∈ tests) ∨ (c.n = 2 ∧ (c.text = equalS ∨ c.text = unlikeS))
def GuardP (cs : List C) : Prop := IsP cs trueS 0 ∨ ∃ c r, cs = c :: r ∧ c.k = 3 ∧ ((c.n = 2 ∧ c.text ∈ comps ∧ ∀ a ∈ argsR cs, SumP a) ∨ (GuardOp c ∧ ∀ a ∈ argsR cs, FlatP a))
theorem op_not {c : C} (h : GuardOp c) : ¬ (c.n = 2 ∧ c.text ∈ comps) := by
  rintro ⟨h1, h2⟩
  rcases h with ⟨g, _⟩ | ⟨_, g⟩
  · omega
  · rcases g with g | g
    · rw [g] at h2; revert h2; simp [comps, equalS, unlikeS]
    · rw [g] at h2; revert h2; simp [comps, equalS, unlikeS]
theorem guard_iff {c : C} {r : List C} (ht : ¬ IsP (c :: r) trueS 0) (hk : c.k = 3) : GuardP (c :: r) ↔ (c.n = 2 ∧ c.text ∈ comps ∧ ∀ a ∈ argsR (c :: r), SumP a) ∨ (GuardOp c ∧ ∀ a ∈ argsR (c :: r), FlatP a) := by
  constructor
  · rintro (h | ⟨c', r', e, _, h⟩)
    · exact absurd h ht
    · cases e; exact h
  · intro h; exact .inr ⟨c, r, rfl, hk, h⟩
theorem str_ne {a b : ByteArray} (h : (a.toList == b.toList) = false) : a ≠ b := by
  intro e; subst e; simp at h
theorem str_eq {a b : ByteArray} (h : (a.toList == b.toList) = true) : a = b := bytes_eq.1 (eq_of_beq h)

theorem isGuard_ok (lab : Nat) (cs : List C) (sp : List (List LV)) (hR : RightP cs) (hf : ∀ c ∈ cs, c.fine) (ob : Obs) (pb : Nat) (res : Bool) (hr : res = true ↔ GuardP cs) : Gives env4 303 [sl5 false lab cs sp] ob pb (.bool res, ob) := by
  obtain ⟨c, r, rfl⟩ := right_cons hR
  have hl : (c :: r).length ≤ 4611686018427387904 := by have := hR.2.1; omega
  refine gives_code (f := tf303) rfl ?_
  conv => whnf
  obtain ⟨k, hk⟩ := boolOf (IsP (c :: r) trueS 0)
  refine ⟨_, _, is_ok lab (c :: r) sp trueS 0 ob _ k hk, fun _ => rfl, ?_⟩
  conv => whnf
  refine sel_split (fun h => ?_) (fun h => ?_)
  · conv => whnf
    exact ⟨rfl, bool_of hr ⟨fun _ => .inl (hk.1 h), fun _ => rfl⟩, rfl⟩
  · conv => whnf
    have ht : ¬ IsP (c :: r) trueS 0 := fun hn => by rw [hk.2 hn] at h; cases h
    refine ⟨_, ⟨by omega, idx_row (cs := c :: r) (i := 0) rfl⟩, ?_⟩
    conv => whnf
    refine sel_split (fun h2 => ?_) (fun h2 => ?_)
    · conv => whnf
      have h2 : c.k ≠ 3 := by simpa using h2
      refine ⟨rfl, bool_of hr ⟨fun e => (nomatch e), fun h => ?_⟩, rfl⟩
      exfalso
      rcases h with h | ⟨_, _, e, h, _⟩
      · exact ht h
      · cases e; exact h2 h
    · conv => whnf
      have hk3 : c.k = 3 := by simpa using h2
      refine sel_split (fun h3 => ?_) (fun h3 => ?_)
      · conv => whnf
        have hn2 : c.n = 2 := by simpa using h3
        obtain ⟨q, hq⟩ := boolOf (c.text ∈ comps)
        refine ⟨_, _, (hasStr_ok 0 comps c.text (by decide) ob _ q hq).le le14, fun _ => rfl, ?_⟩
        conv => whnf
        refine sel_split (fun h4 => ?_) (fun h4 => ?_)
        · conv => whnf
          have hcm : c.text ∈ comps := hq.1 h4
          refine ⟨_, _, (args_ok lab (c :: r) sp hl hf ob _).le le14, fun _ => noRefM _ _, ?_⟩
          conv => whnf
          obtain ⟨q2, hq2⟩ := boolOf (∃ t ∈ (argsR (c :: r)).map T1.mk0, ¬ SumP t.cs)
          refine ⟨_, _, any33p_ok 328 _ _ 0 _ ((argsR (c :: r)).map T1.mk0) [] (fun t => ¬ SumP t.cs) (by rw [List.length_map]; have := argsR_len (c :: r); omega) (fun t ht ob pb q hq => ?_) ob _ q2 hq2, fun _ => rfl, ?_⟩
          · obtain ⟨a, ha, rfl⟩ := List.mem_map.1 ht
            obtain ⟨s1, s2, s3⟩ := args_small hR hk3 ha
            obtain ⟨q', hq'⟩ := boolOf (SumP a)
            refine gives_code (f := tf328) rfl ?_
            conv => whnf
            refine ⟨_, _, isSum_ok _ 0 a [] (Nat.le_refl _) s2 (fun d hd => hf d (s3 d hd)) ob _ q' hq', fun _ => rfl, ?_⟩
            conv => whnf
            refine ⟨rfl, bool_of hq ?_, rfl⟩
            show (!q') = true ↔ ¬ SumP a
            rw [← hq']; cases q' <;> simp
          conv => whnf
          refine ⟨rfl, bool_of hr ?_, rfl⟩
          rw [guard_iff ht hk3]
          have hall : (!q2) = true ↔ ∀ a ∈ argsR (c :: r), SumP a := by
            constructor
            · intro e a ha
              have e : q2 = false := by simpa using e
              refine Classical.byContradiction fun hn => ?_
              have := hq2.2 ⟨T1.mk0 a, List.mem_map.2 ⟨a, ha, rfl⟩, hn⟩
              rw [e] at this; cases this
            · intro h
              cases hq : q2 with
              | false => rfl
              | true =>
                obtain ⟨t, ht, hn⟩ := hq2.1 hq
                obtain ⟨a, ha, rfl⟩ := List.mem_map.1 ht
                exact absurd (h a ha) hn
          rw [hall]
          exact ⟨fun h => .inl ⟨hn2, hcm, h⟩, fun h => by rcases h with h | h; exact h.2.2; exact absurd ⟨hn2, hcm⟩ (op_not h.1)⟩
        · conv => whnf
          have hcm : c.text ∉ comps := fun hm => by rw [hq.2 hm] at h4; cases h4
          refine sel_split (fun k1 => ?_) (fun k1 => ?_)
          · conv => whnf
            have k1 : c.n = 1 := by simpa using k1
            obtain ⟨p, hp⟩ := boolOf (c.text ∈ tests)
            refine ⟨_, _, (hasStr_ok 0 tests c.text (by decide) ob _ p hp).le le14, fun _ => rfl, ?_⟩
            conv => whnf
            refine sel_split (fun k2 => ?_) (fun k2 => ?_)
            · conv => whnf
              have k2 : c.text ∈ tests := hp.1 k2
              refine ⟨_, _, (args_ok lab (c :: r) sp hl hf ob _).le le14, fun _ => noRefM _ _, ?_⟩
              conv => whnf
              obtain ⟨q2, hq2⟩ := boolOf (∃ t ∈ (argsR (c :: r)).map T1.mk0, ¬ FlatP t.cs)
              refine ⟨_, _, any33p_ok 328 _ _ 0 _ ((argsR (c :: r)).map T1.mk0) [] (fun t => ¬ FlatP t.cs) (by rw [List.length_map]; have := argsR_len (c :: r); omega) (fun t ht ob pb q hq => ?_) ob _ q2 hq2, fun _ => rfl, ?_⟩
              · obtain ⟨a, ha, rfl⟩ := List.mem_map.1 ht
                obtain ⟨s1, s2, s3⟩ := args_small hR hk3 ha
                obtain ⟨q', hq'⟩ := boolOf (FlatP a)
                refine gives_code (f := tf328) rfl ?_
                conv => whnf
                refine ⟨_, _, isFlat_ok 0 a [] s2.1 ob _ q' hq', fun _ => rfl, ?_⟩
                conv => whnf
                refine ⟨rfl, bool_of hq ?_, rfl⟩
                show (!q') = true ↔ ¬ FlatP a
                rw [← hq']; cases q' <;> simp
              conv => whnf
              refine ⟨rfl, bool_of hr ?_, rfl⟩
              rw [guard_iff ht hk3]
              have hall : (!q2) = true ↔ ∀ a ∈ argsR (c :: r), FlatP a := by
                constructor
                · intro e a ha
                  have e : q2 = false := by simpa using e
                  refine Classical.byContradiction fun hn => ?_
                  have := hq2.2 ⟨T1.mk0 a, List.mem_map.2 ⟨a, ha, rfl⟩, hn⟩
                  rw [e] at this; cases this
                · intro h
                  cases hq : q2 with
                  | false => rfl
                  | true =>
                    obtain ⟨t, ht, hn⟩ := hq2.1 hq
                    obtain ⟨a, ha, rfl⟩ := List.mem_map.1 ht
                    exact absurd (h a ha) hn
              rw [hall]
              have hop : GuardOp c := .inl ⟨k1, k2⟩
              exact ⟨fun h => .inr ⟨hop, h⟩, fun h => by rcases h with h | h; exact absurd ⟨h.1, h.2.1⟩ (op_not hop); exact h.2⟩
            · conv => whnf
              have k2 : c.text ∉ tests := fun hm => by rw [hp.2 hm] at k2; cases k2
              refine sel_split (fun g1 => ?_) (fun g1 => ?_)
              · conv => whnf
                have g1 : c.n = 2 := by simpa using g1
                refine sel_split (fun g2 => ?_) (fun g2 => ?_)
                · conv => whnf
                  have g2 : c.text = equalS := str_eq g2
                  refine ⟨_, _, (args_ok lab (c :: r) sp hl hf ob _).le le14, fun _ => noRefM _ _, ?_⟩
                  conv => whnf
                  obtain ⟨q2, hq2⟩ := boolOf (∃ t ∈ (argsR (c :: r)).map T1.mk0, ¬ FlatP t.cs)
                  refine ⟨_, _, any33p_ok 328 _ _ 0 _ ((argsR (c :: r)).map T1.mk0) [] (fun t => ¬ FlatP t.cs) (by rw [List.length_map]; have := argsR_len (c :: r); omega) (fun t ht ob pb q hq => ?_) ob _ q2 hq2, fun _ => rfl, ?_⟩
                  · obtain ⟨a, ha, rfl⟩ := List.mem_map.1 ht
                    obtain ⟨s1, s2, s3⟩ := args_small hR hk3 ha
                    obtain ⟨q', hq'⟩ := boolOf (FlatP a)
                    refine gives_code (f := tf328) rfl ?_
                    conv => whnf
                    refine ⟨_, _, isFlat_ok 0 a [] s2.1 ob _ q' hq', fun _ => rfl, ?_⟩
                    conv => whnf
                    refine ⟨rfl, bool_of hq ?_, rfl⟩
                    show (!q') = true ↔ ¬ FlatP a
                    rw [← hq']; cases q' <;> simp
                  conv => whnf
                  refine ⟨rfl, bool_of hr ?_, rfl⟩
                  rw [guard_iff ht hk3]
                  have hall : (!q2) = true ↔ ∀ a ∈ argsR (c :: r), FlatP a := by
                    constructor
                    · intro e a ha
                      have e : q2 = false := by simpa using e
                      refine Classical.byContradiction fun hn => ?_
                      have := hq2.2 ⟨T1.mk0 a, List.mem_map.2 ⟨a, ha, rfl⟩, hn⟩
                      rw [e] at this; cases this
                    · intro h
                      cases hq : q2 with
                      | false => rfl
                      | true =>
                        obtain ⟨t, ht, hn⟩ := hq2.1 hq
                        obtain ⟨a, ha, rfl⟩ := List.mem_map.1 ht
                        exact absurd (h a ha) hn
                  rw [hall]
                  have hop : GuardOp c := .inr ⟨g1, .inl g2⟩
                  exact ⟨fun h => .inr ⟨hop, h⟩, fun h => by rcases h with h | h; exact absurd ⟨h.1, h.2.1⟩ (op_not hop); exact h.2⟩
                · conv => whnf
                  have g2 : c.text ≠ equalS := str_ne g2
                  refine sel_split (fun g3 => ?_) (fun g3 => ?_)
                  · conv => whnf
                    have g3 : c.text = unlikeS := str_eq g3
                    refine ⟨_, _, (args_ok lab (c :: r) sp hl hf ob _).le le14, fun _ => noRefM _ _, ?_⟩
                    conv => whnf
                    obtain ⟨q2, hq2⟩ := boolOf (∃ t ∈ (argsR (c :: r)).map T1.mk0, ¬ FlatP t.cs)
                    refine ⟨_, _, any33p_ok 328 _ _ 0 _ ((argsR (c :: r)).map T1.mk0) [] (fun t => ¬ FlatP t.cs) (by rw [List.length_map]; have := argsR_len (c :: r); omega) (fun t ht ob pb q hq => ?_) ob _ q2 hq2, fun _ => rfl, ?_⟩
                    · obtain ⟨a, ha, rfl⟩ := List.mem_map.1 ht
                      obtain ⟨s1, s2, s3⟩ := args_small hR hk3 ha
                      obtain ⟨q', hq'⟩ := boolOf (FlatP a)
                      refine gives_code (f := tf328) rfl ?_
                      conv => whnf
                      refine ⟨_, _, isFlat_ok 0 a [] s2.1 ob _ q' hq', fun _ => rfl, ?_⟩
                      conv => whnf
                      refine ⟨rfl, bool_of hq ?_, rfl⟩
                      show (!q') = true ↔ ¬ FlatP a
                      rw [← hq']; cases q' <;> simp
                    conv => whnf
                    refine ⟨rfl, bool_of hr ?_, rfl⟩
                    rw [guard_iff ht hk3]
                    have hall : (!q2) = true ↔ ∀ a ∈ argsR (c :: r), FlatP a := by
                      constructor
                      · intro e a ha
                        have e : q2 = false := by simpa using e
                        refine Classical.byContradiction fun hn => ?_
                        have := hq2.2 ⟨T1.mk0 a, List.mem_map.2 ⟨a, ha, rfl⟩, hn⟩
                        rw [e] at this; cases this
                      · intro h
                        cases hq : q2 with
                        | false => rfl
                        | true =>
                          obtain ⟨t, ht, hn⟩ := hq2.1 hq
                          obtain ⟨a, ha, rfl⟩ := List.mem_map.1 ht
                          exact absurd (h a ha) hn
                    rw [hall]
                    have hop : GuardOp c := .inr ⟨g1, .inr g3⟩
                    exact ⟨fun h => .inr ⟨hop, h⟩, fun h => by rcases h with h | h; exact absurd ⟨h.1, h.2.1⟩ (op_not hop); exact h.2⟩
                  · conv => whnf
                    have g3 : c.text ≠ unlikeS := str_ne g3
                    refine ⟨rfl, bool_of hr ⟨fun e => (nomatch e), fun h => ?_⟩, rfl⟩
                    exfalso
                    rcases (guard_iff ht hk3).1 h with h | h
                    · exact hcm h.2.1
                    · rcases h.1 with h | h
                      · exact k2 h.2
                      · exact h.2.elim g2 g3
              · conv => whnf
                have g1 : c.n ≠ 2 := by simpa using g1
                refine ⟨rfl, bool_of hr ⟨fun e => (nomatch e), fun h => ?_⟩, rfl⟩
                exfalso
                rcases (guard_iff ht hk3).1 h with h | h
                · exact hcm h.2.1
                · rcases h.1 with h | h
                  · exact k2 h.2
                  · exact g1 h.1
          · conv => whnf
            have k1 : c.n ≠ 1 := by simpa using k1
            refine sel_split (fun g1 => ?_) (fun g1 => ?_)
            · conv => whnf
              have g1 : c.n = 2 := by simpa using g1
              refine sel_split (fun g2 => ?_) (fun g2 => ?_)
              · conv => whnf
                have g2 : c.text = equalS := str_eq g2
                refine ⟨_, _, (args_ok lab (c :: r) sp hl hf ob _).le le14, fun _ => noRefM _ _, ?_⟩
                conv => whnf
                obtain ⟨q2, hq2⟩ := boolOf (∃ t ∈ (argsR (c :: r)).map T1.mk0, ¬ FlatP t.cs)
                refine ⟨_, _, any33p_ok 328 _ _ 0 _ ((argsR (c :: r)).map T1.mk0) [] (fun t => ¬ FlatP t.cs) (by rw [List.length_map]; have := argsR_len (c :: r); omega) (fun t ht ob pb q hq => ?_) ob _ q2 hq2, fun _ => rfl, ?_⟩
                · obtain ⟨a, ha, rfl⟩ := List.mem_map.1 ht
                  obtain ⟨s1, s2, s3⟩ := args_small hR hk3 ha
                  obtain ⟨q', hq'⟩ := boolOf (FlatP a)
                  refine gives_code (f := tf328) rfl ?_
                  conv => whnf
                  refine ⟨_, _, isFlat_ok 0 a [] s2.1 ob _ q' hq', fun _ => rfl, ?_⟩
                  conv => whnf
                  refine ⟨rfl, bool_of hq ?_, rfl⟩
                  show (!q') = true ↔ ¬ FlatP a
                  rw [← hq']; cases q' <;> simp
                conv => whnf
                refine ⟨rfl, bool_of hr ?_, rfl⟩
                rw [guard_iff ht hk3]
                have hall : (!q2) = true ↔ ∀ a ∈ argsR (c :: r), FlatP a := by
                  constructor
                  · intro e a ha
                    have e : q2 = false := by simpa using e
                    refine Classical.byContradiction fun hn => ?_
                    have := hq2.2 ⟨T1.mk0 a, List.mem_map.2 ⟨a, ha, rfl⟩, hn⟩
                    rw [e] at this; cases this
                  · intro h
                    cases hq : q2 with
                    | false => rfl
                    | true =>
                      obtain ⟨t, ht, hn⟩ := hq2.1 hq
                      obtain ⟨a, ha, rfl⟩ := List.mem_map.1 ht
                      exact absurd (h a ha) hn
                rw [hall]
                have hop : GuardOp c := .inr ⟨g1, .inl g2⟩
                exact ⟨fun h => .inr ⟨hop, h⟩, fun h => by rcases h with h | h; exact absurd ⟨h.1, h.2.1⟩ (op_not hop); exact h.2⟩
              · conv => whnf
                have g2 : c.text ≠ equalS := str_ne g2
                refine sel_split (fun g3 => ?_) (fun g3 => ?_)
                · conv => whnf
                  have g3 : c.text = unlikeS := str_eq g3
                  refine ⟨_, _, (args_ok lab (c :: r) sp hl hf ob _).le le14, fun _ => noRefM _ _, ?_⟩
                  conv => whnf
                  obtain ⟨q2, hq2⟩ := boolOf (∃ t ∈ (argsR (c :: r)).map T1.mk0, ¬ FlatP t.cs)
                  refine ⟨_, _, any33p_ok 328 _ _ 0 _ ((argsR (c :: r)).map T1.mk0) [] (fun t => ¬ FlatP t.cs) (by rw [List.length_map]; have := argsR_len (c :: r); omega) (fun t ht ob pb q hq => ?_) ob _ q2 hq2, fun _ => rfl, ?_⟩
                  · obtain ⟨a, ha, rfl⟩ := List.mem_map.1 ht
                    obtain ⟨s1, s2, s3⟩ := args_small hR hk3 ha
                    obtain ⟨q', hq'⟩ := boolOf (FlatP a)
                    refine gives_code (f := tf328) rfl ?_
                    conv => whnf
                    refine ⟨_, _, isFlat_ok 0 a [] s2.1 ob _ q' hq', fun _ => rfl, ?_⟩
                    conv => whnf
                    refine ⟨rfl, bool_of hq ?_, rfl⟩
                    show (!q') = true ↔ ¬ FlatP a
                    rw [← hq']; cases q' <;> simp
                  conv => whnf
                  refine ⟨rfl, bool_of hr ?_, rfl⟩
                  rw [guard_iff ht hk3]
                  have hall : (!q2) = true ↔ ∀ a ∈ argsR (c :: r), FlatP a := by
                    constructor
                    · intro e a ha
                      have e : q2 = false := by simpa using e
                      refine Classical.byContradiction fun hn => ?_
                      have := hq2.2 ⟨T1.mk0 a, List.mem_map.2 ⟨a, ha, rfl⟩, hn⟩
                      rw [e] at this; cases this
                    · intro h
                      cases hq : q2 with
                      | false => rfl
                      | true =>
                        obtain ⟨t, ht, hn⟩ := hq2.1 hq
                        obtain ⟨a, ha, rfl⟩ := List.mem_map.1 ht
                        exact absurd (h a ha) hn
                  rw [hall]
                  have hop : GuardOp c := .inr ⟨g1, .inr g3⟩
                  exact ⟨fun h => .inr ⟨hop, h⟩, fun h => by rcases h with h | h; exact absurd ⟨h.1, h.2.1⟩ (op_not hop); exact h.2⟩
                · conv => whnf
                  have g3 : c.text ≠ unlikeS := str_ne g3
                  refine ⟨rfl, bool_of hr ⟨fun e => (nomatch e), fun h => ?_⟩, rfl⟩
                  exfalso
                  rcases (guard_iff ht hk3).1 h with h | h
                  · exact hcm h.2.1
                  · rcases h.1 with h | h
                    · exact k1 h.1
                    · exact h.2.elim g2 g3
            · conv => whnf
              have g1 : c.n ≠ 2 := by simpa using g1
              refine ⟨rfl, bool_of hr ⟨fun e => (nomatch e), fun h => ?_⟩, rfl⟩
              exfalso
              rcases (guard_iff ht hk3).1 h with h | h
              · exact hcm h.2.1
              · rcases h.1 with h | h
                · exact k1 h.1
                · exact g1 h.1
      · conv => whnf
        have hn2 : c.n ≠ 2 := by simpa using h3
        refine sel_split (fun k1 => ?_) (fun k1 => ?_)
        · conv => whnf
          have k1 : c.n = 1 := by simpa using k1
          obtain ⟨p, hp⟩ := boolOf (c.text ∈ tests)
          refine ⟨_, _, (hasStr_ok 0 tests c.text (by decide) ob _ p hp).le le14, fun _ => rfl, ?_⟩
          conv => whnf
          refine sel_split (fun k2 => ?_) (fun k2 => ?_)
          · conv => whnf
            have k2 : c.text ∈ tests := hp.1 k2
            refine ⟨_, _, (args_ok lab (c :: r) sp hl hf ob _).le le14, fun _ => noRefM _ _, ?_⟩
            conv => whnf
            obtain ⟨q2, hq2⟩ := boolOf (∃ t ∈ (argsR (c :: r)).map T1.mk0, ¬ FlatP t.cs)
            refine ⟨_, _, any33p_ok 328 _ _ 0 _ ((argsR (c :: r)).map T1.mk0) [] (fun t => ¬ FlatP t.cs) (by rw [List.length_map]; have := argsR_len (c :: r); omega) (fun t ht ob pb q hq => ?_) ob _ q2 hq2, fun _ => rfl, ?_⟩
            · obtain ⟨a, ha, rfl⟩ := List.mem_map.1 ht
              obtain ⟨s1, s2, s3⟩ := args_small hR hk3 ha
              obtain ⟨q', hq'⟩ := boolOf (FlatP a)
              refine gives_code (f := tf328) rfl ?_
              conv => whnf
              refine ⟨_, _, isFlat_ok 0 a [] s2.1 ob _ q' hq', fun _ => rfl, ?_⟩
              conv => whnf
              refine ⟨rfl, bool_of hq ?_, rfl⟩
              show (!q') = true ↔ ¬ FlatP a
              rw [← hq']; cases q' <;> simp
            conv => whnf
            refine ⟨rfl, bool_of hr ?_, rfl⟩
            rw [guard_iff ht hk3]
            have hall : (!q2) = true ↔ ∀ a ∈ argsR (c :: r), FlatP a := by
              constructor
              · intro e a ha
                have e : q2 = false := by simpa using e
                refine Classical.byContradiction fun hn => ?_
                have := hq2.2 ⟨T1.mk0 a, List.mem_map.2 ⟨a, ha, rfl⟩, hn⟩
                rw [e] at this; cases this
              · intro h
                cases hq : q2 with
                | false => rfl
                | true =>
                  obtain ⟨t, ht, hn⟩ := hq2.1 hq
                  obtain ⟨a, ha, rfl⟩ := List.mem_map.1 ht
                  exact absurd (h a ha) hn
            rw [hall]
            have hop : GuardOp c := .inl ⟨k1, k2⟩
            exact ⟨fun h => .inr ⟨hop, h⟩, fun h => by rcases h with h | h; exact absurd ⟨h.1, h.2.1⟩ (op_not hop); exact h.2⟩
          · conv => whnf
            have k2 : c.text ∉ tests := fun hm => by rw [hp.2 hm] at k2; cases k2
            refine sel_split (fun g1 => ?_) (fun g1 => ?_)
            · conv => whnf
              have g1 : c.n = 2 := by simpa using g1
              refine sel_split (fun g2 => ?_) (fun g2 => ?_)
              · conv => whnf
                have g2 : c.text = equalS := str_eq g2
                refine ⟨_, _, (args_ok lab (c :: r) sp hl hf ob _).le le14, fun _ => noRefM _ _, ?_⟩
                conv => whnf
                obtain ⟨q2, hq2⟩ := boolOf (∃ t ∈ (argsR (c :: r)).map T1.mk0, ¬ FlatP t.cs)
                refine ⟨_, _, any33p_ok 328 _ _ 0 _ ((argsR (c :: r)).map T1.mk0) [] (fun t => ¬ FlatP t.cs) (by rw [List.length_map]; have := argsR_len (c :: r); omega) (fun t ht ob pb q hq => ?_) ob _ q2 hq2, fun _ => rfl, ?_⟩
                · obtain ⟨a, ha, rfl⟩ := List.mem_map.1 ht
                  obtain ⟨s1, s2, s3⟩ := args_small hR hk3 ha
                  obtain ⟨q', hq'⟩ := boolOf (FlatP a)
                  refine gives_code (f := tf328) rfl ?_
                  conv => whnf
                  refine ⟨_, _, isFlat_ok 0 a [] s2.1 ob _ q' hq', fun _ => rfl, ?_⟩
                  conv => whnf
                  refine ⟨rfl, bool_of hq ?_, rfl⟩
                  show (!q') = true ↔ ¬ FlatP a
                  rw [← hq']; cases q' <;> simp
                conv => whnf
                refine ⟨rfl, bool_of hr ?_, rfl⟩
                rw [guard_iff ht hk3]
                have hall : (!q2) = true ↔ ∀ a ∈ argsR (c :: r), FlatP a := by
                  constructor
                  · intro e a ha
                    have e : q2 = false := by simpa using e
                    refine Classical.byContradiction fun hn => ?_
                    have := hq2.2 ⟨T1.mk0 a, List.mem_map.2 ⟨a, ha, rfl⟩, hn⟩
                    rw [e] at this; cases this
                  · intro h
                    cases hq : q2 with
                    | false => rfl
                    | true =>
                      obtain ⟨t, ht, hn⟩ := hq2.1 hq
                      obtain ⟨a, ha, rfl⟩ := List.mem_map.1 ht
                      exact absurd (h a ha) hn
                rw [hall]
                have hop : GuardOp c := .inr ⟨g1, .inl g2⟩
                exact ⟨fun h => .inr ⟨hop, h⟩, fun h => by rcases h with h | h; exact absurd ⟨h.1, h.2.1⟩ (op_not hop); exact h.2⟩
              · conv => whnf
                have g2 : c.text ≠ equalS := str_ne g2
                refine sel_split (fun g3 => ?_) (fun g3 => ?_)
                · conv => whnf
                  have g3 : c.text = unlikeS := str_eq g3
                  refine ⟨_, _, (args_ok lab (c :: r) sp hl hf ob _).le le14, fun _ => noRefM _ _, ?_⟩
                  conv => whnf
                  obtain ⟨q2, hq2⟩ := boolOf (∃ t ∈ (argsR (c :: r)).map T1.mk0, ¬ FlatP t.cs)
                  refine ⟨_, _, any33p_ok 328 _ _ 0 _ ((argsR (c :: r)).map T1.mk0) [] (fun t => ¬ FlatP t.cs) (by rw [List.length_map]; have := argsR_len (c :: r); omega) (fun t ht ob pb q hq => ?_) ob _ q2 hq2, fun _ => rfl, ?_⟩
                  · obtain ⟨a, ha, rfl⟩ := List.mem_map.1 ht
                    obtain ⟨s1, s2, s3⟩ := args_small hR hk3 ha
                    obtain ⟨q', hq'⟩ := boolOf (FlatP a)
                    refine gives_code (f := tf328) rfl ?_
                    conv => whnf
                    refine ⟨_, _, isFlat_ok 0 a [] s2.1 ob _ q' hq', fun _ => rfl, ?_⟩
                    conv => whnf
                    refine ⟨rfl, bool_of hq ?_, rfl⟩
                    show (!q') = true ↔ ¬ FlatP a
                    rw [← hq']; cases q' <;> simp
                  conv => whnf
                  refine ⟨rfl, bool_of hr ?_, rfl⟩
                  rw [guard_iff ht hk3]
                  have hall : (!q2) = true ↔ ∀ a ∈ argsR (c :: r), FlatP a := by
                    constructor
                    · intro e a ha
                      have e : q2 = false := by simpa using e
                      refine Classical.byContradiction fun hn => ?_
                      have := hq2.2 ⟨T1.mk0 a, List.mem_map.2 ⟨a, ha, rfl⟩, hn⟩
                      rw [e] at this; cases this
                    · intro h
                      cases hq : q2 with
                      | false => rfl
                      | true =>
                        obtain ⟨t, ht, hn⟩ := hq2.1 hq
                        obtain ⟨a, ha, rfl⟩ := List.mem_map.1 ht
                        exact absurd (h a ha) hn
                  rw [hall]
                  have hop : GuardOp c := .inr ⟨g1, .inr g3⟩
                  exact ⟨fun h => .inr ⟨hop, h⟩, fun h => by rcases h with h | h; exact absurd ⟨h.1, h.2.1⟩ (op_not hop); exact h.2⟩
                · conv => whnf
                  have g3 : c.text ≠ unlikeS := str_ne g3
                  refine ⟨rfl, bool_of hr ⟨fun e => (nomatch e), fun h => ?_⟩, rfl⟩
                  exfalso
                  rcases (guard_iff ht hk3).1 h with h | h
                  · exact hn2 h.1
                  · rcases h.1 with h | h
                    · exact k2 h.2
                    · exact h.2.elim g2 g3
            · conv => whnf
              have g1 : c.n ≠ 2 := by simpa using g1
              refine ⟨rfl, bool_of hr ⟨fun e => (nomatch e), fun h => ?_⟩, rfl⟩
              exfalso
              rcases (guard_iff ht hk3).1 h with h | h
              · exact hn2 h.1
              · rcases h.1 with h | h
                · exact k2 h.2
                · exact g1 h.1
        · conv => whnf
          have k1 : c.n ≠ 1 := by simpa using k1
          refine sel_split (fun g1 => ?_) (fun g1 => ?_)
          · conv => whnf
            have g1 : c.n = 2 := by simpa using g1
            refine sel_split (fun g2 => ?_) (fun g2 => ?_)
            · conv => whnf
              have g2 : c.text = equalS := str_eq g2
              refine ⟨_, _, (args_ok lab (c :: r) sp hl hf ob _).le le14, fun _ => noRefM _ _, ?_⟩
              conv => whnf
              obtain ⟨q2, hq2⟩ := boolOf (∃ t ∈ (argsR (c :: r)).map T1.mk0, ¬ FlatP t.cs)
              refine ⟨_, _, any33p_ok 328 _ _ 0 _ ((argsR (c :: r)).map T1.mk0) [] (fun t => ¬ FlatP t.cs) (by rw [List.length_map]; have := argsR_len (c :: r); omega) (fun t ht ob pb q hq => ?_) ob _ q2 hq2, fun _ => rfl, ?_⟩
              · obtain ⟨a, ha, rfl⟩ := List.mem_map.1 ht
                obtain ⟨s1, s2, s3⟩ := args_small hR hk3 ha
                obtain ⟨q', hq'⟩ := boolOf (FlatP a)
                refine gives_code (f := tf328) rfl ?_
                conv => whnf
                refine ⟨_, _, isFlat_ok 0 a [] s2.1 ob _ q' hq', fun _ => rfl, ?_⟩
                conv => whnf
                refine ⟨rfl, bool_of hq ?_, rfl⟩
                show (!q') = true ↔ ¬ FlatP a
                rw [← hq']; cases q' <;> simp
              conv => whnf
              refine ⟨rfl, bool_of hr ?_, rfl⟩
              rw [guard_iff ht hk3]
              have hall : (!q2) = true ↔ ∀ a ∈ argsR (c :: r), FlatP a := by
                constructor
                · intro e a ha
                  have e : q2 = false := by simpa using e
                  refine Classical.byContradiction fun hn => ?_
                  have := hq2.2 ⟨T1.mk0 a, List.mem_map.2 ⟨a, ha, rfl⟩, hn⟩
                  rw [e] at this; cases this
                · intro h
                  cases hq : q2 with
                  | false => rfl
                  | true =>
                    obtain ⟨t, ht, hn⟩ := hq2.1 hq
                    obtain ⟨a, ha, rfl⟩ := List.mem_map.1 ht
                    exact absurd (h a ha) hn
              rw [hall]
              have hop : GuardOp c := .inr ⟨g1, .inl g2⟩
              exact ⟨fun h => .inr ⟨hop, h⟩, fun h => by rcases h with h | h; exact absurd ⟨h.1, h.2.1⟩ (op_not hop); exact h.2⟩
            · conv => whnf
              have g2 : c.text ≠ equalS := str_ne g2
              refine sel_split (fun g3 => ?_) (fun g3 => ?_)
              · conv => whnf
                have g3 : c.text = unlikeS := str_eq g3
                refine ⟨_, _, (args_ok lab (c :: r) sp hl hf ob _).le le14, fun _ => noRefM _ _, ?_⟩
                conv => whnf
                obtain ⟨q2, hq2⟩ := boolOf (∃ t ∈ (argsR (c :: r)).map T1.mk0, ¬ FlatP t.cs)
                refine ⟨_, _, any33p_ok 328 _ _ 0 _ ((argsR (c :: r)).map T1.mk0) [] (fun t => ¬ FlatP t.cs) (by rw [List.length_map]; have := argsR_len (c :: r); omega) (fun t ht ob pb q hq => ?_) ob _ q2 hq2, fun _ => rfl, ?_⟩
                · obtain ⟨a, ha, rfl⟩ := List.mem_map.1 ht
                  obtain ⟨s1, s2, s3⟩ := args_small hR hk3 ha
                  obtain ⟨q', hq'⟩ := boolOf (FlatP a)
                  refine gives_code (f := tf328) rfl ?_
                  conv => whnf
                  refine ⟨_, _, isFlat_ok 0 a [] s2.1 ob _ q' hq', fun _ => rfl, ?_⟩
                  conv => whnf
                  refine ⟨rfl, bool_of hq ?_, rfl⟩
                  show (!q') = true ↔ ¬ FlatP a
                  rw [← hq']; cases q' <;> simp
                conv => whnf
                refine ⟨rfl, bool_of hr ?_, rfl⟩
                rw [guard_iff ht hk3]
                have hall : (!q2) = true ↔ ∀ a ∈ argsR (c :: r), FlatP a := by
                  constructor
                  · intro e a ha
                    have e : q2 = false := by simpa using e
                    refine Classical.byContradiction fun hn => ?_
                    have := hq2.2 ⟨T1.mk0 a, List.mem_map.2 ⟨a, ha, rfl⟩, hn⟩
                    rw [e] at this; cases this
                  · intro h
                    cases hq : q2 with
                    | false => rfl
                    | true =>
                      obtain ⟨t, ht, hn⟩ := hq2.1 hq
                      obtain ⟨a, ha, rfl⟩ := List.mem_map.1 ht
                      exact absurd (h a ha) hn
                rw [hall]
                have hop : GuardOp c := .inr ⟨g1, .inr g3⟩
                exact ⟨fun h => .inr ⟨hop, h⟩, fun h => by rcases h with h | h; exact absurd ⟨h.1, h.2.1⟩ (op_not hop); exact h.2⟩
              · conv => whnf
                have g3 : c.text ≠ unlikeS := str_ne g3
                refine ⟨rfl, bool_of hr ⟨fun e => (nomatch e), fun h => ?_⟩, rfl⟩
                exfalso
                rcases (guard_iff ht hk3).1 h with h | h
                · exact hn2 h.1
                · rcases h.1 with h | h
                  · exact k1 h.1
                  · exact h.2.elim g2 g3
          · conv => whnf
            have g1 : c.n ≠ 2 := by simpa using g1
            refine ⟨rfl, bool_of hr ⟨fun e => (nomatch e), fun h => ?_⟩, rfl⟩
            exfalso
            rcases (guard_iff ht hk3).1 h with h | h
            · exact hn2 h.1
            · rcases h.1 with h | h
              · exact k1 h.1
              · exact g1 h.1
end Tree

set_option autoImplicit false
set_option linter.unusedVariables false
set_option linter.unusedSimpArgs false
namespace Tree
open Go
set_option maxHeartbeats 4000000
set_option maxRecDepth 100000
def eqS : ByteArray := ⟨#[61]⟩
def asS : ByteArray := ⟨#[58, 61]⟩
def PlaceP (cs : List C) : Prop := ∃ c r, cs = c :: r ∧ (c.k = 4 ∨ c.k = 1 ∧ 0 ≤ c.n ∧ c.n < 4)
open Classical in
noncomputable def Goal0 (cs : List C) : Prop := if IsP cs eqS 2 then True else if IsP cs asS 2 then SumP ((argsR cs).getD 1 []) else if IsP cs atS 2 then False else CalP cs
open Classical in
noncomputable def GoalP (sent : Prop) (cs : List C) : Prop := if IsP cs eqS 2 then True else if IsP cs asS 2 then SumP ((argsR cs).getD 1 []) else if IsP cs atS 2 then (sent ∧ Goal0 ((argsR cs).getD 0 []) ∧ PlaceP ((argsR cs).getD 1 [])) else CalP cs
theorem goal0_iff (cs : List C) : GoalP False cs ↔ Goal0 cs := by
  unfold GoalP Goal0
  split
  · exact Iff.rfl
  · split
    · exact Iff.rfl
    · split
      · simp
      · exact Iff.rfl
theorem args2 {cs : List C} (hR : RightP cs) {s : ByteArray} (h : IsP cs s 2) : ∃ a b, argsR cs = [a, b] ∧ RightP a ∧ RightP b ∧ (∀ d ∈ a, d ∈ cs) ∧ (∀ d ∈ b, d ∈ cs) ∧ a.length < cs.length ∧ b.length < cs.length := by
  obtain ⟨c, r, rfl, h3, h4⟩ := h
  have hk : c.k = 3 := by
    rcases h4 with g | g
    · exact g.1
    · omega
  have hn : c.n = 2 := by
    rcases h4 with g | g
    · exact g.2
    · omega
  obtain ⟨f1, f2, f3, f4⟩ := args_facts hR hk
  obtain ⟨g1, g2, g3, g4⟩ := struct_facts hR hk
  have hlen : (argsR (c :: r)).length = 2 := by omega
  match hx : argsR (c :: r), hlen with
  | [a, b], _ =>
    have ha : a ∈ argsR (c :: r) := by rw [hx]; simp
    have hb : b ∈ argsR (c :: r) := by rw [hx]; simp
    obtain ⟨p1, p2, p3⟩ := args_small hR hk ha
    obtain ⟨q1, q2, q3⟩ := args_small hR hk hb
    exact ⟨a, b, rfl, p2, q2, p3, q3, p1, q1⟩
theorem isGoalF_ok (lab : Nat) (cs : List C) (sp : List (List LV)) (hR : RightP cs) (hf : ∀ c ∈ cs, c.fine) (sent : Bool) (rec : ∀ (a : List C), RightP a → a.length < cs.length → (∀ c ∈ a, c.fine) → sent = true → ∀ ob pb (q : Bool), (q = true ↔ Goal0 a) → Gives env4 305 [sl5 false 0 a [], .bool false] ob pb (.bool q, ob)) (ob : Obs) (pb : Nat) (r : Bool) (hr : r = true ↔ GoalP (sent = true) cs) : Gives env4 305 [sl5 false lab cs sp, .bool sent] ob pb (.bool r, ob) := by
  have hl : cs.length ≤ 4611686018427387904 := by have := hR.2.1; omega
  refine gives_code (f := tf305) rfl ?_
  conv => whnf
  refine ⟨_, _, (args_ok lab cs sp hl hf ob _).le le14, fun _ => noRefM _ _, ?_⟩
  conv => whnf
  obtain ⟨k1, hk1⟩ := boolOf (IsP cs eqS 2)
  refine ⟨_, _, is_ok lab cs sp eqS 2 ob _ k1 hk1, fun _ => rfl, ?_⟩
  conv => whnf
  refine sel_split (fun h1 => ?_) (fun h1 => ?_)
  · conv => whnf
    refine ⟨rfl, bool_of hr ⟨fun _ => ?_, fun _ => rfl⟩, rfl⟩
    unfold GoalP; rw [if_pos (hk1.1 h1)]; trivial
  · conv => whnf
    have h1 : ¬ IsP cs eqS 2 := fun hn => by rw [hk1.2 hn] at h1; cases h1
    obtain ⟨k2, hk2⟩ := boolOf (IsP cs asS 2)
    refine ⟨_, _, is_ok lab cs sp asS 2 ob _ k2 hk2, fun _ => rfl, ?_⟩
    conv => whnf
    refine sel_split (fun h2 => ?_) (fun h2 => ?_)
    · have h2 := hk2.1 h2
      obtain ⟨a, b, ha, ra, rb, fa, fb, la, lb⟩ := args2 hR h2
      have hg : GoalP (sent = true) cs ↔ SumP b := by unfold GoalP; rw [if_neg h1, if_pos h2, ha]; rfl
      rw [hg] at hr
      rw [ha]
      conv => whnf
      refine ⟨_, ⟨by omega, idx_t (ts := [a, b].map T1.mk0) (i := 1) rfl⟩, ?_⟩
      conv => whnf
      refine ⟨_, _, isSum_ok _ 0 b [] (Nat.le_refl _) rb (fun d hd => hf d (fb d hd)) ob _ r hr, fun _ => rfl, ?_⟩
      conv => whnf
      exact ⟨rfl, rfl, rfl⟩
    · have h2 : ¬ IsP cs asS 2 := fun hn => by rw [hk2.2 hn] at h2; cases h2
      conv => whnf
      obtain ⟨k3, hk3⟩ := boolOf (IsP cs atS 2)
      refine ⟨_, _, is_ok lab cs sp atS 2 ob _ k3 hk3, fun _ => rfl, ?_⟩
      conv => whnf
      refine sel_split (fun h3 => ?_) (fun h3 => ?_)
      · have h3 := hk3.1 h3
        obtain ⟨a, b, ha, ra, rb, fa, fb, la, lb⟩ := args2 hR h3
        have hg : GoalP (sent = true) cs ↔ sent = true ∧ Goal0 a ∧ PlaceP b := by unfold GoalP; rw [if_neg h1, if_neg h2, if_pos h3, ha]; rfl
        rw [hg] at hr
        obtain ⟨c, t, rfl⟩ := right_cons rb
        have hpl : PlaceP (c :: t) ↔ (c.k = 4 ∨ c.k = 1 ∧ 0 ≤ c.n ∧ c.n < 4) := ⟨fun ⟨_, _, e, h⟩ => by cases e; exact h, fun h => ⟨c, t, rfl, h⟩⟩
        rw [hpl] at hr
        rw [ha]
        conv => whnf
        refine ⟨_, ⟨by omega, idx_t (ts := [a, c :: t].map T1.mk0) (i := 1) rfl⟩, ?_⟩
        conv => whnf
        refine ⟨_, ⟨by omega, idx_row (cs := c :: t) (i := 0) rfl⟩, ?_⟩
        conv => whnf
        refine sel_split (fun h4 => ?_) (fun h4 => ?_)
        · conv => whnf
          refine ⟨_, ⟨by omega, idx_t (ts := [a, c :: t].map T1.mk0) (i := 0) rfl⟩, ?_⟩
          conv => whnf
          obtain ⟨q, hq⟩ := boolOf (Goal0 a)
          refine ⟨_, _, rec a ra la (fun d hd => hf d (fa d hd)) h4 ob _ q hq, fun _ => rfl, ?_⟩
          conv => whnf
          refine sel_split (fun h5 => ?_) (fun h5 => ?_)
          · conv => whnf
            have h5 := hq.1 h5
            refine sel_split (fun h6 => ?_) (fun h6 => ?_)
            · conv => whnf
              have h6 : c.k = 4 := by simpa using h6
              exact ⟨rfl, bool_of hr ⟨fun _ => ⟨h4, h5, .inl h6⟩, fun _ => rfl⟩, rfl⟩
            · conv => whnf
              have h6 : c.k ≠ 4 := by simpa using h6
              refine sel_split (fun h7 => ?_) (fun h7 => ?_)
              · conv => whnf
                have h7 : c.k = 1 := by simpa using h7
                refine sel_split (fun h8 => ?_) (fun h8 => ?_)
                · conv => whnf
                  have h8 : 0 ≤ c.n := by simpa using h8
                  refine ⟨rfl, bool_of hr ⟨fun e => ⟨h4, h5, .inr ⟨h7, h8, by simpa using e⟩⟩, fun h => ?_⟩, rfl⟩
                  rcases h.2.2 with g | g
                  · exact absurd g h6
                  · simpa using g.2.2
                · conv => whnf
                  have h8 : ¬ 0 ≤ c.n := by simpa using h8
                  refine ⟨rfl, bool_of hr ⟨fun e => (nomatch e), fun h => ?_⟩, rfl⟩
                  exfalso
                  rcases h.2.2 with g | g
                  · exact absurd g h6
                  · exact h8 g.2.1
              · conv => whnf
                have h7 : c.k ≠ 1 := by simpa using h7
                refine ⟨rfl, bool_of hr ⟨fun e => (nomatch e), fun h => ?_⟩, rfl⟩
                exfalso
                rcases h.2.2 with g | g
                · exact absurd g h6
                · exact h7 g.1
          · conv => whnf
            refine ⟨rfl, bool_of hr ⟨fun e => (nomatch e), fun h => ?_⟩, rfl⟩
            rw [hq.2 h.2.1] at h5; cases h5
        · conv => whnf
          refine ⟨rfl, bool_of hr ⟨fun e => (nomatch e), fun h => ?_⟩, rfl⟩
          rw [h4] at h; exact absurd h.1 (by simp)
      · have h3 : ¬ IsP cs atS 2 := fun hn => by rw [hk3.2 hn] at h3; cases h3
        have hg : GoalP (sent = true) cs ↔ CalP cs := by unfold GoalP; rw [if_neg h1, if_neg h2, if_neg h3]
        rw [hg] at hr
        conv => whnf
        refine ⟨_, _, isCall_ok lab cs sp hR.1 hf ob _ r hr, fun _ => rfl, ?_⟩
        conv => whnf
        exact ⟨rfl, rfl, rfl⟩
theorem goal0_ok (lab : Nat) (cs : List C) (sp : List (List LV)) (hR : RightP cs) (hf : ∀ c ∈ cs, c.fine) (ob : Obs) (pb : Nat) (r : Bool) (hr : r = true ↔ Goal0 cs) : Gives env4 305 [sl5 false lab cs sp, .bool false] ob pb (.bool r, ob) := by
  refine isGoalF_ok lab cs sp hR hf false (fun _ _ _ _ h => by cases h) ob pb r ?_
  rw [hr, ← goal0_iff]; simp
theorem isGoal_ok (lab : Nat) (cs : List C) (sp : List (List LV)) (hR : RightP cs) (hf : ∀ c ∈ cs, c.fine) (ob : Obs) (pb : Nat) (r : Bool) (hr : r = true ↔ GoalP True cs) : Gives env4 305 [sl5 false lab cs sp, .bool true] ob pb (.bool r, ob) := by
  refine isGoalF_ok lab cs sp hR hf true (fun a ra _ fa _ ob pb q hq => goal0_ok 0 a [] ra fa ob pb q hq) ob pb r ?_
  rw [hr]; simp
def Cl.lv (c : Cl) : LV := .agg c.row
def LongW (c : Cl) : Prop := c.guards.length > 4 ∨ c.body.length > 8 ∨ c.locals > 16
theorem long_ok (c : Cl) (ob : Obs) (pb : Nat) (r : Bool) (hr : r = true ↔ LongW c) : Gives env4 291 [.agg c.row] ob pb (.bool r, ob) := by
  have hg : (c.guards.map T1.row).length = c.guards.length := by simp
  have hb : (c.body.map T1.row).length = c.body.length := by simp
  refine gives_code (f := tf291) rfl ?_
  conv => whnf
  refine sel_split (fun h1 => ?_) (fun h1 => ?_)
  · conv => whnf
    have h1 := of_decide_eq_true h1
    refine ⟨rfl, bool_of hr ⟨fun _ => .inl (by rw [hg] at h1; omega), fun _ => rfl⟩, rfl⟩
  · conv => whnf
    have h1 := of_decide_eq_false h1
    rw [hg] at h1
    refine sel_split (fun h2 => ?_) (fun h2 => ?_)
    · conv => whnf
      have h2 := of_decide_eq_true h2
      refine ⟨rfl, bool_of hr ⟨fun _ => .inr (.inl (by rw [hb] at h2; omega)), fun _ => rfl⟩, rfl⟩
    · conv => whnf
      have h2 := of_decide_eq_false h2
      rw [hb] at h2
      refine ⟨rfl, bool_of hr ⟨fun e => .inr (.inr (by simpa using e)), fun h => ?_⟩, rfl⟩
      rcases h with g | g | g
      · omega
      · omega
      · simpa using g
end Tree

set_option autoImplicit false
set_option linter.unusedVariables false
set_option linter.unusedSimpArgs false
namespace Tree
open Go
set_option maxHeartbeats 4000000
set_option maxRecDepth 100000
structure G1 where
  lab : Nat
  ts : List T1
  sp : List (List LV)
def G1.row (g : G1) : List LV := [sl1 false g.lab g.ts g.sp]
theorem idx_g {ns : List G1} {i : Nat} {g : G1} (h : ns[i]? = some g) : (ns.map G1.row)[i]? = some [.sl false g.lab 1 (g.ts.map T1.row) g.sp] := by
  rw [List.getElem?_map, h]; rfl
def S330a (v : LV) (s : Int) (n : Nat) (i : Int) (ob : Obs) : WSt := ⟨.val v :: .val .undef :: .val .undef :: .val (.int .i64 s) :: List.replicate 5 (.val .undef) ++ .val v :: .val (.int .i64 n) :: .val (.int .i64 i) :: List.replicate 24 (.val .undef), ob, []⟩
def S330b (o v : LV) (n : Nat) (i : Int) (ob : Obs) : WSt := ⟨List.replicate 6 (.val .undef) ++ .val o :: List.replicate 18 (.val .undef) ++ .val v :: .val (.int .i64 n) :: .val (.int .i64 i) :: List.replicate 8 (.val .undef), ob, []⟩
theorem flat_take {gs : List G1} {i : Nat} {g : G1} (h : gs[i]? = some g) : (gs.take (i + 1)).flatMap G1.ts = (gs.take i).flatMap G1.ts ++ g.ts := by
  rw [List.take_add_one, h]; simp
theorem flat_take_le (gs : List G1) : ∀ i : Nat, ((gs.take i).flatMap G1.ts).length ≤ (gs.flatMap G1.ts).length := fun i => by
  have : gs.flatMap G1.ts = (gs.take i).flatMap G1.ts ++ (gs.drop i).flatMap G1.ts := by
    rw [← List.flatMap_append, List.take_append_drop]
  rw [this, List.length_append]; omega
theorem concat4_ok (lab : Nat) (gs : List G1) (sp : List (List LV)) (hl : gs.length ≤ 1048576) (hb : (gs.flatMap G1.ts).length ≤ 4194304) (ob : Obs) (pb : Nat) : Gives env4 330 [.sl false lab 1 (gs.map G1.row) sp] ob pb (sl1 true 0 (gs.flatMap G1.ts) [], ob) := by
  have hlen : (gs.map G1.row).length = gs.length := by simp
  refine gives_code (f := tf330) rfl ?_
  conv => whnf
  refine loop_abs (S := fun i : Nat => S330a (.sl false lab 1 (gs.map G1.row) sp) ((gs.take i).flatMap G1.ts).length (gs.map G1.row).length i ob) (m := fun i => gs.length - i) (P := fun i => i ≤ gs.length) ?_ 0 (Nat.zero_le _) rfl
  intro R i hi hN hE hR
  conv => whnf
  refine sel_split (fun h => ?_) (fun h => ?_)
  · conv => whnf
    have h := of_decide_eq_true h
    rw [hlen] at h
    obtain ⟨g, hg⟩ : ∃ g, gs[i]? = some g := ⟨_, List.getElem?_eq_getElem (show i < gs.length by omega)⟩
    have e : IntKind.i64.wrap ((i : Int) + 1) = ((i + 1 : Nat) : Int) := by rw [wrap64] <;> omega
    have hft := flat_take hg
    have hle := flat_take_le gs (i + 1)
    have hgl : (g.ts.map T1.row).length = g.ts.length := by simp
    have e2 : IntKind.i64.wrap ((((gs.take i).flatMap G1.ts).length : Int) + ((g.ts.map T1.row).length : Int)) = (((gs.take (i + 1)).flatMap G1.ts).length : Int) := by
      rw [hft, List.length_append] at hle
      rw [hgl, hft, List.length_append, wrap64] <;> omega
    refine ⟨_, ⟨by omega, idx_g hg⟩, ?_⟩
    conv => whnf
    refine sel_f ?_ ?_
    · have : IntKind.i64.wrap ((((gs.take i).flatMap G1.ts).length : Int) + ((g.ts.map T1.row).length : Int)) < 0 ↔ False := by
        rw [e2]; constructor
        · intro h; omega
        · intro h; cases h
      exact decide_eq_false (fun h => this.1 h)
    conv => whnf
    refine hN (i + 1) _ (by omega) (by omega) ?_
    rw [← e, ← e2]; rfl
  · conv => whnf
    have h := of_decide_eq_false h
    rw [hlen] at h
    have : i = gs.length := by omega
    subst this
    refine hE _ _ ?_
    rw [List.take_length]
    conv => whnf
    refine ⟨_, _, gives_ext (F := growF 1 24) (r := .sl true 0 1 [] []) rfl ?_, fun _ => rfl, ?_⟩
    · simp only [growF]
      rw [if_pos ⟨trivial, by omega, by omega, by omega⟩]
    conv => whnf
    refine loop_abs (S := fun i : Nat => S330b (sl1 true 0 ((gs.take i).flatMap G1.ts) []) (.sl false lab 1 (gs.map G1.row) sp) (gs.map G1.row).length i ob) (m := fun i => gs.length - i) (P := fun i => i ≤ gs.length) ?_ 0 (Nat.zero_le _) rfl
    intro R2 i hi2 hN2 hE2 hR2
    conv => whnf
    refine sel_split (fun h => ?_) (fun h => ?_)
    · conv => whnf
      have h := of_decide_eq_true h
      rw [hlen] at h
      obtain ⟨g, hg⟩ : ∃ g, gs[i]? = some g := ⟨_, List.getElem?_eq_getElem (show i < gs.length by omega)⟩
      have e : IntKind.i64.wrap ((i : Int) + 1) = ((i + 1 : Nat) : Int) := by rw [wrap64] <;> omega
      have hft := flat_take hg
      have hle := flat_take_le gs (i + 1)
      rw [hft, List.length_append] at hle
      refine ⟨_, ⟨by omega, idx_g hg⟩, ?_⟩
      conv => whnf
      refine ⟨((gs.take (i + 1)).flatMap G1.ts).map T1.row, ⟨.inl rfl, ?_, ?_⟩, ?_⟩
      · show ((((gs.take i).flatMap G1.ts).map T1.row).length + (g.ts.map T1.row).length) * 24 ≤ _
        rw [List.length_map, List.length_map]; omega
      · rw [hft, List.map_append]
      conv => whnf
      refine hN2 (i + 1) _ (by omega) (by omega) ?_
      rw [← e]; rfl
    · conv => whnf
      have h := of_decide_eq_false h
      rw [hlen] at h
      have : i = gs.length := by omega
      subst this
      refine hE2 _ _ ?_
      rw [List.take_length]
      conv => whnf
      exact ⟨rfl, rfl, rfl⟩
theorem noRefT (n : Nat) (o : Bool) (l : Nat) : ∀ (ts : List T1), (∀ t ∈ ts, LV.noRefss n t.sp = true) → (sl1 o l ts []).noRef n = true := by
  intro ts h
  have : LV.noRefss n (ts.map T1.row) = true := by
    induction ts with
    | nil => simp [LV.noRefss]
    | cons t ts ih =>
      have h1 := h t (List.mem_cons_self ..)
      simp [LV.noRefss, ih (fun u hu => h u (List.mem_cons_of_mem _ hu)), T1.row, LV.noRefs, LV.noRef, noRef_rows, h1]
  simp [LV.noRef, LV.noRefss, this]
def termsOf (c : Cl) : List T1 := ⟨c.hlab, c.head, c.hsp⟩ :: c.guards ++ c.body
theorem terms_ok (c : Cl) (hf : c.fine) (ob : Obs) (pb : Nat) : Gives env4 314 [.agg c.row] ob pb (sl1 true 0 (termsOf c) [], ob) := by
  have h1 := hf.gl
  have h2 := hf.bl
  refine gives_code (f := tf314) rfl ?_
  conv => whnf
  obtain ⟨gs, hgs⟩ : ∃ gs : List G1, gs = [⟨0, [⟨c.hlab, c.head, c.hsp⟩], []⟩, ⟨c.glab, c.guards, c.gsp⟩, ⟨c.blab, c.body, c.bsp⟩] := ⟨_, rfl⟩
  have hfl : gs.flatMap G1.ts = termsOf c := by rw [hgs]; simp [termsOf]
  have := concat4_ok 0 gs [] (by rw [hgs]; simp) (by rw [hfl]; simp [termsOf]; omega) ob (max pb ob.length)
  rw [hfl, hgs] at this
  refine ⟨_, _, this, fun _ => noRefT _ _ _ _ (fun t ht => ?_), ?_⟩
  · rcases List.mem_cons.1 (show t ∈ (⟨c.hlab, c.head, c.hsp⟩ : T1) :: (c.guards ++ c.body) from ht) with rfl | ht
    · exact hf.hn _
    · rcases List.mem_append.1 ht with ht | ht
      · exact hf.gn t ht _
      · exact hf.bn t ht _
  conv => whnf
  exact ⟨rfl, rfl, rfl⟩
theorem termsOf_len (c : Cl) : (termsOf c).length = 1 + c.guards.length + c.body.length := by simp [termsOf]; omega
theorem termsOf_fine {c : Cl} (hf : c.fine) : ∀ t ∈ termsOf c, t.fine := fun t ht => by
  rcases List.mem_cons.1 (show t ∈ (⟨c.hlab, c.head, c.hsp⟩ : T1) :: (c.guards ++ c.body) from ht) with rfl | ht
  · exact ⟨by have := hf.hl; show c.head.length ≤ _; omega, hf.hf⟩
  · rcases List.mem_append.1 ht with ht | ht
    · exact hf.gf t ht
    · exact hf.bf t ht
theorem flat_right : ∀ (ts : List T1), (∀ t ∈ ts, RightP t.cs) → (ts.flatMap T1.cs).length ≤ 256 * ts.length
  | [], _ => by simp
  | t :: ts, h => by
    have h1 := flat_right ts (fun u hu => h u (List.mem_cons_of_mem _ hu))
    have h2 := (h t (List.mem_cons_self ..)).2.1
    simp only [List.flatMap_cons, List.length_append, List.length_cons]; omega
def FormW (c : Cl) : Prop := c.locals < 0 ∨ (∃ t ∈ termsOf c, ¬ RightP t.cs) ∨ ∃ v ∈ varsT [] (termsOf c), v.1 ≠ -1 ∨ v.2 ≥ c.locals
theorem form_ok (c : Cl) (hf : c.fine) (hnl : ¬ LongW c) (ob : Obs) (pb : Nat) (r : Bool) (hr : r = true ↔ FormW c) : Gives env4 292 [.agg c.row] ob pb (.bool r, ob) := by
  have hln : (termsOf c).length ≤ 13 := by
    have h1 : ¬ c.guards.length > 4 := fun h => hnl (.inl h)
    have h2 : ¬ c.body.length > 8 := fun h => hnl (.inr (.inl h))
    rw [termsOf_len]; omega
  have hft := termsOf_fine hf
  refine gives_code (f := tf292) rfl ?_
  conv => whnf
  refine ⟨_, _, terms_ok c hf ob _, fun _ => noRefT _ _ _ _ (fun t ht => ?_), ?_⟩
  · rcases List.mem_cons.1 (show t ∈ (⟨c.hlab, c.head, c.hsp⟩ : T1) :: (c.guards ++ c.body) from ht) with rfl | ht
    · exact hf.hn _
    · rcases List.mem_append.1 ht with ht | ht
      · exact hf.gn t ht _
      · exact hf.bn t ht _
  obtain ⟨ts, hts⟩ : ∃ ts, ts = termsOf c := ⟨_, rfl⟩
  unfold FormW at hr
  rw [← hts] at hln hft hr ⊢
  conv => whnf
  refine sel_split (fun h1 => ?_) (fun h1 => ?_)
  · conv => whnf
    have h1 := of_decide_eq_true h1
    exact ⟨rfl, bool_of hr ⟨fun _ => .inl h1, fun _ => rfl⟩, rfl⟩
  · conv => whnf
    have h1 := of_decide_eq_false h1
    obtain ⟨q, hq⟩ := boolOf (∃ t ∈ ts, ¬ RightP t.cs)
    refine ⟨_, _, any33_ok 315 0 ts [] (fun t => ¬ RightP t.cs) (by omega) (fun t ht ob pb q hq => ?_) ob _ q hq, fun _ => rfl, ?_⟩
    · obtain ⟨q', hq'⟩ := boolOf (RightP t.cs)
      refine gives_code (f := tf315) rfl ?_
      conv => whnf
      refine ⟨_, _, (right_ok t.lab t.cs t.sp (hft t ht).1 (hft t ht).2 ob _ q' hq').le le14, fun _ => rfl, ?_⟩
      conv => whnf
      refine ⟨rfl, bool_of hq ?_, rfl⟩
      show (!q') = true ↔ ¬ RightP t.cs
      rw [← hq']; cases q' <;> simp
    conv => whnf
    refine sel_split (fun h2 => ?_) (fun h2 => ?_)
    · conv => whnf
      exact ⟨rfl, bool_of hr ⟨fun _ => .inr (.inl (hq.1 h2)), fun _ => rfl⟩, rfl⟩
    · conv => whnf
      have hall : ∀ t ∈ ts, RightP t.cs := fun t ht => Classical.byContradiction fun hn => by rw [hq.2 ⟨t, ht, hn⟩] at h2; cases h2
      have hfl := flat_right ts hall
      refine ⟨_, _, (vars_ok 0 ts [] (by omega) (by omega) ob _).le le14, fun _ => noRef2 _ _ _ _, ?_⟩
      conv => whnf
      obtain ⟨q3, hq3⟩ := boolOf (∃ v ∈ varsT [] ts, v.1 ≠ -1 ∨ v.2 ≥ c.locals)
      have hvl := varsT_len ts []
      refine ⟨_, _, any174p_ok 316 _ _ 0 _ (varsT [] ts) [] (fun v => v.1 ≠ -1 ∨ v.2 ≥ c.locals) (by simp only [List.length_nil, Nat.zero_add] at hvl; omega) (fun v hv ob pb q hq => ?_) ob _ q3 hq3, fun _ => rfl, ?_⟩
      · refine gives_code (f := tf316) rfl ?_
        conv => whnf
        refine sel_split (fun g1 => ?_) (fun g1 => ?_)
        · conv => whnf
          have g1 : v.1 ≠ -1 := by simpa using g1
          exact ⟨rfl, bool_of hq ⟨fun _ => .inl g1, fun _ => rfl⟩, rfl⟩
        · conv => whnf
          have g1 : v.1 = -1 := by simpa using g1
          refine ⟨rfl, bool_of hq ⟨fun e => .inr (by simpa using e), fun h => ?_⟩, rfl⟩
          rcases h with h | h
          · exact absurd g1 h
          · simpa using h
      conv => whnf
      refine ⟨rfl, bool_of hr ?_, rfl⟩
      rw [hq3]
      refine ⟨fun h => .inr (.inr h), fun h => ?_⟩
      rcases h with h | ⟨t, ht, hn⟩ | h
      · exact absurd h h1
      · exact absurd (hall t ht) hn
      · exact h
end Tree

set_option autoImplicit false
set_option linter.unusedVariables false
set_option linter.unusedSimpArgs false
namespace Tree
open Go
set_option maxHeartbeats 4000000
set_option maxRecDepth 100000
def cntV (cs : List C) : Nat := (cs.filter fun c => c.k == 4).length
theorem cntV_take {cs : List C} {i : Nat} {c : C} (h : cs[i]? = some c) : cntV (cs.take (i + 1)) = cntV (cs.take i) + (if c.k = 4 then 1 else 0) := by
  unfold cntV
  rw [List.take_add_one, h, List.filter_append, List.length_append]
  by_cases hk : c.k = 4
  · simp [hk]
  · simp [hk]
theorem cntV_le (cs : List C) : cntV cs ≤ cs.length := List.length_filter_le ..
def HeadW (c : Cl) : Prop := ¬ CalP c.head ∨ IsP c.head trueS 0 ∨ cntV c.head > (varsC [] c.head).length
def S293 (bx : List LV) (k : Int) (v : LV) (n : Nat) (i : Int) (ob : Obs) : WSt := ⟨.val .undef :: .box bx :: .val .undef :: .val (.int .i64 k) :: List.replicate 3 (.val .undef) ++ .val v :: .val (.int .i64 n) :: .val (.int .i64 i) :: List.replicate 27 (.val .undef), ob, []⟩
theorem head_ok (c : Cl) (hf : c.fine) (hR : RightP c.head) (ob : Obs) (pb : Nat) (r : Bool) (hr : r = true ↔ HeadW c) : Gives env4 293 [.agg c.row] ob pb (.bool r, ob) := by
  have hlen : (c.head.map C.row).length = c.head.length := by simp
  have h256 := hR.2.1
  refine gives_code (f := tf293) rfl ?_
  conv => whnf
  refine loop_abs (S := fun i : Nat => S293 c.row (cntV (c.head.take i) : Nat) (sl5 false c.hlab c.head c.hsp) (c.head.map C.row).length i ob) (m := fun i => c.head.length - i) (P := fun i => i ≤ c.head.length) ?_ 0 (Nat.zero_le _) rfl
  intro R i hi hN hE hR'
  conv => whnf
  refine sel_split (fun h => ?_) (fun h => ?_)
  · conv => whnf
    have h := of_decide_eq_true h
    rw [hlen] at h
    obtain ⟨d, hd⟩ : ∃ d, c.head[i]? = some d := ⟨_, List.getElem?_eq_getElem (show i < c.head.length by omega)⟩
    have e : IntKind.i64.wrap ((i : Int) + 1) = ((i + 1 : Nat) : Int) := by rw [wrap64] <;> omega
    have hct := cntV_take hd
    have hcl := cntV_le (c.head.take i)
    rw [List.length_take] at hcl
    have e2 : IntKind.i64.wrap (((cntV (c.head.take i) : Nat) : Int) + 1) = ((cntV (c.head.take i) + 1 : Nat) : Int) := by rw [wrap64] <;> omega
    refine ⟨_, ⟨by omega, idx_row hd⟩, ?_⟩
    conv => whnf
    refine sel_split (fun h2 => ?_) (fun h2 => ?_)
    · conv => whnf
      have h2 : d.k = 4 := by simpa using h2
      rw [if_pos h2] at hct
      refine hN (i + 1) _ (by omega) (by omega) ?_
      rw [← e, hct, ← e2]; rfl
    · conv => whnf
      have h2 : d.k ≠ 4 := by simpa using h2
      rw [if_neg h2] at hct
      refine hN (i + 1) _ (by omega) (by omega) ?_
      rw [← e, hct]; rfl
  · conv => whnf
    have h := of_decide_eq_false h
    rw [hlen] at h
    have : i = c.head.length := by omega
    subst this
    refine hE _ _ ?_
    rw [List.take_length]
    conv => whnf
    obtain ⟨q, hq⟩ := boolOf (CalP c.head)
    refine ⟨_, _, isCall_ok c.hlab c.head c.hsp hR.1 hf.hf ob _ q hq, fun _ => rfl, ?_⟩
    conv => whnf
    refine sel_split (fun h1 => ?_) (fun h1 => ?_)
    · conv => whnf
      refine ⟨rfl, bool_of hr ⟨fun _ => .inl fun hn => ?_, fun _ => rfl⟩, rfl⟩
      rw [hq.2 hn] at h1; cases h1
    · conv => whnf
      have h1 : CalP c.head := hq.1 (by simpa using h1)
      obtain ⟨q2, hq2⟩ := boolOf (IsP c.head trueS 0)
      refine ⟨_, _, is_ok c.hlab c.head c.hsp trueS 0 ob _ q2 hq2, fun _ => rfl, ?_⟩
      conv => whnf
      refine sel_split (fun h2 => ?_) (fun h2 => ?_)
      · conv => whnf
        exact ⟨rfl, bool_of hr ⟨fun _ => .inr (.inl (hq2.1 h2)), fun _ => rfl⟩, rfl⟩
      · conv => whnf
        have h2 : ¬ IsP c.head trueS 0 := fun hn => by rw [hq2.2 hn] at h2; cases h2
        have hfl : ([⟨c.hlab, c.head, c.hsp⟩] : List T1).flatMap T1.cs = c.head := by simp
        refine ⟨_, _, (vars_ok 0 [⟨c.hlab, c.head, c.hsp⟩] [] (by simp) (by rw [hfl]; omega) ob _).le le14, fun _ => noRef2 _ _ _ _, ?_⟩
        have hv0 : varsT [] [⟨c.hlab, c.head, c.hsp⟩] = varsC [] c.head := rfl
        rw [hv0]
        conv => whnf
        refine ⟨rfl, bool_of hr ?_, rfl⟩
        rw [decide_eq_true_iff, List.length_map]
        constructor
        · intro h; exact .inr (.inr (by omega))
        · rintro (h | h | h)
          · exact absurd h1 h
          · exact absurd h h2
          · omega
def GuardW (c : Cl) : Prop := ∃ g ∈ c.guards, ¬ GuardP g.cs ∨ ∃ v ∈ varsC [] g.cs, v ∉ varsC [] c.head
theorem guard_ok (c : Cl) (hf : c.fine) (hR : RightP c.head) (hG : ∀ g ∈ c.guards, RightP g.cs) (ob : Obs) (pb : Nat) (r : Bool) (hr : r = true ↔ GuardW c) : Gives env4 294 [.agg c.row] ob pb (.bool r, ob) := by
  have h256 := hR.2.1
  have hgl := hf.gl
  have hfl : ∀ t : T1, ([t] : List T1).flatMap T1.cs = t.cs := fun t => by simp
  refine gives_code (f := tf294) rfl ?_
  conv => whnf
  refine ⟨_, _, (vars_ok 0 [⟨c.hlab, c.head, c.hsp⟩] [] (by simp) (by rw [hfl]; show c.head.length ≤ _; omega) ob _).le le14, fun _ => noRef2 _ _ _ _, ?_⟩
  have hv0 : varsT [] [⟨c.hlab, c.head, c.hsp⟩] = varsC [] c.head := rfl
  rw [hv0]
  obtain ⟨vs, hvs⟩ : ∃ vs, vs = varsC [] c.head := ⟨_, rfl⟩
  have hvl := varsC_len c.head []
  unfold GuardW at hr
  rw [← hvs] at hvl hr ⊢
  simp only [List.length_nil, Nat.zero_add] at hvl
  conv => whnf
  refine ⟨_, _, any33p_ok 318 _ _ c.glab _ c.guards c.gsp (fun g => ¬ GuardP g.cs ∨ ∃ v ∈ varsC [] g.cs, v ∉ vs) (by omega) (fun g hg ob pb q hq => ?_) ob _ r hr, fun _ => rfl, ?_⟩
  · have hgR := hG g hg
    have hgf := hf.gf g hg
    have hg256 := hgR.2.1
    refine gives_code (f := tf318) rfl ?_
    conv => whnf
    obtain ⟨q1, hq1⟩ := boolOf (GuardP g.cs)
    refine ⟨_, _, isGuard_ok g.lab g.cs g.sp hgR hgf.2 ob _ q1 hq1, fun _ => rfl, ?_⟩
    conv => whnf
    refine sel_split (fun h1 => ?_) (fun h1 => ?_)
    · conv => whnf
      refine ⟨rfl, bool_of hq ⟨fun _ => .inl fun hn => ?_, fun _ => rfl⟩, rfl⟩
      rw [hq1.2 hn] at h1; cases h1
    · conv => whnf
      have h1 : GuardP g.cs := hq1.1 (by simpa using h1)
      refine ⟨_, _, (vars_ok 0 [g] [] (by simp) (by rw [hfl]; omega) ob _).le le14, fun _ => noRef2 _ _ _ _, ?_⟩
      have hv1 : varsT [] [g] = varsC [] g.cs := rfl
      rw [hv1]
      have hwl := varsC_len g.cs []
      simp only [List.length_nil, Nat.zero_add] at hwl
      conv => whnf
      obtain ⟨q2, hq2⟩ := boolOf (∃ v ∈ varsC [] g.cs, v ∉ vs)
      refine ⟨_, _, any174p_ok 331 _ _ 0 _ (varsC [] g.cs) [] (fun v => v ∉ vs) (by omega) (fun v hv ob pb q hq => ?_) ob _ q2 hq2, fun _ => rfl, ?_⟩
      · obtain ⟨q', hq'⟩ := boolOf (v ∈ vs)
        refine gives_code (f := tf331) rfl ?_
        conv => whnf
        refine ⟨_, _, (hasName_ok 0 vs [] v (by omega) ob _ q' hq').le le14, fun _ => rfl, ?_⟩
        conv => whnf
        refine ⟨rfl, bool_of hq ?_, rfl⟩
        show (!q') = true ↔ v ∉ vs
        rw [← hq']; cases q' <;> simp
      conv => whnf
      refine ⟨rfl, bool_of hq ?_, rfl⟩
      rw [hq2]
      exact ⟨fun h => .inr h, fun h => h.elim (fun g => absurd h1 g) id⟩
  conv => whnf
  exact ⟨rfl, rfl, rfl⟩
def BodyW (c : Cl) : Prop := ∃ g ∈ c.body, ¬ GoalP True g.cs
theorem body_ok (c : Cl) (hf : c.fine) (hG : ∀ g ∈ c.body, RightP g.cs) (ob : Obs) (pb : Nat) (r : Bool) (hr : r = true ↔ BodyW c) : Gives env4 295 [.agg c.row] ob pb (.bool r, ob) := by
  have hbl := hf.bl
  refine gives_code (f := tf295) rfl ?_
  conv => whnf
  refine ⟨_, _, any33_ok 319 c.blab c.body c.bsp (fun g => ¬ GoalP True g.cs) (by omega) (fun g hg ob pb q hq => ?_) ob _ r hr, fun _ => rfl, ?_⟩
  · obtain ⟨q', hq'⟩ := boolOf (GoalP True g.cs)
    refine gives_code (f := tf319) rfl ?_
    conv => whnf
    refine ⟨_, _, isGoal_ok g.lab g.cs g.sp (hG g hg) (hf.bf g hg).2 ob _ q' hq', fun _ => rfl, ?_⟩
    conv => whnf
    refine ⟨rfl, bool_of hq ?_, rfl⟩
    show (!q') = true ↔ ¬ GoalP True g.cs
    rw [← hq']; cases q' <;> simp
  conv => whnf
  exact ⟨rfl, rfl, rfl⟩
def PredW (there : List PV) (c : Cl) : Prop := ∃ q ∈ callsC [] c.body, q ∉ there
theorem callLook_ok (c : Cl) (hf : c.fine) (there : List PV) (htl : there.length ≤ 1048576) (lab : Nat) (ob : Obs) (pb : Nat) (r : Bool) (hr : r = true ↔ PredW there c) : Gives env4 290 [.agg c.row, .iptr lab [slP false 0 there []] 0] ob pb (.bool r, ob) := by
  have hbl := hf.bl
  refine gives_code (f := tf290) rfl ?_
  conv => whnf
  refine ⟨_, _, calls_ok c.blab c.body c.bsp hbl hf.bf ob _, fun _ => noRefP _ _ _ _, ?_⟩
  have hcl := callsC_len c.body []
  simp only [List.length_nil, Nat.zero_add] at hcl
  conv => whnf
  refine ⟨_, _, any310p_ok 309 _ _ 0 _ (callsC [] c.body) [] (fun q => q ∉ there) (by omega) (fun v hv ob pb q hq => ?_) ob _ r hr, fun _ => rfl, ?_⟩
  · obtain ⟨q', hq'⟩ := boolOf (v ∈ there)
    refine gives_code (f := tf309) rfl ?_
    conv => whnf
    refine ⟨_, _, hasPred_ok 0 there [] v (by omega) ob _ q' hq', fun _ => rfl, ?_⟩
    conv => whnf
    refine ⟨rfl, bool_of hq ?_, rfl⟩
    show (!q') = true ↔ v ∉ there
    rw [← hq']; cases q' <;> simp
  conv => whnf
  exact ⟨rfl, rfl, rfl⟩
end Tree

set_option autoImplicit false
set_option linter.unusedVariables false
set_option linter.unusedSimpArgs false
namespace Tree
open Go
set_option maxHeartbeats 4000000
set_option maxRecDepth 100000
noncomputable def addH (o : List PV) (c : Cl) : List PV := addO o (predC c.head)
noncomputable def predsC (o : List PV) (p : List Cl) : List PV := p.foldl addH o
theorem predsC_take {p : List Cl} {i : Nat} {c : Cl} (h : p[i]? = some c) (o : List PV) : predsC o (p.take (i + 1)) = addH (predsC o (p.take i)) c := by
  rw [List.take_add_one, h]; simp [predsC]
theorem predsC_len : ∀ (p : List Cl) (o : List PV), (predsC o p).length ≤ o.length + p.length
  | [], o => by simp [predsC]
  | c :: p, o => by
    have h1 := predsC_len p (addH o c)
    have h2 := addO_len o (predC c.head)
    have e : predsC o (c :: p) = predsC (addH o c) p := rfl
    rw [e, List.length_cons]; unfold addH at h1 ⊢; omega
theorem preds_ok (l1 lab : Nat) (p : List Cl) (sp s1 : List (List LV)) (hl : p.length ≤ 1048576) (hf : ∀ c ∈ p, c.fine) (ob : Obs) (pb : Nat) : Gives env4 286 [.sl false l1 1 [[slC false lab p sp]] s1] ob pb (slP true 0 (predsC [] p) [], ob) := by
  have hlen : (p.map Cl.row).length = p.length := by simp
  refine gives_code (f := tf286) rfl ?_
  conv => whnf
  refine loop_v (V := fun i : Nat => [(3, slP true 0 (predsC [] (if i = 0 then [] else p)) []), (12, .int .i64 i)]) (O := fun _ => ob) (m := fun i => 1 - i) (P := fun i => i ≤ 1) ?_ 0 (Nat.zero_le _) rfl
  intro R i hi hN hE hR
  conv => whnf
  refine sel_split (fun h => ?_) (fun h => ?_)
  · have hi0 : i = 0 := by
      have h := of_decide_eq_true h
      simp at h; omega
    subst hi0
    conv => whnf
    refine ⟨_, ⟨by omega, rfl⟩, ?_⟩
    conv => whnf
    refine loop_v (V := fun k : Nat => [(3, slP true 0 (predsC [] (p.take k)) []), (18, .int .i64 k)]) (O := fun _ => ob) (m := fun k => p.length - k) (P := fun k => k ≤ p.length) ?_ 0 (Nat.zero_le _) rfl
    intro R2 k hk hN2 hE2 hR2
    conv => whnf
    refine sel_split (fun h2 => ?_) (fun h2 => ?_)
    · conv => whnf
      have h2 := of_decide_eq_true h2
      rw [hlen] at h2
      obtain ⟨c, hc⟩ : ∃ c, p[k]? = some c := ⟨_, List.getElem?_eq_getElem (show k < p.length by omega)⟩
      have e : IntKind.i64.wrap ((k : Int) + 1) = ((k + 1 : Nat) : Int) := by rw [wrap64] <;> omega
      have hcf := hf c (List.mem_of_getElem? hc)
      have hst := predsC_take hc []
      have hln := predsC_len (p.take k) []
      rw [List.length_take] at hln
      obtain ⟨cur, hcur⟩ : ∃ cur, cur = predsC [] (p.take k) := ⟨_, rfl⟩
      rw [← hcur] at hst hln ⊢
      refine ⟨_, ⟨by omega, idx_c hc⟩, ?_⟩
      conv => whnf
      refine ⟨_, _, predOf_ok c.hlab c.head c.hsp (by have := hcf.hl; omega) hcf.hf ob _, fun _ => noRefPV _ _, ?_⟩
      unfold addH at hst
      rcases hp : predC c.head with _ | x
      · rw [hp] at hst
        conv => whnf
        refine hN2 (k + 1) _ (by omega) (by omega) ?_
        rw [← e, hst]; rfl
      · rw [hp] at hst
        conv => whnf
        obtain ⟨q, hq⟩ := boolOf (x ∈ cur)
        refine ⟨_, _, hasPred_ok 0 cur [] x (by simp only [List.length_nil] at hln; omega) ob _ q hq, fun _ => rfl, ?_⟩
        conv => whnf
        refine sel_split (fun h3 => ?_) (fun h3 => ?_)
        · conv => whnf
          have h3 : q = false := by simpa using h3
          have hnew : addO cur (some x) = cur ++ [x] := by
            show addP cur x = _
            unfold addP; rw [if_neg (fun hm => by rw [hq.2 hm] at h3; cases h3)]
          rw [hnew] at hst
          refine ⟨(predsC [] (p.take (k + 1))).map prow, ⟨.inl rfl, ?_, ?_⟩, ?_⟩
          · show ((cur.map prow).length + 1) * 24 ≤ _
            rw [List.length_map]; simp only [List.length_nil] at hln; omega
          · rw [hst, List.map_append]; rfl
          conv => whnf
          refine hN2 (k + 1) _ (by omega) (by omega) ?_
          rw [← e]; rfl
        · conv => whnf
          have h3 : q = true := by simpa using h3
          have hnew : addO cur (some x) = cur := by
            show addP cur x = _
            unfold addP; rw [if_pos (hq.1 h3)]
          rw [hnew] at hst
          refine hN2 (k + 1) _ (by omega) (by omega) ?_
          rw [← e, hst]; rfl
    · conv => whnf
      have h2 := of_decide_eq_false h2
      rw [hlen] at h2
      have : k = p.length := by omega
      subst this
      refine hE2 _ _ ?_
      conv => whnf
      refine hN 1 _ (by omega) (by omega) ?_
      rw [List.take_length]; rfl
  · conv => whnf
    have hi1 : i = 1 := by
      have h := of_decide_eq_false h
      simp at h; omega
    subst hi1
    refine hE _ _ ?_
    conv => whnf
    exact ⟨rfl, rfl, rfl⟩
def LookW (there : List PV) : Nat → Cl → Prop
  | 0, c => LongW c
  | 1, c => FormW c
  | 2, c => HeadW c
  | 3, c => GuardW c
  | 4, c => BodyW c
  | 5, c => PredW there c
  | _, _ => False
def errAt : Nat → Int
  | 0 => 5
  | 1 => 6
  | 2 => 40
  | 3 => 41
  | 4 => 42
  | _ => 43
def lookFn (there : List PV) : Nat → LV
  | 0 => .fn 291 []
  | 1 => .fn 292 []
  | 2 => .fn 293 []
  | 3 => .fn 294 []
  | 4 => .fn 295 []
  | _ => .fn 290 [.iptr 0 [slP false 0 there []] 0]
/-- All looks before the k-th have passed. -/
def Passed (there : List PV) (p : List Cl) (k : Nat) : Prop := ∀ k', k' < k → ∀ c ∈ p, ¬ LookW there k' c
theorem Passed.right {there : List PV} {p : List Cl} {k : Nat} (h : Passed there p k) (hk : 2 ≤ k) {c : Cl} (hc : c ∈ p) : RightP c.head ∧ (∀ g ∈ c.guards, RightP g.cs) ∧ ∀ g ∈ c.body, RightP g.cs := by
  have h1 : ¬ FormW c := h 1 (by omega) c hc
  have h2 : ∀ t ∈ termsOf c, RightP t.cs := fun t ht => Classical.byContradiction fun hn => h1 (.inr (.inl ⟨t, ht, hn⟩))
  have e : termsOf c = (⟨c.hlab, c.head, c.hsp⟩ : T1) :: (c.guards ++ c.body) := rfl
  rw [e] at h2
  refine ⟨h2 ⟨c.hlab, c.head, c.hsp⟩ (List.mem_cons_self ..), fun g hg => h2 g (List.mem_cons_of_mem _ (List.mem_append_left _ hg)), fun g hg => h2 g (List.mem_cons_of_mem _ (List.mem_append_right _ hg))⟩
theorem look_call (there : List PV) (htl : there.length ≤ 1048576) (lab : Nat) (p : List Cl) (sp : List (List LV)) (hl : p.length ≤ 1048576) (hf : ∀ c ∈ p, c.fine) (k : Nat) (hk : k < 6) (hP : Passed there p k) (ob : Obs) (pb : Nat) :
    ∃ j : Int, FirstJ p (LookW there k) j ∧ Gives env4 296 [slC false lab p sp, lookFn there k] ob pb (.int .i64 j, ob) := by
  have hl' : p.length ≤ 4611686018427387904 := by omega
  have : k = 0 ∨ k = 1 ∨ k = 2 ∨ k = 3 ∨ k = 4 ∨ k = 5 := by omega
  rcases this with rfl | rfl | rfl | rfl | rfl | rfl
  · exact idx296_ok 291 lab p sp _ hl' (fun c hc ob pb r hr => long_ok c ob pb r hr) ob pb
  · exact idx296_ok 292 lab p sp _ hl' (fun c hc ob pb r hr => form_ok c (hf c hc) (hP 0 (by omega) c hc) ob pb r hr) ob pb
  · exact idx296_ok 293 lab p sp _ hl' (fun c hc ob pb r hr => head_ok c (hf c hc) (hP.right (by omega) hc).1 ob pb r hr) ob pb
  · exact idx296_ok 294 lab p sp _ hl' (fun c hc ob pb r hr => guard_ok c (hf c hc) (hP.right (by omega) hc).1 (hP.right (by omega) hc).2.1 ob pb r hr) ob pb
  · exact idx296_ok 295 lab p sp _ hl' (fun c hc ob pb r hr => body_ok c (hf c hc) (hP.right (by omega) hc).2.2 ob pb r hr) ob pb
  · exact idx296p_ok 290 0 0 lab _ p sp _ hl' (fun c hc ob pb r hr => callLook_ok c (hf c hc) there htl 0 ob pb r hr) ob pb
def Found (p : List Cl) (j e : Int) : Prop := ∃ (k i : Nat) (c : Cl), k < 6 ∧ e = errAt k ∧ j = i ∧ p[i]? = some c ∧ LookW (predsC [] p) k c ∧ (∀ (i' : Nat) c', i' < i → p[i']? = some c' → ¬ LookW (predsC [] p) k c') ∧ Passed (predsC [] p) p k
def WhereR (p : List Cl) (j e : Int) : Prop := (p.length > 64 ∧ j = 0 ∧ e = 5) ∨ (p.length ≤ 64 ∧ (Found p j e ∨ (j = 0 ∧ e = 0 ∧ Passed (predsC [] p) p 6)))
theorem where_ok (lab : Nat) (p : List Cl) (sp : List (List LV)) (hl : p.length ≤ 1048576) (hf : ∀ c ∈ p, c.fine) : ∃ j e, WhereR p j e ∧ ∀ (ob : Obs) (pb : Nat), Gives env4 273 [slC false lab p sp] ob pb (.tup [.int .i64 j, .int .i64 e], ob) := by
  have hlen : (p.map Cl.row).length = p.length := by simp
  have hpl := predsC_len p []
  have hpl : (predsC [] p).length ≤ 1048576 := by simp only [List.length_nil] at hpl; omega
  have ex : ∃ j e, WhereR p j e := by
    by_cases h64 : p.length > 64
    · exact ⟨0, 5, .inl ⟨h64, rfl, rfl⟩⟩
    · by_cases hP : Passed (predsC [] p) p 6
      · exact ⟨0, 0, .inr ⟨by omega, .inr ⟨rfl, rfl, hP⟩⟩⟩
      · have step : ∀ k, k ≤ 6 → Passed (predsC [] p) p k ∨ ∃ j e, Found p j e := by
          intro k
          induction k with
          | zero => intro _; exact .inl fun k' h => by omega
          | succ k ih =>
            intro hk
            rcases ih (by omega) with h | h
            · obtain ⟨j, hj⟩ := firstJ p (LookW (predsC [] p) k)
              rcases hj with ⟨i, c, rfl, h1, h2, h3⟩ | ⟨rfl, h1⟩
              · exact .inr ⟨i, errAt k, k, i, c, by omega, rfl, rfl, h1, h2, h3, h⟩
              · refine .inl fun k' hk' c hc => ?_
                by_cases e : k' = k
                · subst e; exact h1 c hc
                · exact h k' (by omega) c hc
            · exact .inr h
        rcases step 6 (by omega) with h | ⟨j, e, h⟩
        · exact absurd h hP
        · exact ⟨j, e, .inr ⟨by omega, .inl h⟩⟩
  obtain ⟨j, e, hw⟩ := ex
  refine ⟨j, e, hw, fun ob pb => ?_⟩
  refine gives_code (f := tf273) rfl ?_
  conv => whnf
  refine sel_split (fun h => ?_) (fun h => ?_)
  · conv => whnf
    have h := of_decide_eq_true h
    rw [hlen] at h
    refine ⟨rfl, ?_, rfl⟩
    rcases hw with ⟨_, rfl, rfl⟩ | ⟨h1, _⟩
    · rfl
    · omega
  · conv => whnf
    have h := of_decide_eq_false h
    rw [hlen] at h
    refine ⟨_, _, preds_ok 0 lab p sp [] hl hf ob _, fun _ => noRefP _ _ _ _, ?_⟩
    obtain ⟨there, hth⟩ : ∃ there, there = predsC [] p := ⟨_, rfl⟩
    have hw : Found p j e ∨ (j = 0 ∧ e = 0 ∧ Passed (predsC [] p) p 6) := by
      rcases hw with ⟨h1, _⟩ | ⟨_, h1⟩
      · omega
      · exact h1
    unfold Found at hw
    rw [← hth] at hw hpl ⊢
    conv => whnf
    refine loop_v (V := fun k : Nat => [(27, .int .i64 k)]) (O := fun _ => ob) (m := fun k => 6 - k) (P := fun k => k ≤ 6 ∧ Passed there p k) ?_ 0 ⟨Nat.zero_le _, fun k' h => by omega⟩ rfl
    rintro R k ⟨hk, hP⟩ hN hE hR
    conv => whnf
    refine sel_split (fun h2 => ?_) (fun h2 => ?_)
    · have h2 := of_decide_eq_true h2
      have hk5 : k < 6 := by
        have h2 : (k : Int) < 6 := h2
        omega
      obtain ⟨jj, hj, hg⟩ := look_call there hpl lab p sp hl hf k hk5 hP ob (max pb ob.length)
      have hnext : (∀ x ∈ p, ¬ LookW there k x) → Passed there p (k + 1) := fun hn k' hk' c hc => by
        by_cases e : k' = k
        · subst e; exact hn c hc
        · exact hP k' (by omega) c hc
      have hres : jj ≥ 0 → jj = j ∧ errAt k = e := fun hge => by
        rcases hj with ⟨i, c, rfl, h1, h2, h3⟩ | ⟨rfl, _⟩
        · rcases hw with ⟨k', i', c', g1, g2, g3, g4, g5, g6, g7⟩ | ⟨_, _, g⟩
          · have hkk : k' = k := by
              rcases Nat.lt_trichotomy k' k with q | q | q
              · exact absurd g5 (hP k' q c' (List.mem_of_getElem? g4))
              · exact q
              · exact absurd h2 (g7 k q c (List.mem_of_getElem? h1))
            subst hkk
            have hii : i' = i := by
              rcases Nat.lt_trichotomy i' i with q | q | q
              · exact absurd g5 (h3 i' c' q g4)
              · exact q
              · exact absurd h2 (g6 i c q h1)
            subst hii
            exact ⟨g3.symm, g2.symm⟩
          · exact absurd h2 (g k hk5 c (List.mem_of_getElem? h1))
        · omega
      have hno : ¬ jj ≥ 0 → ∀ x ∈ p, ¬ LookW there k x := fun hn x hx hp => hn (hj.ge.2 ⟨x, hx, hp⟩)
      have : k = 0 ∨ k = 1 ∨ k = 2 ∨ k = 3 ∨ k = 4 ∨ k = 5 := by omega
      rcases this with rfl | rfl | rfl | rfl | rfl | rfl
      all_goals
        conv => whnf
        refine ⟨_, ⟨by omega, rfl⟩, ?_⟩
        conv => whnf
        refine ⟨_, _, hg, fun _ => rfl, ?_⟩
        conv => whnf
        refine sel_split (fun h3 => ?_) (fun h3 => ?_)
        · conv => whnf
          obtain ⟨rfl, rfl⟩ := hres (of_decide_eq_true h3)
          refine hR _ ?_
          conv => whnf
          exact ⟨rfl, rfl, rfl⟩
        · conv => whnf
          exact hN _ _ ⟨by omega, hnext (hno (of_decide_eq_false h3))⟩ (by omega) rfl
    · conv => whnf
      have h2 := of_decide_eq_false h2
      have hk6 : k = 6 := by
        have h2 : ¬ (k : Int) < 6 := h2
        omega
      subst hk6
      refine hE _ _ ?_
      conv => whnf
      refine ⟨rfl, ?_, rfl⟩
      rcases hw with ⟨k', i', c', g1, g2, g3, g4, g5, g6, g7⟩ | ⟨rfl, rfl, _⟩
      · exact absurd g5 (hP k' g1 c' (List.mem_of_getElem? g4))
      · rfl
theorem program_ok (lab : Nat) (p : List Cl) (sp : List (List LV)) (e j : Int) (hg : ∀ (ob : Obs) (pb : Nat), Gives env4 273 [slC false lab p sp] ob pb (.tup [.int .i64 j, .int .i64 e], ob)) (ob : Obs) (pb : Nat) : Gives env4 276 [slC false lab p sp] ob pb (.int .i64 e, ob) := by
  refine gives_code (f := tf276) rfl ?_
  conv => whnf
  refine ⟨_, _, hg ob _, fun _ => rfl, ?_⟩
  conv => whnf
  exact ⟨rfl, rfl, rfl⟩
end Tree
