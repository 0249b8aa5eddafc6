/- Layer 4: the predicates that goals call. -/
import Derived.Test.YtpjoppajohmmnaaDoorL4Pred
set_option autoImplicit false
set_option linter.unusedVariables false
set_option linter.unusedSimpArgs false
namespace Tree
open Go
set_option maxHeartbeats 4000000
set_option maxRecDepth 100000
def atS : ByteArray := ⟨#[64]⟩
def trueS : ByteArray := ⟨#[116, 114, 117, 101]⟩
open Classical in
/-- What a right goal calls. -/
noncomputable def callC (cs : List C) : Option PV :=
  if RightP cs then
    match predC (if IsP cs atS 2 then (argsR cs).headD [] else cs) with
    | some q => if q = (trueS, 0) then none else some q
    | none => none
  else none
open Classical in
noncomputable def addP (acc : List PV) (v : PV) : List PV := if v ∈ acc then acc else acc ++ [v]
noncomputable def addO (acc : List PV) (v : Option PV) : List PV := match v with
  | some v => addP acc v
  | none => acc
noncomputable def callsC (acc : List PV) (ts : List T1) : List PV := ts.foldl (fun acc t => addO acc (callC t.cs)) acc
theorem callsC_take {ts : List T1} {i : Nat} {t : T1} (h : ts[i]? = some t) (acc : List PV) : callsC acc (ts.take (i + 1)) = addO (callsC acc (ts.take i)) (callC t.cs) := by
  rw [List.take_add_one, h]; simp [callsC]
theorem addO_len (acc : List PV) (v : Option PV) : (addO acc v).length ≤ acc.length + 1 := by
  unfold addO; split
  · unfold addP; split <;> simp
  · omega
theorem callsC_len : ∀ (ts : List T1) (acc : List PV), (callsC acc ts).length ≤ acc.length + ts.length
  | [], acc => by simp [callsC]
  | t :: ts, acc => by
    have h1 := addO_len acc (callC t.cs)
    have h2 := callsC_len ts (addO acc (callC t.cs))
    have e : callsC acc (t :: ts) = callsC (addO acc (callC t.cs)) ts := rfl
    rw [e, List.length_cons]; omega
theorem pv_neq {v x : PV} {q : Bool} (h : (!((v.1.toList == x.1.toList) && ((v.2 == x.2) && true))) = q) : q = false ↔ v = x := by
  rw [← pv_eq rfl, ← h]; simp
theorem noRefM (n : Nat) (l : List (List C)) : (sl1 true 0 (l.map T1.mk0) []).noRef n = true := by
  have := noRef1 n true 0 (l.map T1.mk0)
  have e : (l.map T1.mk0).map T1.own = l.map T1.mk0 := by rw [List.map_map]; rfl
  rw [e] at this; exact this
theorem noRefPV (n : Nat) (p : Option PV) : (predV p).noRef n = true := by
  cases p <;> simp [predV, pv, LV.noRef, LV.noRefs]
def S300 (v o : LV) (n : Nat) (i : Int) (ob : Obs) : WSt := ⟨List.replicate 3 (.val .undef) ++ .val o :: List.replicate 4 (.val .undef) ++ .val v :: .val (.int .i64 n) :: .val (.int .i64 i) :: List.replicate 35 (.val .undef), ob, []⟩
theorem calls_ok (lab : Nat) (ts : List T1) (sp : List (List LV)) (hl : ts.length ≤ 1048576) (hf : ∀ t ∈ ts, t.fine) (ob : Obs) (pb : Nat) : Gives env4 300 [sl1 false lab ts sp] ob pb (slP true 0 (callsC [] ts) [], ob) := by
  have hlen : (ts.map T1.row).length = ts.length := by simp
  refine gives_code (f := tf300) rfl ?_
  conv => whnf
  refine loop_abs (S := fun i : Nat => S300 (sl1 false lab ts sp) (slP true 0 (callsC [] (ts.take i)) []) (ts.map T1.row).length i ob) (m := fun i => ts.length - i) (P := fun i => i ≤ ts.length) ?_ 0 (Nat.zero_le _) rfl
  intro R i hi hN hE hR
  conv => whnf
  refine sel_split (fun h => ?_) (fun h => ?_)
  · conv => whnf
    have h := of_decide_eq_true h
    rw [hlen] at h
    obtain ⟨t, ht⟩ : ∃ t, ts[i]? = some t := ⟨_, List.getElem?_eq_getElem (show i < ts.length by omega)⟩
    have e : IntKind.i64.wrap ((i : Int) + 1) = ((i + 1 : Nat) : Int) := by rw [wrap64] <;> omega
    have hstep := callsC_take ht []
    have hacc := callsC_len (ts.take i) []
    have htk : (ts.take i).length ≤ i := by rw [List.length_take]; exact Nat.min_le_left _ _
    simp only [List.length_nil, Nat.zero_add] at hacc
    have htf := hf t (List.mem_of_getElem? ht)
    refine ⟨_, ⟨by omega, idx_t ht⟩, ?_⟩
    conv => whnf
    obtain ⟨r, hr⟩ := boolOf (RightP t.cs)
    refine ⟨_, _, (right_ok t.lab t.cs t.sp htf.1 htf.2 ob _ r hr).le le14, fun _ => rfl, ?_⟩
    conv => whnf
    refine sel_split (fun h1 => ?_) (fun h1 => ?_)
    · conv => whnf
      have h1 : r = false := by simpa using h1
      have hst : callsC [] (ts.take (i + 1)) = callsC [] (ts.take i) := by
        rw [hstep]; unfold callC; rw [if_neg (fun hR => by rw [hr.2 hR] at h1; cases h1)]; rfl
      refine hN (i + 1) _ (by omega) (by omega) ?_
      rw [← e, hst]; rfl
    · conv => whnf
      have h1 : r = true := by simpa using h1
      have hRt := hr.1 h1
      obtain ⟨k, hk⟩ := boolOf (IsP t.cs atS 2)
      refine ⟨_, _, is_ok t.lab t.cs t.sp atS 2 ob _ k hk, fun _ => rfl, ?_⟩
      conv => whnf
      refine sel_split (fun h2 => ?_) (fun h2 => ?_)
      · have h2 := hk.1 h2
        obtain ⟨a, rest, ha, haf⟩ : ∃ a rest, argsR t.cs = a :: rest ∧ (∀ c ∈ a, c.fine) ∧ a.length ≤ 256 := by
          obtain ⟨c, r', hc, h3, h4⟩ := h2
          have h5 : c.k = 3 := by
            rcases h4 with g | g
            · exact g.1
            · omega
          rw [hc] at hRt
          obtain ⟨f1, f2, f3, f4⟩ := args_facts hRt h5
          obtain ⟨g1, g2, g3, g4⟩ := struct_facts hRt h5
          cases hx : argsR (c :: r') with
          | nil => rw [hx] at f2; simp at f2; omega
          | cons a rest =>
            have ham : a ∈ argsR (c :: r') := by rw [hx]; exact List.mem_cons_self ..
            refine ⟨a, rest, by rw [hc, hx], fun d hd => htf.2 d ?_, (f4 a ham).2.1⟩
            rw [hc]; refine List.mem_cons_of_mem _ ?_
            rw [← f3]; exact List.mem_flatten.2 ⟨a, ham, hd⟩
        have hcall : callC t.cs = match predC a with
            | some q => if q = (trueS, 0) then none else some q
            | none => none := by
          unfold callC; rw [if_pos hRt, if_pos h2, ha]; rfl
        conv => whnf
        refine ⟨_, _, (args_ok t.lab t.cs t.sp htf.1 htf.2 ob _).le le14, fun _ => noRefM _ _, ?_⟩
        rw [ha]
        conv => whnf
        refine ⟨_, ⟨by omega, idx_t (ts := (a :: rest).map T1.mk0) (i := 0) rfl⟩, ?_⟩
        conv => whnf

        refine ⟨_, _, predOf_ok 0 a [] (by omega) haf.1 ob _, fun _ => noRefPV _ _, ?_⟩
        rcases hp : predC a with _ | q
        · conv => whnf
          refine hN (i + 1) _ (by omega) (by omega) ?_
          rw [← e, hstep, hcall, hp]; rfl
        · conv => whnf
          refine sel_split (fun h4 => ?_) (fun h4 => ?_)
          · conv => whnf
            have h4 : q ≠ (trueS, 0) := fun hq => by have := (pv_neq (x := (trueS, 0)) h4).2 hq; cases this
            obtain ⟨b, hb⟩ := boolOf (q ∈ callsC [] (ts.take i))
            refine ⟨_, _, hasPred_ok 0 _ [] q (by omega) ob _ b hb, fun _ => rfl, ?_⟩
            conv => whnf
            refine sel_split (fun h5 => ?_) (fun h5 => ?_)
            · conv => whnf
              have h5 : b = false := by simpa using h5
              have h5 : q ∉ callsC [] (ts.take i) := fun hm => by rw [hb.2 hm] at h5; cases h5
              have hst : callsC [] (ts.take (i + 1)) = callsC [] (ts.take i) ++ [q] := by
                rw [hstep, hcall, hp]; simp only [if_neg h4]; show addP _ _ = _; unfold addP; rw [if_neg h5]
              refine ⟨(callsC [] (ts.take (i + 1))).map prow, ⟨.inl rfl, ?_, ?_⟩, ?_⟩
              · show (((callsC [] (ts.take i)).map prow).length + 1) * 24 ≤ _
                rw [List.length_map]; omega
              · rw [hst, List.map_append]; rfl
              conv => whnf
              refine hN (i + 1) _ (by omega) (by omega) ?_
              rw [← e]; rfl
            · conv => whnf
              have h5 : b = true := by simpa using h5
              have hst : callsC [] (ts.take (i + 1)) = callsC [] (ts.take i) := by
                rw [hstep, hcall, hp]; simp only [if_neg h4]; show addP _ _ = _; unfold addP; rw [if_pos (hb.1 h5)]
              refine hN (i + 1) _ (by omega) (by omega) ?_
              rw [← e, hst]; rfl
          · conv => whnf
            have h4 : q = (trueS, 0) := (pv_neq (x := (trueS, 0)) h4).1 rfl
            have hst : callsC [] (ts.take (i + 1)) = callsC [] (ts.take i) := by
              rw [hstep, hcall, hp]; simp only [if_pos h4]; rfl
            refine hN (i + 1) _ (by omega) (by omega) ?_
            rw [← e, hst]; rfl
      · have h2 : ¬ IsP t.cs atS 2 := fun hn => by rw [hk.2 hn] at h2; cases h2
        have hcall : callC t.cs = match predC t.cs with
            | some q => if q = (trueS, 0) then none else some q
            | none => none := by
          unfold callC; rw [if_pos hRt, if_neg h2]
        conv => whnf
        refine ⟨_, _, predOf_ok t.lab t.cs t.sp htf.1 htf.2 ob _, fun _ => noRefPV _ _, ?_⟩
        rcases hp : predC t.cs with _ | q
        · conv => whnf
          refine hN (i + 1) _ (by omega) (by omega) ?_
          rw [← e, hstep, hcall, hp]; rfl
        · conv => whnf
          refine sel_split (fun h4 => ?_) (fun h4 => ?_)
          · conv => whnf
            have h4 : q ≠ (trueS, 0) := fun hq => by have := (pv_neq (x := (trueS, 0)) h4).2 hq; cases this
            obtain ⟨b, hb⟩ := boolOf (q ∈ callsC [] (ts.take i))
            refine ⟨_, _, hasPred_ok 0 _ [] q (by omega) ob _ b hb, fun _ => rfl, ?_⟩
            conv => whnf
            refine sel_split (fun h5 => ?_) (fun h5 => ?_)
            · conv => whnf
              have h5 : b = false := by simpa using h5
              have h5 : q ∉ callsC [] (ts.take i) := fun hm => by rw [hb.2 hm] at h5; cases h5
              have hst : callsC [] (ts.take (i + 1)) = callsC [] (ts.take i) ++ [q] := by
                rw [hstep, hcall, hp]; simp only [if_neg h4]; show addP _ _ = _; unfold addP; rw [if_neg h5]
              refine ⟨(callsC [] (ts.take (i + 1))).map prow, ⟨.inl rfl, ?_, ?_⟩, ?_⟩
              · show (((callsC [] (ts.take i)).map prow).length + 1) * 24 ≤ _
                rw [List.length_map]; omega
              · rw [hst, List.map_append]; rfl
              conv => whnf
              refine hN (i + 1) _ (by omega) (by omega) ?_
              rw [← e]; rfl
            · conv => whnf
              have h5 : b = true := by simpa using h5
              have hst : callsC [] (ts.take (i + 1)) = callsC [] (ts.take i) := by
                rw [hstep, hcall, hp]; simp only [if_neg h4]; show addP _ _ = _; unfold addP; rw [if_pos (hb.1 h5)]
              refine hN (i + 1) _ (by omega) (by omega) ?_
              rw [← e, hst]; rfl
          · conv => whnf
            have h4 : q = (trueS, 0) := (pv_neq (x := (trueS, 0)) h4).1 rfl
            have hst : callsC [] (ts.take (i + 1)) = callsC [] (ts.take i) := by
              rw [hstep, hcall, hp]; simp only [if_pos h4]; rfl
            refine hN (i + 1) _ (by omega) (by omega) ?_
            rw [← e, hst]; rfl
  · conv => whnf
    have h := of_decide_eq_false h
    rw [hlen] at h
    have : i = ts.length := by omega
    subst this
    refine hE _ _ ?_
    conv => whnf
    refine ⟨rfl, ?_, rfl⟩
    rw [List.take_length]; rfl
end Tree
