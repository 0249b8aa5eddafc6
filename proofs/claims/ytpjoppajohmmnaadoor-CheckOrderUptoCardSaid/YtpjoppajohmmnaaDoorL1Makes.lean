/- Layer 1: the law TermMakes, what E answers. -/
import Derived.Test.YtpjoppajohmmnaaDoorL1Make2
import Derived.Test.YtpjoppajohmmnaaDoorL1Live
set_option autoImplicit false
set_option linter.unusedVariables false
set_option linter.unusedSimpArgs false
namespace Tree
open Go
set_option maxHeartbeats 4000000
set_option maxRecDepth 100000
theorem own_cs (ts : List T1) : (ts.map T1.own).map T1.cs = ts.map T1.cs := by rw [List.map_map]; rfl
theorem makeR_own (s : ByteArray) (ts : List T1) : makeR s (ts.map T1.own) = makeR s ts := by
  have h1 : (ts.map T1.own).length = ts.length := by simp
  have h2 : (ts.map T1.own).flatMap T1.cs = ts.flatMap T1.cs := by simp [List.flatMap_map]; rfl
  have h3 : MakesP s (ts.map T1.own) ↔ MakesP s ts := by
    unfold MakesP; rw [h1]
    constructor
    · rintro ⟨a, b⟩; exact ⟨a, fun t ht => b t.own (List.mem_map_of_mem ht)⟩
    · rintro ⟨a, b⟩
      refine ⟨a, fun t ht => ?_⟩
      obtain ⟨u, hu, rfl⟩ := List.mem_map.1 ht
      exact b u hu
  unfold makeR
  rw [h1, h2]
  by_cases h : MakesP s ts
  · rw [if_pos h, if_pos (h3.2 h)]
  · rw [if_neg h, if_neg (fun h' => h (h3.1 h'))]
theorem noRefV (n : Nat) (p : List C × Int) : (makeV p).noRef n = true := by simp [makeV, LV.noRef, LV.noRefs, LV.noRefss, noRef_rows]
theorem noRef1 (n : Nat) (o : Bool) (l : Nat) (ts : List T1) : (sl1 o l (ts.map T1.own) []).noRef n = true := by
  have : ∀ ts : List T1, LV.noRefss n ((ts.map T1.own).map T1.row) = true := by
    intro ts
    induction ts with
    | nil => simp [LV.noRefss]
    | cons t ts ih => simp only [List.map_cons, LV.noRefss, ih, Bool.and_true]; simp [T1.row, T1.own, LV.noRefs, LV.noRef, LV.noRefss, noRef_rows]
  have e : (sl1 o l (ts.map T1.own) []).noRef n = (LV.noRefss n ((ts.map T1.own).map T1.row) && LV.noRefss n []) := by rw [LV.noRef]
  rw [e, this]; simp [LV.noRefss]
theorem termMakes_ok (n : Int) (a b : Int) (s : ByteArray) (hs : s.size ≤ maxLen) (lab : Nat) (ts : List T1) (sp : List (List LV)) (hl : ts.length * 24 ≤ 140737488355328) (hb : ∀ t ∈ ts, t.cs.length * 48 ≤ 140737488355328) (hf : ∀ t ∈ ts, ∀ c ∈ t.cs, c.fine) :
    Gives env1 566 [.int .i64 n, nm a b, .agg [.str s, sl1 false lab ts sp]] [] 0 (.bool true, []) := by
  have hf' : ∀ t ∈ ts, t.fine := fun t ht => ⟨by have := hb t ht; omega, hf t ht⟩
  have hfo : ∀ t ∈ ts.map T1.own, t.fine := fun t ht => by
    obtain ⟨u, hu, rfl⟩ := List.mem_map.1 ht
    exact hf' u hu
  obtain ⟨q1, hq1⟩ := boolOf (okC (cInt n))
  obtain ⟨q2, hq2⟩ := boolOf (okC (cAtom s))
  obtain ⟨q3, hq3⟩ := boolOf (okC (cVar a b))
  have short : ∀ (q : Bool) (c : C), (if q then [c] else []).length ≤ 4611686018427387904 := by intro q c; cases q <;> simp
  have hmk : (makeR s ts).1.length ≤ 4611686018427387904 := by
    unfold makeR
    split
    · split
      · simp
      · show (cStr s ts.length :: ts.flatMap T1.cs).length ≤ _; omega
    · simp
  refine gives_code (f := tf566) rfl ?_
  conv => whnf
  refine ⟨_, _, rows_ok lab ts sp hl hb [] _, fun _ => noRef1 _ _ _ _, ?_⟩
  conv => whnf
  refine ⟨_, _, make_ok s hs 0 (ts.map T1.own) [] (by simp; omega) hfo [] _, fun _ => noRefV _ _, ?_⟩
  conv => whnf
  refine ⟨_, _, refMake_ok s hs lab ts sp (by omega) hf' [] _, fun _ => noRefV _ _, ?_⟩
  conv => whnf
  refine ⟨_, _, live_ok, fun _ => rfl, ?_⟩
  conv => whnf
  refine ⟨_, _, ofInt_ok n [] _ q1 hq1, fun _ => noRef5 _ _ _ _, ?_⟩
  conv => whnf
  refine ⟨_, _, refOfInt_ok n [] _ q1 hq1, fun _ => noRef5 _ _ _ _, ?_⟩
  conv => whnf
  refine ⟨_, _, equal_ok 0 0 _ _ [] [] (short _ _) [] _ true (by simp), fun _ => rfl, ?_⟩
  conv => whnf
  refine ⟨_, _, ofAtom_ok s hs [] _ q2 hq2, fun _ => noRef5 _ _ _ _, ?_⟩
  conv => whnf
  refine ⟨_, _, refOfAtom_ok s hs [] _ q2 hq2, fun _ => noRef5 _ _ _ _, ?_⟩
  conv => whnf
  refine ⟨_, _, equal_ok 0 0 _ _ [] [] (short _ _) [] _ true (by simp), fun _ => rfl, ?_⟩
  conv => whnf
  refine ⟨_, _, ofVar_ok a b [] _ q3 hq3, fun _ => noRef5 _ _ _ _, ?_⟩
  conv => whnf
  refine ⟨_, _, refOfVar_ok a b [] _ q3 hq3, fun _ => noRef5 _ _ _ _, ?_⟩
  conv => whnf
  refine ⟨_, _, equal_ok 0 0 _ _ [] [] (short _ _) [] _ true (by simp), fun _ => rfl, ?_⟩
  conv => whnf
  refine ⟨_, _, equal_ok 0 0 (makeR s (ts.map T1.own)).1 (makeR s ts).1 [] [] (by rw [makeR_own]; exact hmk) [] _ true (by simp [makeR_own]), fun _ => rfl, ?_⟩
  conv => whnf
  refine sel_t (by rw [makeR_own]; simp) ?_
  conv => whnf
  refine ⟨_, _, sameTerms_ok 0 lab (ts.map T1.own) ts [] sp (by simp; omega) (fun t ht => (hfo t ht).1) [] _ true ⟨fun _ => own_cs ts, fun _ => rfl⟩, fun _ => rfl, ?_⟩
  conv => whnf
  exact ⟨rfl, rfl, rfl⟩
end Tree
