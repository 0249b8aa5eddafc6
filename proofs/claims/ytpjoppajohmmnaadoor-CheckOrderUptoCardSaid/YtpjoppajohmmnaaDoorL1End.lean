/- Layer 1: cells; the place behind a term, what E answers. -/
import Derived.Test.YtpjoppajohmmnaaDoorL1Env
set_option autoImplicit false
set_option linter.unusedVariables false
set_option linter.unusedSimpArgs false
namespace Tree
open Go
set_option maxHeartbeats 4000000
set_option maxRecDepth 100000
structure C where
  k : Int
  text : ByteArray
  n : Int
  node : Int
  num : Int
def C.row (c : C) : List LV := [.int .u8 c.k, .str c.text, .int .i64 c.n, .int .i64 c.node, .int .i64 c.num]
def C.lv (c : C) : LV := .agg c.row
abbrev w64 (x : Int) : Int := IntKind.i64.wrap x
def partsC (c : C) : Int := if c.k = 3 then (if c.n < 0 then 0 else c.n) else 0
def scanE (L : Nat) : List C → Int → Nat → Int
  | [], o, p => if o ≤ 0 then p else 0
  | c :: r, o, p => if o ≤ 0 then p else if partsC c > L then 0 else scanE L r (w64 (o + w64 (partsC c - 1))) (p + 1)
def endE (cs : List C) (i : Int) : Int := if i < 0 ∨ i ≥ cs.length then 0 else scanE cs.length (cs.drop i.toNat) 1 i.toNat
theorem parts_ok (c : C) (ob : Obs) (pb : Nat) : Gives env1 47 [c.lv] ob pb (.int .i64 (partsC c), ob) := by
  refine gives_code (f := tf47) rfl ?_
  conv => whnf
  refine sel_split (fun h => ?_) (fun h => ?_)
  · conv => whnf
    have h : c.k ≠ 3 := by simpa using h
    refine ⟨rfl, ?_, rfl⟩
    simp [partsC, h, tupE]
  · conv => whnf
    have h : c.k = 3 := by simpa using h
    refine ⟨rfl, ?_, rfl⟩
    simp [partsC, h, tupE]
theorem idx_row {cs : List C} {i : Nat} {c : C} (h : cs[i]? = some c) : (cs.map C.row)[i]? = some [.int .u8 c.k, .str c.text, .int .i64 c.n, .int .i64 c.node, .int .i64 c.num] := by
  rw [List.getElem?_map, h]; rfl
theorem drop_at {α : Type} {l : List α} {i : Nat} {c : α} (h : l[i]? = some c) : l.drop i = c :: l.drop (i + 1) := by
  obtain ⟨h1, h2⟩ := List.getElem?_eq_some_iff.1 h
  rw [List.drop_eq_getElem_cons h1, h2]
def S31 (v : LV) (at_ op : Int) (ob : Obs) : WSt := ⟨.val v :: .val (.int .i64 at_) :: .val .undef :: .val .undef :: .val .undef :: .val (.int .i64 op) :: List.replicate 35 (.val .undef), ob, []⟩
theorem end_ok (lab : Nat) (cs : List C) (sp : List (List LV)) (i : Int) (hl : cs.length ≤ 4611686018427387904) (ob : Obs) (pb : Nat) : Gives env1 31 [.sl false lab 5 (cs.map C.row) sp, .int .i64 i] ob pb (.int .i64 (endE cs i), ob) := by
  refine gives_code (f := tf31) rfl ?_
  conv => whnf
  have hlen : (cs.map C.row).length = cs.length := by simp
  refine sel_split (fun h => ?_) (fun h => ?_)
  · conv => whnf
    have h : i < 0 := by simpa using h
    refine ⟨rfl, ?_, rfl⟩
    simp [endE, h, tupE]
  · conv => whnf
    have h : ¬ i < 0 := by simpa using h
    refine sel_split (fun h2 => ?_) (fun h2 => ?_)
    · conv => whnf
      have h2 := of_decide_eq_true h2
      rw [hlen] at h2
      refine ⟨rfl, ?_, rfl⟩
      simp [endE, h2, tupE]
    · conv => whnf
      have h2 := of_decide_eq_false h2
      rw [hlen] at h2
      have hend : endE cs i = scanE cs.length (cs.drop i.toNat) 1 i.toNat := by
        unfold endE; rw [if_neg (by omega)]
      refine loop_abs (ι := Nat × Int) (S := fun p => S31 (.sl false lab 5 (cs.map C.row) sp) p.1 p.2 ob) (m := fun p => cs.length - p.1) (P := fun p => p.1 ≤ cs.length ∧ endE cs i = scanE cs.length (cs.drop p.1) p.2 p.1) ?_ (i.toNat, 1) ⟨by omega, hend⟩ (by
        show _ = S31 _ ((i.toNat : Nat) : Int) 1 ob
        rw [Int.toNat_of_nonneg (by omega)]; rfl)
      rintro R ⟨a, o⟩ ⟨ha, hP⟩ hN hE hR
      simp only at ha hP
      conv => whnf
      refine sel_split (fun h3 => ?_) (fun h3 => ?_)
      · conv => whnf
        have h3 := of_decide_eq_true h3
        refine sel_split (fun h4 => ?_) (fun h4 => ?_)
        · conv => whnf
          rw [hlen] at h4
          have h4 : a = cs.length := by simp at h4; omega
          refine hR _ ?_
          conv => whnf
          refine ⟨rfl, ?_, rfl⟩
          rw [hP]
          subst h4
          have : ¬ o ≤ 0 := by omega
          simp [scanE, this, tupE]
        · conv => whnf
          rw [hlen] at h4
          have h4 : a ≠ cs.length := by intro e; subst e; simp at h4
          obtain ⟨c, hc⟩ : ∃ c, cs[a]? = some c := ⟨_, List.getElem?_eq_getElem (show a < cs.length by omega)⟩
          refine ⟨_, ⟨by omega, idx_row hc⟩, ?_⟩
          conv => whnf
          refine ⟨_, _, parts_ok c ob _, fun _ => rfl, ?_⟩
          conv => whnf
          rw [drop_at hc] at hP
          refine sel_split (fun h5 => ?_) (fun h5 => ?_)
          · conv => whnf
            have h5 := of_decide_eq_true h5
            rw [hlen] at h5
            refine hR _ ?_
            conv => whnf
            refine ⟨rfl, ?_, rfl⟩
            have : ¬ o ≤ 0 := by omega
            rw [hP]
            simp only [scanE, if_neg this, if_pos h5]; rfl
          · conv => whnf
            have h5 := of_decide_eq_false h5
            rw [hlen] at h5
            refine ⟨_, ⟨by omega, idx_row hc⟩, ?_⟩
            conv => whnf
            refine ⟨_, _, parts_ok c ob _, fun _ => rfl, ?_⟩
            conv => whnf
            have e : w64 ((a : Int) + 1) = ((a + 1 : Nat) : Int) := by
              unfold w64; rw [wrap64] <;> omega
            have : ¬ o ≤ 0 := by omega
            refine hN (a + 1, w64 (o + w64 (partsC c - 1))) _ ⟨by show a + 1 ≤ _; omega, ?_⟩ (by show cs.length - (a + 1) < _; omega) ?_
            · simp only [scanE, if_neg this, if_neg h5] at hP
              exact hP
            · show _ = S31 _ ((a + 1 : Nat) : Int) _ ob
              rw [← e]
              rfl
      · conv => whnf
        have h3 := of_decide_eq_false h3
        refine hE _ _ ?_
        conv => whnf
        refine ⟨rfl, ?_, rfl⟩
        rw [hP]
        have h3' : o ≤ 0 := by omega
        cases hd : cs.drop a with
        | nil => simp [scanE, h3', tupE]
        | cons c r => simp [scanE, h3', tupE]
end Tree
