/- Layer 11: which terms may be sent. -/
import Derived.Test.YtkdccglaeegdaaaDoorL11U
import Derived.Test.YtkdccglaeegdaaaDoorTLb
set_option autoImplicit false
set_option linter.unusedVariables false
set_option linter.unusedSimpArgs false
namespace Tree.W11
open Go
set_option maxHeartbeats 8000000
set_option maxRecDepth 100000
def nameOk (a b : Int) : Prop := 0 ≤ a ∧ a < 4 ∧ 0 ≤ b ∧ b ≤ 2147483647
theorem rightName_ok (a b : Int) (ob : Obs) (pb : Nat) (r : Bool) (hr : r = true ↔ nameOk a b) : Gives env11 509 [.agg [.int .i64 a, .int .i64 b]] ob pb (.bool r, ob) := by
  unfold nameOk at hr
  refine gives_code (f := tf509) rfl ?_
  conv => whnf
  repeat' (refine sel_split (fun _ => ?_) (fun _ => ?_) <;> conv => whnf)
  all_goals
    refine ⟨rfl, bool_of hr ?_, rfl⟩
    simp only [decide_eq_true_eq, decide_eq_false_iff_not] at *
    first | omega | (simp; omega)
def TermOk (cs : List C) : Prop := GlobalP cs ∧ ∀ c ∈ cs, c.k = 4 → nameOk c.node c.num
theorem take_all {cs : List C} {i : Nat} {c : C} {P : C → Prop} (h : cs[i]? = some c) (ha : ∀ d ∈ cs.take i, P d) (hc : P c) : ∀ d ∈ cs.take (i + 1), P d := by
  intro d hd
  rw [List.take_add_one, h] at hd
  rcases List.mem_append.1 hd with hd | hd
  · exact ha d hd
  · have : d = c := by simpa using hd
    rw [this]; exact hc
theorem rightTerm_ok (cs : List C) (lab : Nat) (sp : List (List LV)) (hl : cs.length ≤ 4611686018427387904) (hf : ∀ c ∈ cs, c.fine) (ob : Obs) (pb : Nat) (r : Bool) (hr : r = true ↔ TermOk cs) : Gives env11 506 [sl5 false lab cs sp] ob pb (.bool r, ob) := by
  have hlen : (cs.map C.row).length = cs.length := by simp
  obtain ⟨q, hq⟩ := boolOf (GlobalP cs)
  refine gives_code (f := tf506) rfl ?_
  conv => whnf
  refine ⟨_, _, (global_ok lab cs sp hl hf ob _ q hq).le le111, fun _ => rfl, ?_⟩
  cases q with
  | false =>
    conv => whnf
    refine ⟨rfl, bool_of hr ⟨fun e => (nomatch e), fun h => ?_⟩, rfl⟩
    have := hq.2 h.1; cases this
  | true =>
    conv => whnf
    refine loop_v (V := fun i : Nat => [(10, .int .i64 i)]) (O := fun _ => ob) (m := fun i => cs.length - i) (P := fun i => i ≤ cs.length ∧ ∀ c ∈ cs.take i, c.k = 4 → nameOk c.node c.num) ?_ 0 ⟨Nat.zero_le _, fun c hc => by simp at hc⟩ rfl
    rintro R i ⟨hi, hP⟩ hN hE hR
    conv => whnf
    refine sel_split (fun h => ?_) (fun h => ?_)
    · conv => whnf
      have h := of_decide_eq_true h
      rw [hlen] at h
      obtain ⟨c, hc⟩ : ∃ c, cs[i]? = some c := ⟨_, List.getElem?_eq_getElem (show i < cs.length by omega)⟩
      have e : IntKind.i64.wrap ((i : Int) + 1) = ((i + 1 : Nat) : Int) := by rw [wrap64] <;> omega
      refine ⟨_, ⟨by omega, idx_row hc⟩, ?_⟩
      conv => whnf
      refine sel_split (fun h4 => ?_) (fun h4 => ?_)
      · have h4 : c.k = 4 := by simpa using h4
        obtain ⟨p, hp⟩ := boolOf (nameOk c.node c.num)
        conv => whnf
        refine ⟨_, _, rightName_ok c.node c.num ob _ p hp, fun _ => rfl, ?_⟩
        cases p with
        | true =>
          conv => whnf
          refine hN (i + 1) _ ⟨by omega, take_all hc hP fun _ => hp.1 rfl⟩ (by omega) ?_
          rw [← e]; rfl
        | false =>
          conv => whnf
          refine hR _ ?_
          conv => whnf
          refine ⟨rfl, bool_of hr ⟨fun e => (nomatch e), fun h => ?_⟩, rfl⟩
          have := hp.2 (h.2 c (List.mem_of_getElem? hc) h4); cases this
      · have h4 : c.k ≠ 4 := by simpa using h4
        conv => whnf
        refine hN (i + 1) _ ⟨by omega, take_all hc hP fun h => absurd h h4⟩ (by omega) ?_
        rw [← e]; rfl
    · conv => whnf
      have h := of_decide_eq_false h
      rw [hlen] at h
      have : i = cs.length := by omega
      subst this
      refine hE _ _ ?_
      rw [List.take_length] at hP
      conv => whnf
      exact ⟨rfl, bool_of hr ⟨fun _ => ⟨hq.1 rfl, hP⟩, fun _ => rfl⟩, rfl⟩
end Tree.W11
