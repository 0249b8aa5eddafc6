/- A part of the interpreter over trees and of its proof. -/
import Derived.Test.YtjbdicceeocgeaaL10Q2
import Derived.Test.YtjbdicceeocgeaaTW
set_option autoImplicit false
set_option linter.unusedVariables false
set_option linter.unusedSimpArgs false
namespace Tree.Q10
open Go
set_option maxHeartbeats 8000000
set_option maxRecDepth 100000
def dedupN (vs : List NV) : List NV := vs.foldl addN []
theorem dedup_take {vs : List NV} {i : Nat} {v : NV} (h : vs[i]? = some v) : dedupN (vs.take (i + 1)) = addN (dedupN (vs.take i)) v := by
  unfold dedupN; rw [List.take_add_one, h]; simp
theorem addN_len (acc : List NV) (v : NV) : (addN acc v).length ≤ acc.length + 1 := by
  unfold addN; split <;> simp
theorem foldN_len : ∀ (vs acc : List NV), (vs.foldl addN acc).length ≤ acc.length + vs.length
  | [], acc => by simp
  | v :: vs, acc => by
    have h1 := addN_len acc v
    have h2 := foldN_len vs (addN acc v)
    simp only [List.foldl_cons, List.length_cons] at h2 ⊢; omega
theorem dedup_len (vs : List NV) : (dedupN vs).length ≤ vs.length := by have := foldN_len vs []; unfold dedupN; simpa using this
section
variable {ob : Obs} {id pb : Nat} {rd : List Gl} {wt : List Wt} (hob : ob[id]? = some (qC rd wt)) (hpb : pb ≤ id)
include hob
include hpb
theorem wait_ok (g : Gl) (hg : g.small) (lab : Nat) (vs : List NV) (sp : List (List LV)) (hv : vs ≠ []) (hl : wt.length ≤ 4294967296) (hvl : vs.length ≤ 4294967296) : Gives env10 148 [.optr id 0, .agg g.row, sl2 false lab vs sp] ob pb (.int .i64 0, ob.set id (qC rd (wt ++ [⟨g.own, dedupN vs⟩]))) := by
  have hlen : (vs.map nrow).length = vs.length := by simp
  have hv0 : vs.length ≠ 0 := fun e => hv (List.length_eq_zero_iff.1 e)
  refine gives_code (f := tf148) rfl ?_
  conv => whnf
  refine sel_f (by rw [hlen]; simp; omega) ?_
  conv => whnf
  refine ⟨_, _, copied_ok g hg ob _, fun _ => own1_noRef _ _, ?_⟩
  conv => whnf
  refine loop_x (V := fun i : Nat => [(7, .box [.int .i64 g.a, .int .i64 g.b, sl5 false 0 g.cs [], sl2 true 0 (dedupN (vs.take i)) []]), (22, .val (.int .i64 i))]) (O := fun _ => ob) (m := fun i => vs.length - i) (P := fun i => i ≤ vs.length) ?_ 0 (Nat.zero_le _) rfl
  intro R i hi hN hE hR
  conv => whnf
  refine sel_split (fun h => ?_) (fun h => ?_)
  · conv => whnf
    have h := of_decide_eq_true h
    rw [hlen] at h
    obtain ⟨v, hq⟩ : ∃ v, vs[i]? = some v := ⟨_, List.getElem?_eq_getElem (show i < vs.length by omega)⟩
    have e : IntKind.i64.wrap ((i : Int) + 1) = ((i + 1 : Nat) : Int) := by rw [wrap64] <;> omega
    have hst := dedup_take hq
    have hdl := dedup_len (vs.take i)
    rw [List.length_take] at hdl
    refine ⟨_, ⟨by omega, idx_n hq⟩, ?_⟩
    conv => whnf
    obtain ⟨q, hq2⟩ := boolOf (v ∈ dedupN (vs.take i))
    refine ⟨_, _, (hasName_ok 0 (dedupN (vs.take i)) [] v (by omega) ob _ q hq2).le le110, fun _ => rfl, ?_⟩
    conv => whnf
    refine sel_split (fun h2 => ?_) (fun h2 => ?_)
    · conv => whnf
      have hn : v ∉ dedupN (vs.take i) := fun hm => by rw [hq2.2 hm] at h2; cases h2
      have hst' : dedupN (vs.take (i + 1)) = dedupN (vs.take i) ++ [v] := by rw [hst]; unfold addN; rw [if_neg hn]
      refine ⟨(dedupN (vs.take (i + 1))).map nrow, ⟨.inl rfl, ?_, ?_⟩, ?_⟩
      · show (((dedupN (vs.take i)).map nrow).length + 1) * 16 ≤ _
        rw [List.length_map]; omega
      · rw [hst', List.map_append]; rfl
      conv => whnf
      refine hN (i + 1) _ (by omega) (by omega) ?_
      rw [← e]; rfl
    · conv => whnf
      have hm : v ∈ dedupN (vs.take i) := by
        apply hq2.1; cases q <;> simp_all
      have hst' : dedupN (vs.take (i + 1)) = dedupN (vs.take i) := by rw [hst]; unfold addN; rw [if_pos hm]
      refine hN (i + 1) _ (by omega) (by omega) ?_
      rw [← e, hst']; rfl
  · conv => whnf
    have h := of_decide_eq_false h
    rw [hlen] at h
    have : i = vs.length := by omega
    subst this
    refine hE _ _ ?_
    rw [List.take_length]
    conv => whnf
    refine ⟨_, _, ⟨hob, rfl, rfl⟩, ?_⟩
    conv => whnf
    refine ⟨_, _, _, _, ⟨hpb, hob, rfl⟩, ?_⟩
    conv => whnf
    refine ⟨(wt ++ [Wt.mk g.own (dedupN vs)]).map Wt.row, ⟨.inl rfl, ?_, by rw [List.map_append]; rfl⟩, ?_⟩
    · show ((wt.map Wt.row).length + 1) * 64 ≤ _
      simp only [List.length_map]; omega
    conv => whnf
    refine ⟨_, qC rd (wt ++ [⟨g.own, dedupN vs⟩]), ⟨hpb, set_at hob, rfl, rfl⟩, ?_⟩
    conv => whnf
    refine ⟨rfl, rfl, ?_⟩
    show (ob.set id _).set id _ = _
    rw [List.set_set]
end
theorem idx207_ok (g ca co lab : Nat) (cb : List LV) (xs : List NV) (sp : List (List LV)) (p : NV → Prop) (hl : xs.length ≤ 4611686018427387904) (hg : ∀ x ∈ xs, ∀ ob pb (r : Bool), (r = true ↔ p x) → Gives env10 g (nm x.1 x.2 :: [.iptr ca cb co]) ob pb (.bool r, ob)) (ob : Obs) (pb : Nat) :
    ∃ j : Int, (j ≥ 0 ↔ ∃ x ∈ xs, p x) ∧ Gives env10 207 [sl2 false lab xs sp, .fn g [.iptr ca cb co]] ob pb (.int .i64 j, ob) := by
  have hlen : (xs.map nrow).length = xs.length := by simp
  have key : ∀ (j : Int), (∃ (i : Nat) (x : NV), j = i ∧ xs[i]? = some x ∧ p x ∧ ∀ (k : Nat) y, k < i → xs[k]? = some y → ¬ p y) ∨ (j = -1 ∧ ∀ x ∈ xs, ¬ p x) → Gives env10 207 [sl2 false lab xs sp, .fn g [.iptr ca cb co]] ob pb (.int .i64 j, ob) := by
    intro j hj
    refine gives_code (f := tf207) rfl ?_
    conv => whnf
    refine loop_v (V := fun i : Nat => [(8, .int .i64 i)]) (O := fun _ => ob) (m := fun i => xs.length - i) (P := fun i => i ≤ xs.length ∧ ∀ (k : Nat) d, k < i → xs[k]? = some d → ¬ p d) ?_ 0 ⟨Nat.zero_le _, fun k s h => by omega⟩ rfl
    rintro R i ⟨hi, hP⟩ hN hE hR
    conv => whnf
    refine sel_split (fun h => ?_) (fun h => ?_)
    · conv => whnf
      have h := of_decide_eq_true h
      rw [hlen] at h
      obtain ⟨c, hc⟩ : ∃ c, xs[i]? = some c := ⟨_, List.getElem?_eq_getElem (show i < xs.length by omega)⟩
      refine ⟨_, ⟨by omega, idx_n hc⟩, ?_⟩
      conv => whnf
      obtain ⟨q, hq⟩ := boolOf (p c)
      refine ⟨_, _, hg c (List.mem_of_getElem? hc) ob _ q hq, fun _ => rfl, ?_⟩
      conv => whnf
      refine sel_split (fun h2 => ?_) (fun h2 => ?_)
      · conv => whnf
        refine hR _ ?_
        conv => whnf
        refine ⟨rfl, ?_, rfl⟩
        have : j = i := by
          rcases hj with ⟨i', x', rfl, h1, h3, h4⟩ | ⟨rfl, h1⟩
          · rcases Nat.lt_trichotomy i i' with h7 | h7 | h7
            · exact absurd (hq.1 h2) (h4 i c h7 hc)
            · rw [h7]
            · exact absurd h3 (hP i' x' h7 h1)
          · exact absurd (hq.1 h2) (h1 c (List.mem_of_getElem? hc))
        rw [this]; rfl
      · conv => whnf
        have e : IntKind.i64.wrap ((i : Int) + 1) = ((i + 1 : Nat) : Int) := by rw [wrap64] <;> omega
        refine hN (i + 1) _ ⟨by omega, fun k d hk hd => ?_⟩ (by omega) ?_
        · by_cases hki : k = i
          · subst hki; rw [hc] at hd; cases hd
            intro hp; rw [hq.2 hp] at h2; cases h2
          · exact hP k d (by omega) hd
        · rw [← e]; rfl
    · conv => whnf
      have h := of_decide_eq_false h
      rw [hlen] at h
      refine hE _ _ ?_
      conv => whnf
      refine ⟨rfl, ?_, rfl⟩
      have : j = -1 := by
        rcases hj with ⟨i', x', rfl, h1, h3, h4⟩ | ⟨rfl, h1⟩
        · exact absurd h3 (hP i' x' (by have := (List.getElem?_eq_some_iff.1 h1).1; omega) h1)
        · rfl
      rw [this]; rfl
  by_cases h : ∃ x ∈ xs, p x
  · have : ∃ (i : Nat) (c : NV), xs[i]? = some c ∧ p c ∧ ∀ (k : Nat) d, k < i → xs[k]? = some d → ¬ p d := by
      apply Classical.byContradiction
      intro hn
      have all : ∀ n : Nat, ∀ (k : Nat) d, k < n → xs[k]? = some d → ¬ p d := by
        intro n
        induction n with
        | zero => intro k d hk; omega
        | succ n ih =>
          intro k d hk hd hp
          by_cases hkn : k < n
          · exact ih k d hkn hd hp
          · have : k = n := by omega
            subst this
            exact hn ⟨k, d, hd, hp, ih⟩
      obtain ⟨c, hc, hp⟩ := h
      obtain ⟨i, hi, e⟩ := List.getElem_of_mem hc
      exact all (i + 1) i c (by omega) (by rw [List.getElem?_eq_getElem hi, e]) hp
    obtain ⟨i, c, h1, h2, h3⟩ := this
    exact ⟨i, ⟨fun _ => h, fun _ => by omega⟩, key i (.inl ⟨i, c, rfl, h1, h2, h3⟩)⟩
  · exact ⟨-1, ⟨fun h1 => by omega, fun h1 => absurd h1 h⟩, key (-1) (.inr ⟨rfl, fun x hx hp => h ⟨x, hx, hp⟩⟩)⟩
theorem any174_ok (g ca co lab : Nat) (cb : List LV) (xs : List NV) (sp : List (List LV)) (p : NV → Prop) (hl : xs.length ≤ 4611686018427387904) (hg : ∀ x ∈ xs, ∀ ob pb (r : Bool), (r = true ↔ p x) → Gives env10 g (nm x.1 x.2 :: [.iptr ca cb co]) ob pb (.bool r, ob)) (ob : Obs) (pb : Nat) (r : Bool) (hr : r = true ↔ ∃ x ∈ xs, p x) :
    Gives env10 174 [sl2 false lab xs sp, .fn g [.iptr ca cb co]] ob pb (.bool r, ob) := by
  obtain ⟨j, hj, hg⟩ := idx207_ok g ca co lab cb xs sp p hl hg ob (max pb ob.length)
  refine gives_code (f := tf174) rfl ?_
  conv => whnf
  refine ⟨_, _, hg, fun _ => rfl, ?_⟩
  conv => whnf
  refine ⟨rfl, bool_of hr ?_, rfl⟩
  rw [decide_eq_true_iff, hj]
theorem fn173_ok (x : NV) (ca lab : Nat) (vs : List NV) (sp : List (List LV)) (hl : vs.length ≤ 4611686018427387904) (ob : Obs) (pb : Nat) (r : Bool) (hr : r = true ↔ x ∈ vs) : Gives env10 173 [nm x.1 x.2, .iptr ca [sl2 false lab vs sp] 0] ob pb (.bool r, ob) := by
  refine gives_code (f := tf173) rfl ?_
  conv => whnf
  refine ⟨_, _, (hasName_ok lab vs sp x hl ob _ r hr).le le110, fun _ => rfl, ?_⟩
  conv => whnf
  exact ⟨rfl, rfl, rfl⟩
def hits (vs : List NV) (w : Wt) : Bool := w.vs.any fun x => vs.contains x
theorem hits_iff (vs : List NV) (w : Wt) : hits vs w = true ↔ ∃ x ∈ w.vs, x ∈ vs := by
  simp [hits]
def wok (vs : List NV) (wt : List Wt) : List Gl := (wt.filter (hits vs)).map Wt.g
def lft (vs : List NV) (wt : List Wt) : List Wt := wt.filter fun w => !hits vs w
theorem wok_len (vs : List NV) (wt : List Wt) : (wok vs wt).length ≤ wt.length := by
  unfold wok; rw [List.length_map]; exact List.length_filter_le ..
theorem lft_len (vs : List NV) (wt : List Wt) : (lft vs wt).length ≤ wt.length := List.length_filter_le ..
section
variable {ob : Obs} {id pb : Nat} {rd : List Gl} {wt : List Wt} (hob : ob[id]? = some (qC rd wt)) (hpb : pb ≤ id)
include hob hpb
theorem wake_ok (lab : Nat) (vs : List NV) (sp : List (List LV)) (hl : rd.length + wt.length ≤ 4294967296) (hvl : vs.length ≤ 4294967296) (hws : ∀ w ∈ wt, w.g.small ∧ w.vs.length ≤ 4294967296) : Gives env10 149 [.optr id 0, sl2 false lab vs sp] ob pb (slG true 0 ((wok vs wt).map Gl.own) [], ob.set id (qC (rd ++ wok vs wt) (lft vs wt))) := by
  have hlen : (wt.map Wt.row).length = wt.length := by simp
  refine gives_code (f := tf149) rfl ?_
  conv => whnf
  refine ⟨_, _, ⟨hob, rfl, rfl⟩, ?_⟩
  conv => whnf
  refine loop_x (V := fun i : Nat => [(3, match i with | 0 => .box [sl2 false lab vs sp] | _ + 1 => .val (.iptr 0 [sl2 false lab vs sp] 0)), (5, .val (slG true 0 (wok vs (wt.take i)) [])), (6, .val (.sl true 0 4 ((lft vs (wt.take i)).map Wt.row) [])), (16, .val (.int .i64 i))]) (O := fun _ => ob) (m := fun i => wt.length - i) (P := fun i => i ≤ wt.length) ?_ 0 (Nat.zero_le _) rfl
  intro R i hi hN hE hR
  have hwl := wok_len vs (wt.take i)
  have hll := lft_len vs (wt.take i)
  rw [List.length_take] at hwl hll
  have step : ∀ w, wt[i]? = some w → (hits vs w = true → wok vs (wt.take (i + 1)) = wok vs (wt.take i) ++ [w.g] ∧ lft vs (wt.take (i + 1)) = lft vs (wt.take i)) ∧ (hits vs w = false → wok vs (wt.take (i + 1)) = wok vs (wt.take i) ∧ lft vs (wt.take (i + 1)) = lft vs (wt.take i) ++ [w]) := by
    intro w hq
    unfold wok lft
    rw [List.take_add_one, hq]
    refine ⟨fun h => ?_, fun h => ?_⟩ <;> simp [List.filter_append, h]
  cases i with
  | zero =>
    conv => whnf
    refine sel_split (fun h => ?_) (fun h => ?_)
    · conv => whnf
      have h := of_decide_eq_true h
      rw [hlen] at h
      obtain ⟨w, hq⟩ : ∃ w, wt[0]? = some w := ⟨_, List.getElem?_eq_getElem (by omega)⟩
      have e : IntKind.i64.wrap (((0 : Nat) : Int) + 1) = ((0 + 1 : Nat) : Int) := by rw [wrap64] <;> omega
      obtain ⟨st1, st2⟩ := step w hq
      obtain ⟨w1, w2⟩ := hws w (List.mem_of_getElem? hq)
      refine ⟨_, ⟨by omega, idx_w hq⟩, ?_⟩
      conv => whnf
      refine ⟨_, _, any174_ok 173 0 0 0 [sl2 false lab vs sp] w.vs [] (fun x => x ∈ vs) (by omega) (fun x hx ob pb r hr => fn173_ok x 0 lab vs sp (by omega) ob pb r hr) ob _ (hits vs w) (hits_iff vs w), fun _ => rfl, ?_⟩
      conv => whnf
      refine sel_split (fun h2 => ?_) (fun h2 => ?_)
      · conv => whnf
        obtain ⟨s1, s2⟩ := st1 h2
        refine ⟨(wok vs (wt.take (0 + 1))).map Gl.row, ⟨.inl rfl, ?_, ?_⟩, ?_⟩
        · show (((wok vs (wt.take 0)).map Gl.row).length + 1) * 40 ≤ _
          rw [List.length_map]; omega
        · rw [s1, List.map_append]; rfl
        conv => whnf
        refine hN (0 + 1) _ (by omega) (by omega) ?_
        rw [← e, s2]; rfl
      · conv => whnf
        obtain ⟨s1, s2⟩ := st2 h2
        refine ⟨(lft vs (wt.take (0 + 1))).map Wt.row, ⟨.inl rfl, ?_, ?_⟩, ?_⟩
        · show (((lft vs (wt.take 0)).map Wt.row).length + 1) * 64 ≤ _
          rw [List.length_map]; omega
        · rw [s2, List.map_append]; rfl
        conv => whnf
        refine hN (0 + 1) _ (by omega) (by omega) ?_
        rw [← e, s1]; rfl
    · conv => whnf
      have h := of_decide_eq_false h
      rw [hlen] at h
      have hie : wt.take 0 = wt := List.take_of_length_le (by omega)
      refine hE _ _ ?_
      rw [hie]
      rw [hie] at hwl hll
      have hsm : ∀ g ∈ wok vs wt, g.small := fun g hg => by
        unfold wok at hg
        obtain ⟨w, hw, rfl⟩ := List.mem_map.1 hg
        exact (hws w (List.mem_filter.1 hw).1).1
      conv => whnf
      refine ⟨_, qC rd (lft vs wt), ⟨hpb, hob, rfl, rfl⟩, ?_⟩
      conv => whnf
      have hob2 : (ob.set id (qC rd (lft vs wt)))[id]? = some (qC rd (lft vs wt)) := set_at hob
      refine ⟨_, _, ⟨hob2, rfl, rfl⟩, ?_⟩
      conv => whnf
      refine ⟨_, _, _, _, ⟨hpb, hob2, rfl⟩, ?_⟩
      conv => whnf
      refine ⟨(rd ++ wok vs wt).map Gl.row, ⟨.inl rfl, ?_, by rw [List.map_append]⟩, ?_⟩
      · show ((rd.map Gl.row).length + ((wok vs wt).map Gl.row).length) * 40 ≤ _
        simp only [List.length_map]; omega
      conv => whnf
      refine ⟨_, qC (rd ++ wok vs wt) (lft vs wt), ⟨hpb, set_at hob2, rfl, rfl⟩, ?_⟩
      conv => whnf
      refine ⟨_, _, all_ok 0 (wok vs wt) [] (by omega) hsm _ _, fun _ => ownG_noRef _ _ _, ?_⟩
      conv => whnf
      refine ⟨rfl, rfl, ?_⟩
      show ((ob.set id _).set id _).set id _ = _
      rw [List.set_set, List.set_set]
  | succ i =>
    conv => whnf
    refine sel_split (fun h => ?_) (fun h => ?_)
    · conv => whnf
      have h := of_decide_eq_true h
      rw [hlen] at h
      obtain ⟨w, hq⟩ : ∃ w, wt[(i + 1)]? = some w := ⟨_, List.getElem?_eq_getElem (by omega)⟩
      have e : IntKind.i64.wrap ((((i + 1) : Nat) : Int) + 1) = (((i + 1) + 1 : Nat) : Int) := by rw [wrap64] <;> omega
      obtain ⟨st1, st2⟩ := step w hq
      obtain ⟨w1, w2⟩ := hws w (List.mem_of_getElem? hq)
      refine ⟨_, ⟨by omega, idx_w hq⟩, ?_⟩
      conv => whnf
      refine ⟨_, _, any174_ok 173 0 0 0 [sl2 false lab vs sp] w.vs [] (fun x => x ∈ vs) (by omega) (fun x hx ob pb r hr => fn173_ok x 0 lab vs sp (by omega) ob pb r hr) ob _ (hits vs w) (hits_iff vs w), fun _ => rfl, ?_⟩
      conv => whnf
      refine sel_split (fun h2 => ?_) (fun h2 => ?_)
      · conv => whnf
        obtain ⟨s1, s2⟩ := st1 h2
        refine ⟨(wok vs (wt.take ((i + 1) + 1))).map Gl.row, ⟨.inl rfl, ?_, ?_⟩, ?_⟩
        · show (((wok vs (wt.take (i + 1))).map Gl.row).length + 1) * 40 ≤ _
          rw [List.length_map]; omega
        · rw [s1, List.map_append]; rfl
        conv => whnf
        refine hN ((i + 1) + 1) _ (by omega) (by omega) ?_
        rw [← e, s2]; rfl
      · conv => whnf
        obtain ⟨s1, s2⟩ := st2 h2
        refine ⟨(lft vs (wt.take ((i + 1) + 1))).map Wt.row, ⟨.inl rfl, ?_, ?_⟩, ?_⟩
        · show (((lft vs (wt.take (i + 1))).map Wt.row).length + 1) * 64 ≤ _
          rw [List.length_map]; omega
        · rw [s2, List.map_append]; rfl
        conv => whnf
        refine hN ((i + 1) + 1) _ (by omega) (by omega) ?_
        rw [← e, s1]; rfl
    · conv => whnf
      have h := of_decide_eq_false h
      rw [hlen] at h
      have hie : wt.take (i + 1) = wt := List.take_of_length_le (by omega)
      refine hE _ _ ?_
      rw [hie]
      rw [hie] at hwl hll
      have hsm : ∀ g ∈ wok vs wt, g.small := fun g hg => by
        unfold wok at hg
        obtain ⟨w, hw, rfl⟩ := List.mem_map.1 hg
        exact (hws w (List.mem_filter.1 hw).1).1
      conv => whnf
      refine ⟨_, qC rd (lft vs wt), ⟨hpb, hob, rfl, rfl⟩, ?_⟩
      conv => whnf
      have hob2 : (ob.set id (qC rd (lft vs wt)))[id]? = some (qC rd (lft vs wt)) := set_at hob
      refine ⟨_, _, ⟨hob2, rfl, rfl⟩, ?_⟩
      conv => whnf
      refine ⟨_, _, _, _, ⟨hpb, hob2, rfl⟩, ?_⟩
      conv => whnf
      refine ⟨(rd ++ wok vs wt).map Gl.row, ⟨.inl rfl, ?_, by rw [List.map_append]⟩, ?_⟩
      · show ((rd.map Gl.row).length + ((wok vs wt).map Gl.row).length) * 40 ≤ _
        simp only [List.length_map]; omega
      conv => whnf
      refine ⟨_, qC (rd ++ wok vs wt) (lft vs wt), ⟨hpb, set_at hob2, rfl, rfl⟩, ?_⟩
      conv => whnf
      refine ⟨_, _, all_ok 0 (wok vs wt) [] (by omega) hsm _ _, fun _ => ownG_noRef _ _ _, ?_⟩
      conv => whnf
      refine ⟨rfl, rfl, ?_⟩
      show ((ob.set id _).set id _).set id _ = _
      rw [List.set_set, List.set_set]
end
end Tree.Q10
