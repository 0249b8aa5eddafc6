/- Layer 6: the document's heap, what is read of it. -/
import Derived.Test.YtmhblapchnldhaaDoorL6H1
set_option autoImplicit false
set_option linter.unusedVariables false
set_option linter.unusedSimpArgs false
namespace Tree.H6
open Go
set_option maxHeartbeats 8000000
set_option maxRecDepth 100000
abbrev Bd := NV × List C
def brow (b : Bd) : List LV := [.int .i64 b.1.1, .int .i64 b.1.2, sl5 false 0 b.2 []]
def pix : List Bd → NV → Option Nat
  | [], _ => none
  | e :: r, k => if e.1 = k then some 0 else (pix r k).map (· + 1)
def lkB : List Bd → NV → Option (List C)
  | [], _ => none
  | e :: r, k => if e.1 = k then some e.2 else lkB r k
def pz : Option Nat → Int
  | none => -1
  | some i => i
theorem pix_lk (k : NV) : ∀ L : List Bd, (pix L k = none ∧ lkB L k = none) ∨ ∃ i cs, pix L k = some i ∧ L[i]? = some (k, cs) ∧ lkB L k = some cs
  | [] => .inl ⟨rfl, rfl⟩
  | e :: r => by
    simp only [pix, lkB]
    by_cases h : e.1 = k
    · right
      refine ⟨0, e.2, by rw [if_pos h], ?_, by rw [if_pos h]⟩
      rw [← h]; rfl
    · simp only [h, if_false]
      rcases pix_lk k r with ⟨h1, h2⟩ | ⟨i, cs, h1, h2, h3⟩
      · exact .inl ⟨by rw [h1]; rfl, h2⟩
      · exact .inr ⟨i + 1, cs, by rw [h1]; rfl, by simpa using h2, h3⟩
/-- The document's heap. -/
structure HpR (ob : Obs) (id : Nat) (L : List Bd) (M : Mp) : Prop where
  hid : ob[id]? = some [.sl true 0 3 (L.map brow) []]
  hl : ∀ k, lkB L k = M k
def PtrR (ob : Obs) (p : LV) (M : Mp) : Prop := (p = .nilptr ∧ ∀ k, M k = none) ∨ ∃ id L, p = .optr id 0 ∧ HpR ob id L M ∧ L.length ≤ 4294967296
theorem PtrR.ptr {ob : Obs} {p : LV} {M : Mp} (h : PtrR ob p M) : isPtr p := by
  rcases h with ⟨rfl, _⟩ | ⟨id, L, rfl, _⟩
  · exact .inl rfl
  · exact .inr ⟨id, rfl⟩
theorem idx_b {L : List Bd} {i : Nat} {b : Bd} (h : L[i]? = some b) : (L.map brow)[i]? = some [.int .i64 b.1.1, .int .i64 b.1.2, .sl false 0 5 (b.2.map C.row) []] := by
  rw [List.getElem?_map, h]; rfl
theorem place_nil (ob : Obs) (k : NV) (pb : Nat) : Gives env6 260 [.nilptr, nm k.1 k.2] ob pb (.int .i64 (-1), ob) := by
  refine gives_code (f := tf260) rfl ?_
  conv => whnf
  refine loop_v (V := fun _ : Unit => []) (O := fun _ => ob) (m := fun _ => 0) (P := fun _ => True) ?_ () trivial rfl
  intro R i hi hN' hE hR
  conv => whnf
  refine hE _ _ ?_
  conv => whnf
  exact ⟨rfl, rfl, rfl⟩
theorem place_some {ob : Obs} {id : Nat} {L : List Bd} (hid : ob[id]? = some [.sl true 0 3 (L.map brow) []]) (hl : L.length ≤ 4294967296) (k : NV) (pb : Nat) : Gives env6 260 [.optr id 0, nm k.1 k.2] ob pb (.int .i64 (pz (pix L k)), ob) := by
  have hlen : (L.map brow).length = L.length := by simp
  refine gives_code (f := tf260) rfl ?_
  conv => whnf
  refine loop_v (V := fun i : Nat => [(5, .int .i64 i)]) (O := fun _ => ob) (m := fun i => L.length - i) (P := fun i => i ≤ L.length ∧ pix L k = (pix (L.drop i) k).map (· + i)) ?_ 0 ⟨Nat.zero_le _, by rw [List.drop_zero]; cases pix L k <;> rfl⟩ rfl
  rintro R i ⟨hi, hp⟩ hN hE hR
  conv => whnf
  refine ⟨_, _, ⟨hid, rfl, rfl⟩, ?_⟩
  conv => whnf
  refine sel_split (fun h => ?_) (fun h => ?_)
  · conv => whnf
    have h := of_decide_eq_true h
    rw [hlen] at h
    obtain ⟨b, hb⟩ : ∃ b, L[i]? = some b := ⟨_, List.getElem?_eq_getElem (show i < L.length by omega)⟩
    have hd : L.drop i = b :: L.drop (i + 1) := by
      obtain ⟨h1, h2⟩ := List.getElem?_eq_some_iff.1 hb
      rw [List.drop_eq_getElem_cons h1, h2]
    refine ⟨_, _, ⟨hid, rfl, rfl⟩, ?_⟩
    conv => whnf
    refine ⟨_, ⟨by omega, idx_b hb⟩, ?_⟩
    conv => whnf
    rw [hd] at hp
    refine sel_split (fun h2 => ?_) (fun h2 => ?_)
    · conv => whnf
      have hk : b.1 = k := by
        have h2 : ((b.1.1 == k.1) && ((b.1.2 == k.2) && true)) = true := h2
        simp only [Bool.and_true, Bool.and_eq_true, beq_iff_eq] at h2
        exact Prod.ext h2.1 h2.2
      refine hR _ ?_
      conv => whnf
      refine ⟨rfl, ?_, rfl⟩
      rw [hp]
      simp only [pix, if_pos hk, Option.map_some, Nat.zero_add]
      rfl
    · conv => whnf
      have hk : b.1 ≠ k := by
        rintro rfl
        have h2 : ((b.1.1 == b.1.1) && ((b.1.2 == b.1.2) && true)) = false := h2
        simp at h2
      have e : IntKind.i64.wrap ((i : Int) + 1) = ((i + 1 : Nat) : Int) := by rw [wrap64] <;> omega
      refine hN (i + 1) _ ⟨by omega, ?_⟩ (by omega) ?_
      · rw [hp]
        simp only [pix, if_neg hk]
        rw [Option.map_map]; congr 1; funext x; simp only [Function.comp]; omega
      · rw [← e]; rfl
  · conv => whnf
    have h := of_decide_eq_false h
    rw [hlen] at h
    have : i = L.length := by omega
    subst this
    refine hE _ _ ?_
    rw [List.drop_length] at hp
    rw [hp]
    conv => whnf
    exact ⟨rfl, rfl, rfl⟩
theorem valueR_ok {ob : Obs} {p : LV} {M : Mp} (h : PtrR ob p M) (k : NV) (pb : Nat) : Gives env6 268 [p, nm k.1 k.2] ob pb (.tup [nv (M k), .bool (M k).isSome], ob) := by
  rcases h with ⟨rfl, hM⟩ | ⟨id, L, rfl, h, hl⟩
  · rw [hM]
    refine gives_code (f := tf268) rfl ?_
    conv => whnf
    refine ⟨_, _, place_nil ob k _, fun _ => rfl, ?_⟩
    conv => whnf
    exact ⟨rfl, rfl, rfl⟩
  · rw [← h.hl]
    have hp := place_some h.hid hl k
    rcases pix_lk k L with ⟨h1, h2⟩ | ⟨i, cs, h1, h2, h3⟩
    · rw [h2]
      rw [h1] at hp
      refine gives_code (f := tf268) rfl ?_
      conv => whnf
      refine ⟨_, _, hp _, fun _ => rfl, ?_⟩
      conv => whnf
      exact ⟨rfl, rfl, rfl⟩
    · rw [h3]
      rw [h1] at hp
      refine gives_code (f := tf268) rfl ?_
      conv => whnf
      refine ⟨_, _, hp _, fun _ => rfl, ?_⟩
      conv => whnf
      refine ⟨_, _, ⟨h.hid, rfl, rfl⟩, ?_⟩
      conv => whnf
      refine ⟨_, ⟨by show (0 : Int) ≤ (i : Int); omega, idx_b h2⟩, ?_⟩
      conv => whnf
      exact ⟨rfl, rfl, rfl⟩
/-- The terms that a term leads to, one behind the other. -/
inductive Ch (M : Mp) : List C → List (List C) → Prop
  | stop {cs : List C} (h : nxt M cs = none) : Ch M cs []
  | step {cs u : List C} {l : List (List C)} (h : nxt M cs = some u) (h2 : Ch M u l) : Ch M cs (u :: l)
theorem ch_ex {M : Mp} (hM : MOk M) {K : List NV} (hK : ∀ k, (M k).isSome = true → k ∈ K) : ∀ (n : Nat) (cs : List C), mz K cs ≤ n → ∃ l, Ch M cs l ∧ l.length ≤ n
  | n, cs, h => by
    cases hn : nxt M cs with
    | none => exact ⟨[], .stop hn, Nat.zero_le _⟩
    | some u =>
      have hlt := mz_lt hM hK hn
      match n, h with
      | 0, h => omega
      | n + 1, h =>
        obtain ⟨l, h1, h2⟩ := ch_ex hM hK n u (by omega)
        exact ⟨u :: l, .step hn h1, by simp only [List.length_cons]; omega⟩
theorem ch_last {M : Mp} {cs v : List C} {l : List (List C)} (hd : Dr M cs v) (hc : Ch M cs l) : (l = [] ∧ v = cs ∧ nxt M cs = none) ∨ (l[l.length - 1]? = some v ∧ 0 < l.length ∧ (nxt M cs).isSome = true) := by
  induction hd generalizing l with
  | stop h =>
    cases hc with
    | stop => exact .inl ⟨rfl, rfl, h⟩
    | step h' => rw [h] at h'; cases h'
  | @step cs u v h h2 ih =>
    cases hc with
    | stop h' => rw [h] at h'; cases h'
    | @step _ u' l h' hc =>
      rw [h] at h'; cases h'
      right
      refine ⟨?_, by simp, by rw [h]; rfl⟩
      rcases ih hc with ⟨rfl, rfl, _⟩ | ⟨h3, h4, _⟩
      · rfl
      · simp only [List.length_cons, Nat.add_sub_cancel]
        have e : l.length = l.length - 1 + 1 := by omega
        rw [e, List.getElem?_cons_succ]; exact h3
theorem noRefT (n : Nat) : ∀ (ts : List T1), (∀ t ∈ ts, ∀ n, LV.noRefss n t.sp = true) → LV.noRefss n (ts.map T1.row) = true
  | [], _ => by simp [LV.noRefss]
  | t :: r, h => by
    have := noRefT n r fun t ht => h t (List.mem_cons_of_mem _ ht)
    have h2 := h t (List.mem_cons_self ..) n
    simp only [List.map_cons, LV.noRefss, this, T1.row, LV.noRefs, LV.noRef, noRef_rows, h2, Bool.and_self]
section
variable {ob : Obs} {p : LV} {M : Mp} (hp : isPtr p) (hv : ∀ (k : NV) (pb : Nat), Gives env6 268 [p, nm k.1 k.2] ob pb (.tup [nv (M k), .bool (M k).isSome], ob))
include hp hv
theorem chain_ok (lab : Nat) (cs : List C) (sp : List (List LV)) (hne : cs ≠ []) (l : List (List C)) (hc : Ch M cs l) (hl : l.length ≤ 4294967296) (pb : Nat) : Gives env6 252 [p, sl5 false lab cs sp] ob pb (sl1 true 0 (⟨lab, cs, sp⟩ :: l.map T1.mk0) [], ob) := by
  have hlen : ∀ cs : List C, (cs.map C.row).length = cs.length := fun cs => by simp
  have hnr : ∀ (o : Option (List C)) (n : Nat), LV.noRef n (.tup [nv o, .bool o.isSome]) = true := by
    intro o n
    cases o with
    | none => rfl
    | some u => simp [nv, LV.noRef, LV.noRefs, LV.noRefss, noRef_rows]
  rcases hp with rfl | ⟨id, rfl⟩
  all_goals
    refine gives_code (f := tf252) rfl ?_
    conv => whnf
    refine sel_f (by cases cs with | nil => exact absurd rfl hne | cons c r => rw [hlen]; simp; omega) ?_
    conv => whnf
    refine loop_v (V := fun i : T1 × List T1 × List (List C) => [(1, sl5 false i.1.lab i.1.cs i.1.sp), (5, sl1 true 0 (i.2.1 ++ [i.1]) [])]) (O := fun _ => ob) (m := fun i => i.2.2.length) (P := fun i => Ch M i.1.cs i.2.2 ∧ i.2.1 ++ i.1 :: i.2.2.map T1.mk0 = ⟨lab, cs, sp⟩ :: l.map T1.mk0) ?_ (⟨lab, cs, sp⟩, [], l) ⟨hc, rfl⟩ rfl
    rintro R ⟨⟨l1, cur, s1⟩, done, rest⟩ ⟨h1, h2⟩ hN hE hR
    dsimp only at h1 h2
    have hstop : nxt M cur = none → done ++ [(⟨l1, cur, s1⟩ : T1)] = ⟨lab, cs, sp⟩ :: l.map T1.mk0 := by
      intro h
      cases h1 with
      | stop => exact h2
      | step h' => rw [h] at h'; cases h'
    have hgo : ∀ u, nxt M cur = some u → ∃ r, rest = u :: r ∧ Ch M u r := by
      intro u h
      cases h1 with
      | stop h' => rw [h] at h'; cases h'
      | step h' h3 => rw [h] at h'; cases h'; exact ⟨_, rfl, h3⟩
    have hdl : done.length ≤ 4294967296 := by
      have := congrArg List.length h2
      simp only [List.length_append, List.length_cons, List.length_map] at this
      omega
    clear h1
    conv => whnf
    refine sel_split (fun h3 => ?_) (fun h3 => ?_)
    · conv => whnf
      obtain ⟨c, rfl⟩ : ∃ c, cur = [c] := by
        match cur, h3 with
        | [], h3 => simp at h3
        | [c], h3 => exact ⟨c, rfl⟩
        | a :: b :: r, h3 => simp at h3; omega
      refine ⟨_, ⟨by omega, idx_row (cs := [c]) (i := 0) rfl⟩, ?_⟩
      conv => whnf
      refine sel_split (fun h4 => ?_) (fun h4 => ?_)
      · conv => whnf
        have h4 : c.k = 4 := by simpa using h4
        have hn : nxt M [c] = M (c.node, c.num) := by simp [nxt, h4]
        rw [hn] at hstop hgo
        refine ⟨_, ⟨by omega, idx_row (cs := [c]) (i := 0) rfl⟩, ?_⟩
        conv => whnf
        refine ⟨_, _, hv (c.node, c.num) _, fun _ => hnr _ _, ?_⟩
        cases hm : M (c.node, c.num) with
        | none =>
          conv => whnf
          refine hE _ _ ?_
          rw [hstop hm]
          conv => whnf
          exact ⟨rfl, rfl, rfl⟩
        | some u =>
          conv => whnf
          obtain ⟨r, rfl, h5⟩ := hgo u hm
          refine ⟨((done ++ [(⟨l1, [c], s1⟩ : T1)]) ++ [(⟨0, u, []⟩ : T1)]).map T1.row, ⟨.inl rfl, ?_, ?_⟩, ?_⟩
          · show (((done ++ [(⟨l1, [c], s1⟩ : T1)]).map T1.row).length + 1) * 24 ≤ _
            simp only [List.length_map, List.length_append, List.length_cons, List.length_nil]; omega
          · simp only [List.map_append]; rfl
          conv => whnf
          refine hN ((⟨0, u, []⟩ : T1), done ++ [(⟨l1, [c], s1⟩ : T1)], r) _ ⟨h5, ?_⟩ (Nat.lt_succ_self _) rfl
          rw [← h2, List.append_assoc]; rfl
      · conv => whnf
        have h4 : c.k ≠ 4 := by simpa using h4
        have hn : nxt M [c] = none := by simp [nxt, h4]
        refine hE _ _ ?_
        rw [hstop hn]
        conv => whnf
        exact ⟨rfl, rfl, rfl⟩
    · conv => whnf
      have hn : nxt M cur = none := by
        match cur, h3 with
        | [], _ => rfl
        | [c], h3 => simp at h3
        | _ :: _ :: _, _ => rfl
      refine hE _ _ ?_
      rw [hstop hn]
      conv => whnf
      exact ⟨rfl, rfl, rfl⟩
theorem derefR_ok (lab : Nat) (cs fin : List C) (sp : List (List LV)) (hs : ∀ n, LV.noRefss n sp = true) (hne : cs ≠ []) (hd : Dr M cs fin) (l : List (List C)) (hc : Ch M cs l) (hl : l.length ≤ 4294967296) (pb : Nat) : Gives env6 227 [p, sl5 false lab cs sp] ob pb (if (nxt M cs).isSome then sl5 false 0 fin [] else sl5 false lab fin sp, ob) := by
  have hC := chain_ok hp hv lab cs sp hne l hc hl
  have hnr : ∀ n, LV.noRef n (sl1 true 0 (⟨lab, cs, sp⟩ :: l.map T1.mk0) []) = true := by
    intro n
    have := noRefT n (⟨lab, cs, sp⟩ :: l.map T1.mk0) (by
      intro t ht n
      rcases List.mem_cons.1 ht with rfl | ht
      · exact hs n
      · obtain ⟨a, _, rfl⟩ := List.mem_map.1 ht; simp [T1.mk0, LV.noRefss])
    simp only [LV.noRef, this, LV.noRefss, Bool.and_self]
  clear hv
  have hlen : ((((⟨lab, cs, sp⟩ : T1) :: l.map T1.mk0)).map T1.row).length = l.length + 1 := by simp
  have hlast : ∃ t : T1, (⟨lab, cs, sp⟩ :: l.map T1.mk0 : List T1)[l.length]? = some t ∧ (if (nxt M cs).isSome then sl5 false 0 fin [] else sl5 false lab fin sp) = sl5 false t.lab t.cs t.sp := by
    rcases ch_last hd hc with ⟨rfl, rfl, h3⟩ | ⟨h1, h2, h3⟩
    · exact ⟨_, rfl, by rw [h3]; rfl⟩
    · refine ⟨T1.mk0 fin, ?_, by rw [h3]; rfl⟩
      have e : l.length = l.length - 1 + 1 := by omega
      rw [e, List.getElem?_cons_succ, List.getElem?_map]
      simp only [Nat.add_sub_cancel, h1, Option.map_some]
  obtain ⟨t, ht, hr⟩ := hlast
  rw [hr]
  rcases hp with rfl | ⟨id, rfl⟩
  all_goals
    refine gives_code (f := tf227) rfl ?_
    conv => whnf
    refine ⟨_, _, hC _, fun _ => hnr _, ?_⟩
    conv => whnf
    have e : (IntKind.i64.wrap (((((⟨lab, cs, sp⟩ : T1) :: l.map T1.mk0)).map T1.row).length - 1 : Int)) = (l.length : Int) := by rw [hlen, wrap64] <;> omega
    have h0 : (0 : Int) ≤ (IntKind.i64.wrap (((((⟨lab, cs, sp⟩ : T1) :: l.map T1.mk0)).map T1.row).length - 1 : Int)) := by rw [e]; omega
    have hi : ((((⟨lab, cs, sp⟩ : T1) :: l.map T1.mk0)).map T1.row)[(IntKind.i64.wrap (((((⟨lab, cs, sp⟩ : T1) :: l.map T1.mk0)).map T1.row).length - 1 : Int)).toNat]? = some [.sl false t.lab 5 (t.cs.map C.row) t.sp] := by
      rw [e]
      exact idx_t ht
    refine ⟨_, ⟨h0, hi⟩, ?_⟩
    conv => whnf
    exact ⟨rfl, rfl, rfl⟩
end
end Tree.H6
