/- Layer 2: tokens; Globals. -/
import Derived.Test.YtlfifgganibjiaaDoorL2C
set_option autoImplicit false
set_option linter.unusedVariables false
set_option linter.unusedSimpArgs false
namespace Tree.X02
open Go
set_option maxHeartbeats 4000000
set_option maxRecDepth 100000
structure Tk where
  k : Nat
  text : ByteArray
  n : Int
  node : Int
  at_ : Int
def Tk.cells (kk : IntKind) (t : Tk) : List LV := [.int kk t.k, .str t.text, .int .i64 t.n, .int .i64 t.node, .int .i64 t.at_]
def tk0 : Tk := ⟨0, ⟨#[]⟩, 0, 0, 0⟩
/-- A token, the place behind it, the error. -/
abbrev Nx := Tk × Nat × Nat
def Nx.lv (kk : IntKind) (r : Nx) : LV := .tup [.agg (r.1.cells kk), .int .i64 r.2.1, .int .i64 r.2.2]
def globS (s : ByteArray) (a : Nat) : Nx :=
  let l := s.data.toList
  let i := spanL dig l (a + 1)
  if i = a + 1 ∨ (l[i]?.map (·.toNat)) ≠ some 95 then (tk0, a, 20) else
  let j := spanL dig l (i + 1)
  if j = i + 1 then (tk0, a, 20) else
  if ¬ (okD (digs l (a + 1)) = true ∧ okD (digs l (i + 1)) = true) then (tk0, a, 21) else
  (⟨4, s.extract a j, capV 0 (digs l (i + 1)), capV 0 (digs l (a + 1)), a⟩, j, 0)
theorem ext_list (s : ByteArray) (a b : Nat) : (s.extract a b).data.toList = (s.data.toList.drop a).take (b - a) := by
  rw [ByteArray.data_extract, Array.toList_extract, List.extract_eq_take_drop]
theorem tw_take (p : UInt8 → Bool) : ∀ m : List UInt8, m.take (m.takeWhile p).length = m.takeWhile p
  | [] => rfl
  | c :: r => by
    rw [List.takeWhile_cons]
    split
    · rw [List.length_cons, List.take_succ_cons, tw_take p r]
    · rfl
theorem ext_span (p : UInt8 → Bool) (s : ByteArray) (a : Nat) : (s.extract a (spanL p s.data.toList a)).data.toList = (s.data.toList.drop a).takeWhile p := by
  rw [ext_list]
  unfold spanL
  rw [Nat.add_sub_cancel_left, tw_take]
theorem digs_all (l : List UInt8) (a : Nat) : ∀ c ∈ digs l a, dig c = true := by
  unfold digs
  intro c hc
  generalize l.drop a = m at hc
  induction m with
  | nil => cases hc
  | cons d r ih =>
    rw [List.takeWhile_cons] at hc
    split at hc
    · rename_i h
      rcases List.mem_cons.1 hc with rfl | hc
      · exact h
      · exact ih hc
    · cases hc
/-- A row of digits as a number. -/
theorem numAt (s : ByteArray) (hs : s.size ≤ 281474976710656) (a : Nat) (hne : spanL dig s.data.toList a ≠ a) : ∃ n : Int, (okD (digs s.data.toList a) = true → n = (capV 0 (digs s.data.toList a) : Int)) ∧ ∀ ob pb, Gives env2 353 [.str (s.extract a (spanL dig s.data.toList a))] ob pb (.tup [.int .i64 n, .bool (okD (digs s.data.toList a))], ob) := by
  have e : (s.extract a (spanL dig s.data.toList a)).data.toList = digs s.data.toList a := ext_span dig s a
  have h := num_ok (s.extract a (spanL dig s.data.toList a)) (by
    rw [← len_eq, e]
    have h1 := (List.takeWhile_sublist (l := s.data.toList.drop a) dig).length_le
    rw [List.length_drop, len_eq] at h1
    unfold digs; omega) (by
    rw [e]; intro h; apply hne
    show a + (digs s.data.toList a).length = a
    rw [h]; rfl) (by rw [e]; exact digs_all _ _)
  rw [e] at h
  exact h
theorem glob_ok (s : ByteArray) (hs : s.size ≤ 281474976710656) (a : Nat) (ha : a < s.size) (ob : Obs) (pb : Nat) : Gives env2 351 [.str s, .int .i64 a] ob pb (Nx.lv .u8 (globS s a), ob) := by
  have hlen := len_eq s
  have g1 := fun ob pb => span_ok 348 dig dig_ok s (by omega) (a + 1) ob pb
  have q1 := span_le (p := dig) (l := s.data.toList) (i := a + 1)
  have e1 : IntKind.i64.wrap ((a : Int) + 1) = ((a + 1 : Nat) : Int) := by rw [wrap64] <;> omega
  obtain ⟨r, hr⟩ : ∃ r, r = globS s a := ⟨_, rfl⟩
  rw [← hr]
  unfold globS at hr
  dsimp only at hr
  have hn1 := numAt s hs (a + 1)
  generalize hi : spanL dig s.data.toList (a + 1) = i at g1 q1 hr hn1
  have e2 : IntKind.i64.wrap ((i : Int) + 1) = ((i + 1 : Nat) : Int) := by rw [wrap64] <;> omega
  have g2 := fun ob pb => span_ok 348 dig dig_ok s (by omega) (i + 1) ob pb
  have q2 := span_le (p := dig) (l := s.data.toList) (i := i + 1)
  have hn2 := numAt s hs (i + 1)
  generalize hj : spanL dig s.data.toList (i + 1) = j at g2 q2 hr hn2
  generalize okD (digs s.data.toList (a + 1)) = o1 at hr hn1
  generalize okD (digs s.data.toList (i + 1)) = o2 at hr hn2
  generalize capV 0 (digs s.data.toList (a + 1)) = v1 at hr hn1
  generalize capV 0 (digs s.data.toList (i + 1)) = v2 at hr hn2
  refine gives_code (f := tf351) rfl ?_
  conv => whnf
  rw [e1]
  refine ⟨_, _, g1 _ _, fun _ => rfl, ?_⟩
  conv => whnf
  rw [e1]
  have bad : i = a + 1 ∨ (s.data.toList[i]?.map (·.toNat)) ≠ some 95 → r = (tk0, a, 20) := fun h => by rw [hr, if_pos h]
  refine sel_split (fun h => ?_) (fun h => ?_)
  · conv => whnf
    rw [bad (.inl (by simp at h; omega))]
    exact ⟨rfl, rfl, rfl⟩
  conv => whnf
  have h1 : i ≠ a + 1 := by intro e; subst e; simp at h
  refine sel_split (fun h => ?_) (fun h => ?_)
  · conv => whnf
    have h : i = s.size := by simp at h; omega
    rw [bad (.inr (by rw [List.getElem?_eq_none (by omega)]; simp))]
    exact ⟨rfl, rfl, rfl⟩
  conv => whnf
  have h2 : i ≠ s.size := by intro e; subst e; simp at h
  obtain ⟨b, hb⟩ : ∃ b, s.data.toList[i]? = some b := ⟨_, List.getElem?_eq_getElem (show i < s.data.toList.length by omega)⟩
  refine ⟨b, ⟨by omega, hb⟩, ?_⟩
  conv => whnf
  refine sel_split (fun h => ?_) (fun h => ?_)
  · conv => whnf
    rw [bad (.inr (by rw [hb]; simp at h ⊢; omega))]
    exact ⟨rfl, rfl, rfl⟩
  conv => whnf
  rw [if_neg (by rw [hb]; simp at h ⊢; exact ⟨h1, by omega⟩)] at hr
  rw [e2]
  refine ⟨_, _, g2 _ _, fun _ => rfl, ?_⟩
  conv => whnf
  rw [e2]
  refine sel_split (fun h => ?_) (fun h => ?_)
  · conv => whnf
    rw [if_pos (by simp at h; omega)] at hr
    subst hr
    exact ⟨rfl, rfl, rfl⟩
  have h3 : j ≠ i + 1 := by intro e; subst e; simp at h
  rw [if_neg h3] at hr
  conv => whnf
  rw [e1]
  obtain ⟨n1, m1, gn1⟩ := hn1 h1
  obtain ⟨n2, m2, gn2⟩ := hn2 h3
  refine ⟨s.extract (a + 1) i, ⟨⟨by omega, by omega, by omega⟩, rfl⟩, ?_⟩
  conv => whnf
  refine ⟨_, _, gn1 _ _, fun _ => rfl, ?_⟩
  conv => whnf
  rw [e2]
  refine ⟨s.extract (i + 1) j, ⟨⟨by omega, by omega, by omega⟩, rfl⟩, ?_⟩
  conv => whnf
  refine ⟨_, _, gn2 _ _, fun _ => rfl, ?_⟩
  cases o1 with
  | false =>
    conv => whnf
    rw [if_pos (by simp)] at hr; subst hr
    exact ⟨rfl, rfl, rfl⟩
  | true =>
    cases o2 with
    | false =>
      conv => whnf
      rw [if_pos (by simp)] at hr; subst hr
      exact ⟨rfl, rfl, rfl⟩
    | true =>
      conv => whnf
      rw [if_neg (by simp)] at hr; subst hr
      refine ⟨s.extract a j, ⟨⟨by omega, by omega, by omega⟩, rfl⟩, ?_⟩
      rw [m1 rfl, m2 rfl]
      conv => whnf
      exact ⟨rfl, rfl, rfl⟩
end Tree.X02
