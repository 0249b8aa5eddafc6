/- Layer 6: heaps, of the program and of the document: what is read of them. -/
import Derived.Test.YtphdgjglofapbaaDoorTLe
import Derived.Test.YtphdgjglofapbaaDoorTLb
import Derived.Test.YtphdgjglofapbaaDoorMapE
import Derived.Test.YtphdgjglofapbaaDoorTW
set_option autoImplicit false
set_option linter.unusedVariables false
set_option linter.unusedSimpArgs false
namespace Tree.H6
open Go
set_option maxHeartbeats 8000000
set_option maxRecDepth 100000
/-- Which values variables have. -/
abbrev Mp := NV → Option (List C)
def lessN (a b : NV) : Prop := a.1 < b.1 ∨ a.1 = b.1 ∧ a.2 < b.2
instance (a b : NV) : Decidable (lessN a b) := by unfold lessN; exact inferInstance
def nxt (M : Mp) : List C → Option (List C)
  | [c] => if c.k = 4 then M (c.node, c.num) else none
  | _ => none
inductive Dr (M : Mp) : List C → List C → Prop
  | stop {cs : List C} (h : nxt M cs = none) : Dr M cs cs
  | step {cs u v : List C} (h : nxt M cs = some u) (h2 : Dr M u v) : Dr M cs v
theorem Dr.inv {M : Mp} {cs u v : List C} (h : Dr M cs v) (hn : nxt M cs = some u) : Dr M u v := by
  cases h with
  | stop h => rw [hn] at h; cases h
  | step h h2 => rw [hn] at h; cases h; exact h2
theorem Dr.fin {M : Mp} {cs v : List C} (h : Dr M cs v) (hn : nxt M cs = none) : v = cs := by
  cases h with
  | stop h => rfl
  | step h h2 => rw [hn] at h; cases h
structure MOk (M : Mp) : Prop where
  keys : ∃ K : List NV, ∀ k, (M k).isSome = true → k ∈ K
  glob : ∀ k cs, M k = some cs → GlobalP cs ∧ ∀ c ∈ cs, c.fine
  less : ∀ k c, M k = some [c] → c.k = 4 → lessN (c.node, c.num) k
def rk (K : List NV) (v : NV) : Nat := K.countP fun x => decide (¬ lessN v x)
theorem countP_lt {α : Type} {p q : α → Bool} : ∀ {l : List α}, (∀ x ∈ l, p x = true → q x = true) → (∃ x ∈ l, q x = true ∧ p x = false) → l.countP p < l.countP q
  | [], _, ⟨x, hx, _⟩ => by cases hx
  | a :: l, h, ⟨x, hx, h1, h2⟩ => by
    have hle : l.countP p ≤ l.countP q := List.countP_mono_left fun x hx => h x (List.mem_cons_of_mem _ hx)
    have ha := h a (List.mem_cons_self ..)
    rcases List.mem_cons.1 hx with rfl | hx
    · rw [List.countP_cons_of_pos h1, List.countP_cons_of_neg (by simp [h2])]; omega
    · have ih := countP_lt (l := l) (fun x hx => h x (List.mem_cons_of_mem _ hx)) ⟨x, hx, h1, h2⟩
      rw [List.countP_cons, List.countP_cons]
      cases hp : p a
      · simp; omega
      · simp [ha hp]; exact ih
theorem rk_lt {K : List NV} {u k : NV} (hk : k ∈ K) (h : lessN u k) : rk K u < rk K k := by
  unfold rk
  refine countP_lt (fun x _ hx => ?_) ⟨k, hk, ?_, ?_⟩
  · simp only [decide_eq_true_eq] at hx ⊢
    unfold lessN at *; omega
  · simp only [decide_eq_true_eq]; unfold lessN; omega
  · simp only [decide_eq_false_iff_not, Decidable.not_not]; exact h
/-- How far a term can lead. -/
def mz (K : List NV) : List C → Nat
  | [c] => if c.k = 4 then rk K (c.node, c.num) + 1 else 0
  | _ => 0
theorem nxt_some {M : Mp} {cs u : List C} (h : nxt M cs = some u) : ∃ c, cs = [c] ∧ c.k = 4 ∧ M (c.node, c.num) = some u := by
  unfold nxt at h
  split at h
  · split at h
    · exact ⟨_, rfl, ‹_›, h⟩
    · cases h
  · cases h
theorem mz_lt {M : Mp} (hM : MOk M) {K : List NV} (hK : ∀ k, (M k).isSome = true → k ∈ K) {cs u : List C} (h : nxt M cs = some u) : mz K u < mz K cs := by
  obtain ⟨c, rfl, hk, hm⟩ := nxt_some h
  have e : mz K [c] = rk K (c.node, c.num) + 1 := by simp only [mz, hk, if_true]
  rw [e]
  match u with
  | [] => exact Nat.succ_pos _
  | [d] =>
    by_cases hd : d.k = 4
    · have e2 : mz K [d] = rk K (d.node, d.num) + 1 := by simp only [mz, hd, if_true]
      have := rk_lt (hK _ (by rw [hm]; rfl)) (hM.less _ _ hm hd)
      omega
    · have e2 : mz K [d] = 0 := by simp only [mz, hd, if_false]
      omega
  | _ :: _ :: _ => exact Nat.succ_pos _
theorem dr_ex {M : Mp} (hM : MOk M) : ∀ cs, ∃ v, Dr M cs v := by
  obtain ⟨K, hK⟩ := hM.keys
  have : ∀ (n : Nat) (cs : List C), mz K cs ≤ n → ∃ v, Dr M cs v := by
    intro n
    induction n with
    | zero =>
      intro cs h
      cases hn : nxt M cs with
      | none => exact ⟨cs, .stop hn⟩
      | some u => have := mz_lt hM hK hn; omega
    | succ n ih =>
      intro cs h
      cases hn : nxt M cs with
      | none => exact ⟨cs, .stop hn⟩
      | some u =>
        have := mz_lt hM hK hn
        obtain ⟨v, hv⟩ := ih u (by omega)
        exact ⟨v, .step hn hv⟩
  exact fun cs => this _ cs (Nat.le_refl _)
/-- What holds of a term and stays where values are followed. -/
theorem dr_good {M : Mp} (hM : MOk M) {cs v : List C} (h : Dr M cs v) (hcs : RightP cs ∧ ∀ c ∈ cs, c.fine) : RightP v ∧ ∀ c ∈ v, c.fine := by
  induction h with
  | stop h => exact hcs
  | step h h2 ih =>
    obtain ⟨c, rfl, hk, hm⟩ := nxt_some h
    have := hM.glob _ _ hm
    exact ih ⟨this.1.1, this.2⟩
/-- The program's heap. -/
structure HpP (ob : Obs) (id w : Nat) (c : Int) (es : List En) (M : Mp) : Prop where
  hid : ob[id]? = some [.mref w]
  hw : ob[w]? = some (mE c es)
  hl : ∀ k, lk es k = (M k).map fun cs => sl5 false 0 cs []
def PtrP (ob : Obs) (p : LV) (M : Mp) : Prop := (p = .nilptr ∧ ∀ k, M k = none) ∨ ∃ id w c es, p = .optr id 0 ∧ HpP ob id w c es M
def nv : Option (List C) → LV
  | none => sl5 false 0 [] []
  | some u => sl5 false 0 u []
theorem value_nil (ob : Obs) (k : NV) (pb : Nat) : Gives env6 253 [.nilptr, nm k.1 k.2] ob pb (.tup [nv none, .bool false], ob) := by
  refine gives_code (f := tf253) rfl ?_
  conv => whnf
  exact ⟨rfl, rfl, rfl⟩
theorem value_some {ob : Obs} {M : Mp} {id w : Nat} {c : Int} {es : List En} (h : HpP ob id w c es M) (k : NV) (pb : Nat) : Gives env6 253 [.optr id 0, nm k.1 k.2] ob pb (.tup [nv (M k), .bool (M k).isSome], ob) := by
  have e := h.hl k
  refine gives_code (f := tf253) rfl ?_
  conv => whnf
  refine ⟨_, _, ⟨h.hid, rfl, rfl⟩, ?_⟩
  conv => whnf
  refine ⟨_, _, look_of h.hw _ k, ?_⟩
  rw [e]
  generalize M k = m
  cases m with
  | none =>
    conv => whnf
    exact ⟨rfl, rfl, rfl⟩
  | some u =>
    conv => whnf
    exact ⟨rfl, rfl, rfl⟩
theorem value_ok {ob : Obs} {p : LV} {M : Mp} (h : PtrP ob p M) (k : NV) (pb : Nat) : Gives env6 253 [p, nm k.1 k.2] ob pb (.tup [nv (M k), .bool (M k).isSome], ob) := by
  rcases h with ⟨rfl, hM⟩ | ⟨id, w, c, es, rfl, h⟩
  · have := value_nil ob k pb
    rw [hM]; exact this
  · exact value_some h k pb
def isPtr (p : LV) : Prop := p = .nilptr ∨ ∃ id, p = .optr id 0
theorem PtrP.ptr {ob : Obs} {p : LV} {M : Mp} (h : PtrP ob p M) : isPtr p := by
  rcases h with ⟨rfl, _⟩ | ⟨id, w, c, es, rfl, _⟩
  · exact .inl rfl
  · exact .inr ⟨id, rfl⟩
section
variable {ob : Obs} {p : LV} {M : Mp} (hp : isPtr p) (hv : ∀ (k : NV) (pb : Nat), Gives env6 253 [p, nm k.1 k.2] ob pb (.tup [nv (M k), .bool (M k).isSome], ob))
include hp hv
theorem next_ok (lab : Nat) (cs : List C) (sp : List (List LV)) (pb : Nat) : Gives env6 271 [p, sl5 false lab cs sp] ob pb (.tup [nv (nxt M cs), .bool (nxt M cs).isSome], ob) := by
  have hlen : (cs.map C.row).length = cs.length := by simp
  rcases hp with rfl | ⟨id, rfl⟩
  all_goals
    refine gives_code (f := tf271) rfl ?_
    conv => whnf
    refine sel_split (fun h1 => ?_) (fun h1 => ?_)
    · conv => whnf
      have hn : nxt M cs = none := by
        match cs, h1 with
        | [], _ => rfl
        | [c], h1 => simp at h1
        | _ :: _ :: _, _ => rfl
      rw [hn]
      conv => whnf
      exact ⟨rfl, rfl, rfl⟩
    · conv => whnf
      obtain ⟨c, rfl⟩ : ∃ c, cs = [c] := by
        match cs, h1 with
        | [], h1 => simp at h1
        | [c], h1 => exact ⟨c, rfl⟩
        | a :: b :: r, h1 => simp at h1; omega
      refine ⟨_, ⟨by omega, idx_row (cs := [c]) (i := 0) rfl⟩, ?_⟩
      conv => whnf
      refine sel_split (fun h2 => ?_) (fun h2 => ?_)
      · conv => whnf
        have h2 : c.k ≠ 4 := by simpa using h2
        have hn : nxt M [c] = none := by simp [nxt, h2]
        rw [hn]
        conv => whnf
        exact ⟨rfl, rfl, rfl⟩
      · conv => whnf
        have h2 : c.k = 4 := by simpa using h2
        have hn : nxt M [c] = M (c.node, c.num) := by simp [nxt, h2]
        rw [hn]
        refine ⟨_, ⟨by omega, idx_row (cs := [c]) (i := 0) rfl⟩, ?_⟩
        conv => whnf
        refine ⟨_, _, hv (c.node, c.num) _, fun _ => ?_, ?_⟩
        · generalize M (c.node, c.num) = m
          cases m with
          | none => rfl
          | some u => simp [nv, LV.noRef, LV.noRefs, LV.noRefss, noRef_rows]
        generalize M (c.node, c.num) = m
        cases m with
        | none =>
          conv => whnf
          exact ⟨rfl, rfl, rfl⟩
        | some u =>
          conv => whnf
          exact ⟨rfl, rfl, rfl⟩
theorem follow_ok (hM : MOk M) (lab : Nat) (cs fin : List C) (sp : List (List LV)) (hd : Dr M cs fin) (pb : Nat) : Gives env6 267 [p, sl5 false lab cs sp] ob pb (if (nxt M cs).isSome then sl5 false 0 fin [] else sl5 false lab fin sp, ob) := by
  obtain ⟨K, hK⟩ := hM.keys
  have hN := next_ok hp hv
  have hnr : ∀ (o : Option (List C)) (n : Nat), LV.noRef n (.tup [nv o, .bool o.isSome]) = true := by
    intro o n
    cases o with
    | none => rfl
    | some u => simp [nv, LV.noRef, LV.noRefs, LV.noRefss, noRef_rows]
  clear hv
  have hP : ∀ o : Option (List C), nxt M cs = o → o = nxt M cs := fun o e => e.symm
  rcases hp with rfl | ⟨id, rfl⟩
  all_goals
    refine gives_code (f := tf267) rfl ?_
    conv => whnf
    refine ⟨_, _, hN lab cs sp _, fun _ => hnr _ _, ?_⟩
    cases ho : nxt M cs with
    | none =>
      conv => whnf
      refine loop_v (V := fun _ : Unit => []) (O := fun _ => ob) (m := fun _ => 0) (P := fun _ => True) ?_ () trivial rfl
      intro R i hi hN' hE hR
      conv => whnf
      refine hE _ _ ?_
      obtain rfl := hd.fin ho
      conv => whnf
      exact ⟨rfl, rfl, rfl⟩
    | some u =>
      conv => whnf
      refine loop_v (V := fun i : List C × Option (List C) × Nat × List (List LV) => [(1, sl5 false i.2.2.1 i.1 i.2.2.2), (5, nv i.2.1), (6, .bool i.2.1.isSome)]) (O := fun _ => ob) (m := fun i => mz K i.1) (P := fun i => nxt M i.1 = i.2.1 ∧ Dr M i.1 fin ∧ (i.2.1 = none → i.2.2 = (0, []))) ?_ (cs, some u, lab, sp) ⟨ho, hd, fun e => by cases e⟩ rfl
      rintro R ⟨cur, o, l1, s1⟩ ⟨h1, h2, h3⟩ hN' hE hR
      cases o with
      | none =>
        dsimp only at h1 h2 h3
        conv => whnf
        refine hE _ _ ?_
        obtain rfl := h2.fin h1
        have h3 := h3 rfl
        injection h3 with h3 h4
        subst h3; subst h4
        conv => whnf
        exact ⟨rfl, rfl, rfl⟩
      | some v =>
        dsimp only at h1 h2 h3
        conv => whnf
        refine ⟨_, _, hN 0 v [] _, fun _ => hnr _ _, ?_⟩
        have hlt := mz_lt hM hK h1
        have hd2 := h2.inv h1
        cases ho2 : nxt M v with
        | none =>
          conv => whnf
          exact hN' (v, none, 0, []) _ ⟨ho2, hd2, fun _ => rfl⟩ hlt rfl
        | some w =>
          conv => whnf
          exact hN' (v, some w, 0, []) _ ⟨ho2, hd2, fun e => by cases e⟩ hlt rfl
theorem derefP_ok (hM : MOk M) (lab : Nat) (cs fin : List C) (sp : List (List LV)) (hs : ∀ n, LV.noRefss n sp = true) (hl : cs.length ≤ 1048576) (hd : Dr M cs fin) (pb : Nat) : Gives env6 250 [p, sl5 false lab cs sp] ob pb (sl5 true 0 fin [], ob) := by
  have hF := follow_ok hp hv hM lab cs fin sp hd
  have hfl : fin.length ≤ 1048576 := by
    by_cases h : nxt M cs = none
    · rw [hd.fin h]; exact hl
    · clear hF
      have : ∀ {a b : List C}, Dr M a b → nxt M a ≠ none → b.length ≤ 256 := by
        intro a b h
        induction h with
        | stop h => exact fun e => absurd h e
        | @step cs u v h h2 ih =>
          intro _
          by_cases hu : nxt M u = none
          · rw [h2.fin hu]
            obtain ⟨c, rfl, hk, hm⟩ := nxt_some h
            exact (hM.glob _ _ hm).1.1.2.1
          · exact ih hu
      have := this hd h
      omega
  have hlen : (fin.map C.row).length = fin.length := by simp
  clear hv
  rcases hp with rfl | ⟨id, rfl⟩
  all_goals
    refine gives_code (f := tf250) rfl ?_
    conv => whnf
    refine ⟨_, _, hF _, fun _ => ?_, ?_⟩
    · split
      · exact noRef5 _ _ _ _
      · simp only [LV.noRef, noRef_rows, hs, Bool.and_self]
    cases ho : nxt M cs with
    | none =>
      conv => whnf
      refine ⟨_, _, gives_ext (F := cloneF 5 48) (r := sl5 true 0 fin []) rfl ?_, fun _ => noRef5 _ _ _ _, ?_⟩
      · simp only [cloneF, cloneF0]
        rw [if_pos ⟨trivial, by rw [List.length_map]; unfold maxLen; omega, by rw [List.length_map]; omega⟩]
      conv => whnf
      exact ⟨rfl, rfl, rfl⟩
    | some u =>
      conv => whnf
      refine ⟨_, _, gives_ext (F := cloneF 5 48) (r := sl5 true 0 fin []) rfl ?_, fun _ => noRef5 _ _ _ _, ?_⟩
      · simp only [cloneF, cloneF0]
        rw [if_pos ⟨trivial, by rw [List.length_map]; unfold maxLen; omega, by rw [List.length_map]; omega⟩]
      conv => whnf
      exact ⟨rfl, rfl, rfl⟩
end
end Tree.H6
