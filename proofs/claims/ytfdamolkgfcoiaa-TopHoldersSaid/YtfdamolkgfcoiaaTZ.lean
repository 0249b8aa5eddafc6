/- A call whose result is frozen: what it made stays as it is, and nothing of it is an object any more. -/
import Derived.Test.YtfdamolkgfcoiaaTE
import Derived.Test.YtfdamolkgfcoiaaTW
set_option autoImplicit false
set_option linter.unusedVariables false
set_option linter.unusedSimpArgs false
namespace Tree
open Go

def frzRows (cs : List LV) (off cap sz : Nat) : List (List LV) := (List.range cap).map fun i => ((cs.drop (off + i * sz)).take sz).map LV.bare1
def frz (ob : Obs) : LV → Option LV
  | .msl id off len cap sz => match ob[id]? with
    | some cs => if isMapC cs = false ∧ off + cap * sz ≤ cs.length ∧ len ≤ cap ∧ LV.noRefs 0 cs = true then some (.sl false 0 sz ((frzRows cs off cap sz).take len) ((frzRows cs off cap sz).drop len)) else none
    | none => none
  | v => if v.noRef 0 then some v.bare else none

def unobj : Kd → Kd
  | .obj _ => .other
  | .tail ⟨.obj _, _⟩ => .other
  | k => k
section
variable {T : Tab} {E : Env} {pb : Nat} {m m' : Mem}
open Classical in
noncomputable def Mem.back (m m' : Mem) (B : Option Nat) : Mem :=
  { w := m'.w, ob := m.ob, n := m.n,
    k := fun b o => if b < m.w.heap.size then (match m.k b o with
        | .obj i => .obj i
        | .tail ⟨.obj i, c⟩ => .tail ⟨.obj i, c⟩
        | _ => m'.k b o)
      else if B = some b then .imm 0 else unobj (m'.k b o) }
end
end Tree

set_option autoImplicit false
set_option linter.unusedVariables false
set_option linter.unusedSimpArgs false
namespace Tree
open Go
/-- The result, frozen; n0: how many objects there were. -/
def frzO (n0 : Nat) (ob : Obs) : LV → Option LV
  | .msl id off len cap sz => if n0 ≤ id then match ob[id]? with
    | some cs => if isMapC cs = false ∧ off + cap * sz ≤ cs.length ∧ len ≤ cap ∧ LV.noRefs n0 cs = true then some (.sl (len == cap) 0 sz ((frzRows cs off cap sz).take len) ((frzRows cs off cap sz).drop len)) else none
    | none => none
    else none
  | v => if v.noRef n0 then some v else none
/-- Objects from number n on are nobody's. -/
def lowobj (n : Nat) : Kd → Kd
  | .obj i => if i < n then .obj i else .other
  | .tail ⟨.obj i, c⟩ => if i < n then .tail ⟨.obj i, c⟩ else .other
  | k => k
section
variable {T : Tab} {E : Env} {pb : Nat} {m m' : Mem}
theorem lowobj_obj {n i : Nat} (h : i < n) : lowobj n (.obj i) = .obj i := by simp [lowobj, h]
theorem lowobj_tail {n i : Nat} {c : Option Nat} (h : i < n) : lowobj n (.tail ⟨.obj i, c⟩) = .tail ⟨.obj i, c⟩ := by simp [lowobj, h]
def Mem.low (m : Mem) : Mem := m.ren (lowobj m.n)
open Classical in
noncomputable def Mem.backO (m m' : Mem) (B : Option Nat) : Mem :=
  { w := m'.w, ob := m.ob, n := m.n,
    k := fun b o => if b < m.w.heap.size then (match m.k b o with
        | .obj i => .obj i
        | .tail ⟨.obj i, c⟩ => .tail ⟨.obj i, c⟩
        | _ => m'.k b o)
      else if B = some b then .imm 0 else unobj (m'.k b o) }
theorem backO_old {B : Option Nat} (hP : Post m.n m.low m') {b o : Nat} (hb : b < m.w.heap.size) (hk : m.k b o = .other ∨ (∃ l, m.k b o = .imm l) ∨ (∃ i, m.k b o = .obj i) ∨ ∃ i c, m.k b o = .tail ⟨.obj i, c⟩) : (m.backO m' B).k b o = m.k b o := by
  have hkind : ∀ x, lowobj m.n (m.k b o) = x → (x = .other ∨ ∃ l, x = .imm l) → m'.k b o = x := by
    intro x hx hx'
    have := hP.kind b o hb (by
      show lowobj m.n (m.k b o) = .other ∨ _
      rcases hx' with e | ⟨l, e⟩
      · exact .inl (hx.trans e)
      · exact .inr (.inl ⟨l, hx.trans e⟩))
    rw [this]; exact hx
  show (if b < m.w.heap.size then _ else _) = _
  rw [if_pos hb]
  rcases hk with e | ⟨l, e⟩ | ⟨i, e⟩ | ⟨i, c, e⟩
  · rw [e]; exact hkind _ (by rw [e]; rfl) (.inl rfl)
  · rw [e]; exact hkind _ (by rw [e]; rfl) (.inr ⟨l, rfl⟩)
  · rw [e]
  · rw [e]
theorem backO_imm {B : Option Nat} (hP : Post m.n m.low m') (hB : ∀ b, B = some b → ∀ o l, m'.k b o ≠ .imm l) {b o l : Nat} (hk : m'.k b o = .imm l) : (m.backO m' B).k b o = .imm l := by
  show (if b < m.w.heap.size then _ else _) = _
  by_cases hb : b < m.w.heap.size
  · rw [if_pos hb]
    have hno : ∀ x, lowobj m.n (m.k b o) = x → (x = .other ∨ (∃ i, x = .obj i) ∨ ∃ i c, i < m.n ∧ x = .tail ⟨.obj i, c⟩) → False := by
      intro x hx hx'
      have := hP.kind b o hb (by
        show lowobj m.n (m.k b o) = .other ∨ _
        rcases hx' with e | ⟨i, e⟩ | ⟨i, c, hi, e⟩
        · exact .inl (hx.trans e)
        · exact .inr (.inr (.inl ⟨i, hx.trans e⟩))
        · exact .inr (.inr (.inr ⟨i, c, hi, hx.trans e⟩)))
      rw [hk] at this
      have this : Kd.imm l = x := this.trans hx
      rcases hx' with e | ⟨i, e⟩ | ⟨i, c, hi, e⟩ <;> rw [e] at this <;> cases this
    split
    · rename_i i e
      by_cases hi : i < m.n
      · exact (hno _ (by rw [e]; exact lowobj_obj hi) (.inr (.inl ⟨i, rfl⟩))).elim
      · exact (hno .other (by rw [e]; simp [lowobj, hi]) (.inl rfl)).elim
    · rename_i i c e
      by_cases hi : i < m.n
      · exact (hno _ (by rw [e]; exact lowobj_tail hi) (.inr (.inr ⟨i, c, hi, rfl⟩))).elim
      · exact (hno .other (by rw [e]; simp [lowobj, hi]) (.inl rfl)).elim
    · exact hk
  · rw [if_neg hb, if_neg (fun e => hB b e o l hk), hk]; rfl
/-- An object's block stays as it is. -/
theorem backO_heap (hP : Post m.n m.low m') {b : Nat} (hb : b < m.w.heap.size) (hk : ∀ o, ∃ i, i < m.n ∧ m.k b o = .obj i) : m'.w.heap[b]? = m.w.heap[b]? := by
  have hk' : ∀ o, ∃ i, i < m.n ∧ m.low.k b o = .obj i := fun o => by
    obtain ⟨i, hi, e⟩ := hk o
    exact ⟨i, hi, by show lowobj m.n (m.k b o) = _; rw [e]; exact lowobj_obj hi⟩
  rcases hP.keep b hb with e | ⟨vs, vs', ty, e1, e2, e3, e4⟩ | ⟨es, es', e1, e2, e5, e3⟩
  · exact e
  · have : vs' = vs := by
      apply Array.ext_getElem?; intro o
      obtain ⟨i, hi, e⟩ := hk' o
      exact e4 o (.inr (.inr ⟨i, hi, .inl e⟩))
    subst this; exact e2.trans e1.symm
  · obtain ⟨i, hi, e⟩ := hk' 0
    exact absurd (.inr (.inr ⟨i, hi, e⟩)) e3
theorem backO_post {B : Option Nat} (hP : Post m.n m.low m') : Post pb m (m.backO m' B) := by
  refine ⟨hP.os, hP.tape, hP.output, hP.size, fun b hb => ?_, fun b o hb hk => ?_, Nat.le_refl _, fun _ _ => rfl, fun _ h1 h2 => absurd h1 (Nat.not_le.2 h2)⟩
  · have obj : ∀ o id, (m.k b o = .obj id ∨ ∃ c, m.k b o = .tail ⟨.obj id, c⟩) → m.low.k b o = .other ∨ (∃ l, m.low.k b o = .imm l) ∨ ∃ id, id < m.n ∧ (m.low.k b o = .obj id ∨ ∃ c, m.low.k b o = .tail ⟨.obj id, c⟩) := by
      intro o id ho
      by_cases hi : id < m.n
      · rcases ho with ho | ⟨c, ho⟩
        · exact .inr (.inr ⟨id, hi, .inl (by show lowobj m.n (m.k b o) = _; rw [ho]; exact lowobj_obj hi)⟩)
        · exact .inr (.inr ⟨id, hi, .inr ⟨c, by show lowobj m.n (m.k b o) = _; rw [ho]; exact lowobj_tail hi⟩⟩)
      · refine .inl ?_
        show lowobj m.n (m.k b o) = _
        rcases ho with ho | ⟨c, ho⟩ <;> rw [ho] <;> simp [lowobj, hi]
    rcases hP.keep b hb with e | ⟨vs, vs', ty, e1, e2, e3, e4⟩ | ⟨es, es', e1, e2, e5, e3⟩
    · exact .inl e
    · refine .inr (.inl ⟨vs, vs', ty, e1, e2, e3, fun o ho => e4 o ?_⟩)
      rcases ho with ho | ⟨l, ho⟩ | ⟨id, _, ho⟩
      · exact .inl (by show lowobj m.n (m.k b o) = _; rw [ho]; rfl)
      · exact .inr (.inl ⟨l, by show lowobj m.n (m.k b o) = _; rw [ho]; rfl⟩)
      · exact obj o id ho
    · refine .inr (.inr ⟨es, es', e1, e2, e5, fun ho => e3 ?_⟩)
      rcases ho with ho | ⟨l, ho⟩ | ⟨id, _, ho⟩
      · exact .inl (by show lowobj m.n (m.k b 0) = _; rw [ho]; rfl)
      · exact .inr (.inl ⟨l, by show lowobj m.n (m.k b 0) = _; rw [ho]; rfl⟩)
      · by_cases hi : id < m.n
        · exact .inr (.inr ⟨id, hi, by show lowobj m.n (m.k b 0) = _; rw [ho]; exact lowobj_obj hi⟩)
        · exact .inl (by show lowobj m.n (m.k b 0) = _; rw [ho]; simp [lowobj, hi])
  · refine backO_old hP hb ?_
    rcases hk with h | h | h | ⟨i, c, _, h⟩
    · exact .inl h
    · exact .inr (.inl h)
    · exact .inr (.inr (.inl h))
    · exact .inr (.inr (.inr ⟨i, c, h⟩))
theorem backO_objs {B : Option Nat} {ob : Obs} (hP : Post m.n m.low m') (hO : ObjsOk T ob m) : ObjsOk T ob (m.backO m' B) := by
  have hle := (backO_post (pb := 0) (B := B) hP).le
  have hid : ∀ (id : Nat) (cs : List LV), ob[id]? = some cs → id < m.n := fun id cs hi => by rw [hO.n]; exact (List.getElem?_eq_some_iff.1 hi).1
  have hheap : ∀ (id : Nat) (cs : List LV), ob[id]? = some cs → (m.backO m' B).w.heap[m.ob id]? = m.w.heap[m.ob id]? := by
    intro id cs hi
    have hob := hO.obj id cs hi
    exact backO_heap hP hob.lt (fun o => ⟨id, hid id cs hi, hob.class o⟩)
  refine ⟨hO.n, fun id cs hi => ?_, fun id i l z xs sp cs hi hc => ?_⟩
  · have hob := hO.obj id cs hi
    have hk : ∀ o, (m.backO m' B).k (m.ob id) o = .obj id := fun o => by rw [backO_old hP hob.lt (.inr (.inr (.inl ⟨id, hob.class o⟩)))]; exact hob.class o
    rcases hob with ⟨g, vs, ty, h1, h2, h3, h4⟩ | hb
    · exact .inl ⟨g, vs, ty, (hheap id cs hi).trans h1, h2, hk, fun j lv hj => ⟨(h4 j lv hj).1, (h4 j lv hj).2.mono hle⟩⟩
    · exact .inr (hb.mono (hheap id cs hi) hk hle)
  · obtain ⟨v, h1, h2⟩ := hO.own id i l z xs sp cs hi hc
    refine ⟨v, ?_, fun b o hbo => ?_⟩
    · have : (m.backO m' B).w.cell? ⟨m.ob id, i, none⟩ = m.w.cell? ⟨m.ob id, i, none⟩ := World.cell?_of_block (hheap id cs hi)
      exact this.trans h1
    · obtain ⟨k1, vs, ty, k2, k3⟩ := h2 b o hbo
      have hlt := heap_lt k2
      refine ⟨by rw [backO_old hP hlt (.inr (.inr (.inr ⟨_, _, k1⟩)))]; exact k1, ?_⟩
      rcases hP.keep b hlt with e | ⟨us, us', ty', e1, e2, e3, e4⟩ | ⟨es, es', e1, e2, e5, e3⟩
      · exact ⟨vs, ty, e.trans k2, k3⟩
      · have e1' : m.w.heap[b]? = some (.cells us ty' (0, 0)) := e1
        rw [k2] at e1'; injection e1' with e1'; injection e1' with e5 e6; subst e5; subst e6
        exact ⟨us', ty, e2, by rw [e3]; exact k3⟩
      · have e1' : m.w.heap[b]? = some es := e1
        rw [k2] at e1'; injection e1' with e1'; subst e1'; cases e5.1
theorem backO_rep {B : Option Nat} (hP : Post m.n m.low m') (hB : ∀ b, B = some b → ∀ o l, m'.k b o ≠ .imm l) {lv : LV} {v : Value} (h : Rep T m' lv v) (hn : lv.noRef m.n = true) : Rep T (m.backO m' B) lv v := by
  let m2 : Mem := { m.backO m' B with ob := m'.ob, n := m.n }
  have h2 : Rep T m2 lv v := rep_noRef (m := m') (m2 := m2) rfl rfl (fun b o l hk => backO_imm hP hB hk) h hn
  have hle : m2.le (m.backO m' B) := ⟨fun b o l v hc hk => ⟨hk, hc⟩, Nat.le_refl _, fun id hi => (hP.ob id hi).symm⟩
  exact h2.mono hle

theorem backO_res (hP : Post m.n m.low m') {b o : Nat} {c : Option Nat} (hk : m'.k b o = .res c) : (m.backO m' none).k b o = .res c := by
  show (if b < m.w.heap.size then _ else _) = _
  by_cases hb : b < m.w.heap.size
  · rw [if_pos hb]
    have hno : ∀ x, lowobj m.n (m.k b o) = x → (x = .other ∨ (∃ i, x = .obj i) ∨ ∃ i c, i < m.n ∧ x = .tail ⟨.obj i, c⟩) → False := by
      intro x hx hx'
      have := hP.kind b o hb (by
        show lowobj m.n (m.k b o) = .other ∨ _
        rcases hx' with e | ⟨i, e⟩ | ⟨i, c, hi, e⟩
        · exact .inl (hx.trans e)
        · exact .inr (.inr (.inl ⟨i, hx.trans e⟩))
        · exact .inr (.inr (.inr ⟨i, c, hi, hx.trans e⟩)))
      rw [hk] at this
      have this : Kd.res c = x := this.trans hx
      rcases hx' with e | ⟨i, e⟩ | ⟨i, c, hi, e⟩ <;> rw [e] at this <;> cases this
    split
    · rename_i i e
      by_cases hi : i < m.n
      · exact (hno _ (by rw [e]; exact lowobj_obj hi) (.inr (.inl ⟨i, rfl⟩))).elim
      · exact (hno .other (by rw [e]; simp [lowobj, hi]) (.inl rfl)).elim
    · rename_i i c e
      by_cases hi : i < m.n
      · exact (hno _ (by rw [e]; exact lowobj_tail hi) (.inr (.inr ⟨i, c, hi, rfl⟩))).elim
      · exact (hno .other (by rw [e]; simp [lowobj, hi]) (.inl rfl)).elim
    · exact hk
  · rw [if_neg hb, if_neg (by simp), hk]; rfl
theorem backO_tail (hP : Post m.n m.low m') {z : Nat} {v : Value} {c : Option Nat} (h : Tail m' z v (.res c)) : Tail (m.backO m' none) z v (.res c) := fun b o ht => by
  obtain ⟨h1, h2⟩ := h b o ht
  exact ⟨backO_res hP h1, h2⟩
theorem backO_owns (hP : Post m.n m.low m') {lv : LV} {v : Value} (h : Owns m' lv v (fun c => .res c)) : Owns (m.backO m' none) lv v (fun c => .res c) := by
  cases lv with
  | sl o l z xs sp => cases o with
    | true => exact backO_tail hP h
    | false => trivial
  | agg cs => intro vs hv i l z xs sp hi; exact backO_tail hP (h vs hv i l z xs sp hi)
  | _ => trivial
/-- A call that writes no object, with its result frozen. -/
theorem callOk_freezeO {g : Nat} {args : List LV} {r r' : LV} {ob ob1 : Obs} (h : CallOk T E g args ob ob.length r ob1) (hf : frzO ob.length ob1 r = some r') (pb : Nat) : CallOk T E g args ob pb r' ob := by
  intro f m vals hfid hG hA hO
  have hmn := hO.n
  have hk0 : ∀ b o l, m.k b o = .imm l → m.low.k b o = .imm l := fun b o l e => by show lowobj m.n (m.k b o) = _; rw [e]; rfl
  have hle0 : m.le m.low := ⟨fun b o l v hc hk => ⟨hk0 b o l hk, hc⟩, Nat.le_refl _, fun _ _ => rfl⟩
  have hA0 : ArgsOk T m.low args vals := by
    refine ⟨hA.1, fun j lv hj => ?_⟩
    obtain ⟨h1, h2⟩ := hA.2 j lv hj
    exact ⟨h1.mono hle0, h2.ren (lowobj m.n)⟩
  have hG0 : Globs T E.gl m.low := hG.mono hle0
  have hO0 : ObjsOk T ob m.low := by
    have hid : ∀ (id : Nat) (cs : List LV), ob[id]? = some cs → id < m.n := fun id cs hi => by rw [hmn]; exact (List.getElem?_eq_some_iff.1 hi).1
    refine ⟨hO.n, fun id cs hi => (hO.obj id cs hi).ren _ (fun l => rfl) (lowobj_obj (hid id cs hi)), fun id i l z xs sp cs hi hc => ?_⟩
    obtain ⟨v, w1, w2⟩ := hO.own id i l z xs sp cs hi hc
    refine ⟨v, w1, ?_⟩
    have := w2.ren (lowobj m.n)
    rw [lowobj_tail (hid id cs hi)] at this
    exact this
  refine Calls.mono (h f m.low vals hfid hG0 hA0 hO0) (fun e w' he => ?_)
  cases e with
  | returned v =>
    obtain ⟨m', rfl, p1, p2, p3, p4⟩ := he
    rw [← hmn] at p1
    rw [← hmn] at hf
    cases hr : r with
    | msl id off len cap sz =>
      subst hr
      simp only [frzO] at hf
      split at hf
      · rename_i hid0
        split at hf
        · rename_i cs hcs
          split at hf
          · rename_i hc
            obtain ⟨c1, c2, c3, c4⟩ := hc
            injection hf with hf; subst hf
            obtain ⟨vs, ty, b1, b2, b3, b4⟩ := (p2.obj id cs hcs).cells c1
            have hid : id < m'.n := by rw [p2.n]; exact (List.getElem?_eq_some_iff.1 hcs).1
            have hnew : m.w.heap.size ≤ m'.ob id := p1.fresh id hid0 hid
            have hB : ∀ b, some (m'.ob id) = some b → ∀ o l, m'.k b o ≠ .imm l := by
              intro b e o l; injection e with e; subst e; rw [b3]; simp
            have hv : v = .slice (some ⟨m'.ob id, off, none⟩) len cap := by cases p3; rfl
            have hM : cap ≤ maxLen := by cases p3; assumption
            subst hv
            refine ⟨m.backO m' (some (m'.ob id)), rfl, backO_post p1, backO_objs p1 hO, ?_, ?_⟩
            · have hfl : (frzRows cs off cap sz).length = cap := by simp [frzRows]
              have htl : ((frzRows cs off cap sz).take len).length = len := by rw [List.length_take, hfl]; exact Nat.min_eq_left c3
              have hrow : ∀ (i : Nat) (x : List LV), (frzRows cs off cap sz)[i]? = some x → i < cap ∧ x = ((cs.drop (off + i * sz)).take sz).map LV.bare1 := by
                intro i x hx
                have hlt : i < cap := by have := (List.getElem?_eq_some_iff.1 hx).1; rwa [hfl] at this
                rw [frzRows, List.getElem?_map, List.getElem?_range hlt] at hx
                injection hx with hx
                exact ⟨hlt, hx.symm⟩
              have hin : ∀ i, i < cap → off + i * sz + sz ≤ cs.length := by
                intro i hi
                have : i * sz + sz ≤ cap * sz := by rw [← Nat.succ_mul]; exact Nat.mul_le_mul_right _ hi
                omega
              have hcell : ∀ (i j : Nat) (x : List LV) (lv : LV), (frzRows cs off cap sz)[i]? = some x → x[j]? = some lv → ∃ c, cs[off + i * sz + j]? = some c ∧ lv = c.bare1 := by
                intro i j x lv hx hj
                obtain ⟨hi, rfl⟩ := hrow i x hx
                rw [List.getElem?_map] at hj
                obtain ⟨c, hc, rfl⟩ := Option.map_eq_some_iff.1 hj
                have hjs : j < sz := by have := (List.getElem?_eq_some_iff.1 hc).1; simp at this; omega
                rw [List.getElem?_take, if_pos hjs, List.getElem?_drop] at hc
                exact ⟨c, hc, rfl⟩
              have e0 : (frzRows cs off cap sz).take len ++ (frzRows cs off cap sz).drop len = frzRows cs off cap sz := List.take_append_drop _ _
              have := Rep.sl (T := T) (m := m.backO m' (some (m'.ob id))) (len == cap) 0 sz ((frzRows cs off cap sz).take len) ((frzRows cs off cap sz).drop len) (m'.ob id) off cap (fun i j => vs.getD (off + i * sz + j) undef)
                (by rw [e0, hfl]; exact Nat.le_refl _)
                (by
                  rw [e0]; intro x hx
                  obtain ⟨i, hi, rfl⟩ := List.getElem_of_mem hx
                  obtain ⟨h1, h2⟩ := hrow i _ (List.getElem?_eq_getElem hi)
                  have := hin i h1
                  rw [h2]; simp; omega)
                (by
                  rw [e0]; intro i x j lv hx hj
                  obtain ⟨c, h1, h2⟩ := hcell i j x lv hx hj
                  have hlt : off + i * sz + j < vs.size := by rw [b2]; exact (List.getElem?_eq_some_iff.1 h1).1
                  refine ⟨?_, ?_, (b4 _ _ h1).1⟩
                  · show (if m'.ob id < m.w.heap.size then _ else _) = _
                    rw [if_neg (by omega), if_pos rfl]
                  · show m'.w.cell? _ = _
                    simp [World.cell?, b1, Array.getD_eq_getD_getElem?, hlt])
                (by
                  rw [e0]; intro i x j lv hx hj
                  obtain ⟨c, h1, rfl⟩ := hcell i j x lv hx hj
                  exact (backO_rep p1 hB (b4 _ _ h1).2 (noRefs_get _ _ _ c4 h1)).bare1) hM
              rw [htl] at this
              exact this
            · by_cases e : (len == cap) = true
              · rw [e]
                have e : len = cap := by simpa using e
                intro b o ht
                simp only [tail] at ht
                rw [e] at ht
                omega
              · have e : (len == cap) = false := by simpa using e
                rw [e]; trivial
          · cases hf
        · cases hf
      · cases hf
    | _ =>
      subst hr
      simp only [frzO] at hf
      split at hf
      · rename_i hn
        injection hf with hf; subst hf
        exact ⟨m.backO m' none, rfl, backO_post p1, backO_objs p1 hO, backO_rep p1 (by intro b e; cases e) p3 hn, backO_owns p1 p4⟩
      · cases hf
  | panicked ch => exact he.elim
  | outgrown => exact he.elim
end
end Tree

set_option autoImplicit false
set_option linter.unusedVariables false
namespace Tree
open Go
open Classical in
noncomputable def frzF0 (E0 : Env) (g : Nat) (args : List LV) : Option LV :=
  if h : LV.noRefs 0 args = true ∧ LV.noLs args = true ∧ ∃ r', ∃ n r ob1, call E0 n g args [] 0 = some (r, ob1) ∧ frz ob1 r = some r' then some (Classical.choose h.2.2) else none
noncomputable def frzF (E0 : Env) (g : Nat) (args : List LV) (_ : Obs) : Option LV := frzF0 E0 g args
/-- An environment some of whose functions are frozen. -/
noncomputable def frzEnv (E0 : Env) (l : List Nat) : Env := { gl := E0.gl, lps := E0.lps, fx := E0.fx, fns := fun g => match l.contains g with
  | true => some (.ext (frzF E0 g))
  | false => E0.fns g }
open Classical in
noncomputable def frzOF (E0 : Env) (g : Nat) (args : List LV) (ob : Obs) : Option LV :=
  if h : LV.noLs args = true ∧ ∃ r', ∃ n r ob1, call E0 n g args ob ob.length = some (r, ob1) ∧ frzO ob.length ob1 r = some r' then some (Classical.choose h.2) else none
theorem frzOF_some {E0 : Env} {g : Nat} {args : List LV} {r' : LV} {ob : Obs} (h : frzOF E0 g args ob = some r') : LV.noLs args = true ∧ ∃ n r ob1, call E0 n g args ob ob.length = some (r, ob1) ∧ frzO ob.length ob1 r = some r' := by
  unfold frzOF at h
  split at h
  · rename_i hh
    injection h with h
    have := Classical.choose_spec hh.2
    rw [h] at this
    exact ⟨hh.1, this⟩
  · cases h
theorem frzOF_of {E0 : Env} {g : Nat} {args : List LV} {r r' : LV} {ob ob1 : Obs} (h : Gives E0 g args ob ob.length (r, ob1)) (hf : frzO ob.length ob1 r = some r') (h2 : LV.noLs args = true) : frzOF E0 g args ob = some r' := by
  obtain ⟨n, hn⟩ := h
  have hh : LV.noLs args = true ∧ ∃ r', ∃ n r ob1, call E0 n g args ob ob.length = some (r, ob1) ∧ frzO ob.length ob1 r = some r' := ⟨h2, r', n, r, ob1, hn, hf⟩
  unfold frzOF
  rw [dif_pos hh]
  obtain ⟨n2, r2, ob2, e1, e2⟩ := Classical.choose_spec hh.2
  have a1 := call_mono (Nat.le_max_left n n2) _ _ _ _ _ hn
  have a2 := call_mono (Nat.le_max_right n n2) _ _ _ _ _ e1
  rw [a1] at a2
  injection a2 with a2; injection a2 with a3 a4
  subst a3; subst a4
  rw [hf] at e2
  exact e2.symm
theorem frzO_ext {T : Tab} {E0 E : Env} (hOk : EnvOk T E0) (hgl : E.gl = E0.gl) {g : Nat} {args : List LV} {r : LV} {ob : Obs} (h : frzOF E0 g args ob = some r) (pb : Nat) : CallOk T E g args ob pb r ob := by
  obtain ⟨h2, n, r0, ob1, h3, h4⟩ := frzOF_some h
  have := callOk_freezeO (call_sound hOk h3 h2) h4 pb
  unfold CallOk at this ⊢
  rw [hgl]; exact this
/-- An environment some of whose functions read objects and are frozen. -/
noncomputable def frzOEnv (E0 : Env) (l : List Nat) : Env := { gl := E0.gl, lps := E0.lps, fx := E0.fx, fns := fun g => match l.contains g with
  | true => some (.ext (frzOF E0 g))
  | false => E0.fns g }
theorem frzOEnv_ok {T : Tab} {E0 : Env} {l : List Nat} (hOk : EnvOk T E0) (hl : l.contains YG = false := by rfl) : EnvOk T (frzOEnv E0 l) where
  yg := by show (match l.contains YG with | true => _ | false => E0.fns YG) = none; rw [hl]; exact hOk.yg
  noYG := hOk.noYG
  lps := hOk.lps
  fx := hOk.fx
  tab := hOk.tab
  mixed := hOk.mixed
  eq := hOk.eq
  code := by
    intro g f hg
    simp only [frzOEnv] at hg
    split at hg
    · cases hg
    · exact hOk.code g f hg
  ext := by
    intro g F hg args r ob pb hF
    simp only [frzOEnv] at hg
    split at hg
    · injection hg with hg; injection hg with hg; subst hg
      exact frzO_ext hOk rfl hF pb
    · have := hOk.ext g F hg args r ob pb hF
      exact this
end Tree
