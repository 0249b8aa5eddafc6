/- Maps: an object's entries written anew. -/
import Derived.Test.YtfdamolkgfcoiaaTB
import Derived.MapKept
import Derived.Laws.BytesArg
set_option autoImplicit false
set_option linter.unusedVariables false
set_option linter.unusedSimpArgs false
namespace Tree
open Go
section
variable {T : Tab} {E : Env} {ev : Ev} {pb : Nat} {st st1 : St} {a : Act} {dst : Option Nat} {m : Mem} {lv : LV} {note : Option Place} {o : Oper}

def Mem.setRow (m : Mem) (b : Nat) (cs : Array Value) : Mem := { m with w := m.w.setRow b cs }

theorem setRow_cell {w : World} {b : Nat} {old new : Array Value} {ty : TypeId} (hb : w.heap[b]? = some (.cells old ty (0, 0))) (x o : Nat) :
    (w.setRow b new).cell? ⟨x, o, none⟩ = if x = b then new[o]? else w.cell? ⟨x, o, none⟩ := by
  split
  · rename_i e; subst e; exact cell_setRow_same w x o old new ty (0, 0) hb
  · rename_i e; exact cell_setRow_other w b new ⟨x, o, none⟩ e
theorem setRow_at {w : World} {b : Nat} {old new : Array Value} {ty : TypeId} (hb : w.heap[b]? = some (.cells old ty (0, 0))) (x : Nat) :
    (w.setRow b new).heap[x]? = if x = b then some (.cells new ty (0, 0)) else w.heap[x]? := by
  split
  · rename_i e; subst e; exact setRow_heap w x old new ty (0, 0) hb
  · rename_i e; exact setRow_other w b x new e
theorem cell_of_heap {w : World} {b : Nat} {old : Array Value} {ty : TypeId} (hb : w.heap[b]? = some (.cells old ty (0, 0))) (o : Nat) : w.cell? ⟨b, o, none⟩ = old[o]? := by simp [World.cell?, hb]

theorem Post.setRow {b : Nat} {old new : Array Value} {ty : TypeId} (hb : m.w.heap[b]? = some (.cells old ty (0, 0))) (hs : new.size = old.size)
    (hk : ∀ o, (m.k b o = .other ∨ (∃ l, m.k b o = .imm l) ∨ (∃ id, id < pb ∧ (m.k b o = .obj id ∨ ∃ c, m.k b o = .tail ⟨.obj id, c⟩))) → new[o]? = old[o]?) : Post pb m (m.setRow b new) := by
  refine ⟨rfl, rfl, rfl, by simp [Mem.setRow], fun x hx => ?_, fun _ _ _ _ => rfl, Nat.le_refl _, fun _ _ => rfl, fun _ h1 h2 => absurd h1 (Nat.not_le.2 h2)⟩
  have := setRow_at (new := new) hb x
  by_cases e : x = b
  · subst e
    rw [if_pos rfl] at this
    exact .inr (.inl ⟨old, new, ty, hb, this, hs, hk⟩)
  · rw [if_neg e] at this
    exact .inl this

def St.setRoot (st : St) (r : Root) (cs : List LV) : St :=
  match r with
  | .slot t => { st with sl := st.sl.set t (.box cs), al := st.dropRoot r }
  | .obj id => { st with ob := st.ob.set id cs, al := st.dropRoot r }
def rootKd : Root → Kd
  | .slot t => .box t
  | .obj id => .obj id
/-- A root's block, as the frame has it. -/
def RootAt (st : St) (tmps : Array Value) (m : Mem) (r : Root) (b : Nat) (cs : List LV) : Prop :=
  match r with
  | .slot t => st.sl[t]? = some (.box cs) ∧ tmps[t]? = some (.pointer (some ⟨b, 0, none⟩))
  | .obj id => st.ob[id]? = some cs ∧ b = m.ob id ∧ isMapC cs = false

theorem Block.notMap {b : Nat} {cs : List LV} {k : Kd} (h : Block T m b cs k) : isMapC cs = false := by
  obtain ⟨vs, ty, h1, h2, h3, h4⟩ := h
  cases cs with
  | nil => rfl
  | cons c cs =>
    obtain ⟨g1, g2⟩ := h4 0 c rfl
    cases c <;> try rfl
    generalize vs.getD 0 undef = v at g1 g2
    cases g2
    simp [Value.oneCell'] at g1
theorem Block.setRow_other {b b' : Nat} {cs : List LV} {k k' : Kd} {old new : Array Value} {ty : TypeId} (h : Block T m b' cs k') (hb : m.w.heap[b]? = some (.cells old ty (0, 0))) (hle : m.le (m.setRow b new)) (hne : b' ≠ b) : Block T (m.setRow b new) b' cs k' := by
  obtain ⟨vs, ty', h1, h2, h3, h4⟩ := h
  refine ⟨vs, ty', ?_, h2, h3, fun j lv hj => ⟨(h4 j lv hj).1, (h4 j lv hj).2.mono hle⟩⟩
  have := setRow_at (new := new) hb b'
  rw [if_neg hne] at this
  exact this.trans h1
theorem Tail.setRow {b z : Nat} {v : Value} {k : Kd} {old new : Array Value} {ty : TypeId} (h : Tail m z v k) (hb : m.w.heap[b]? = some (.cells old ty (0, 0))) (hs : new.size = old.size) : Tail (m.setRow b new) z v k := by
  intro x o ht
  obtain ⟨hk, vs, ty', hh, ho⟩ := h x o ht
  refine ⟨hk, ?_⟩
  have := setRow_at (new := new) hb x
  by_cases e : x = b
  · subst e
    rw [if_pos rfl] at this
    rw [hb] at hh; injection hh with hh; injection hh with hh hh2; subst hh; subst hh2
    exact ⟨new, ty, this, by rw [hs]; exact ho⟩
  · rw [if_neg e] at this
    exact ⟨vs, ty', this.trans hh, ho⟩

theorem at_setRoot {r : Root} {cs cs' : List LV} {b : Nat} {tmps : Array Value} (hr : RootAt st tmps m r b cs) {p : Place} {lv : LV} :
    (st.setRoot r cs').at p = some lv → (p.root ≠ r ∧ st.at p = some lv) ∨ (∃ i, p = ⟨r, some i⟩ ∧ cs'[i]? = some lv) := by
  intro h
  obtain ⟨root, cell⟩ := p
  cases r with
  | slot t =>
    cases root with
    | obj id => exact .inl ⟨(fun e => by cases e), (by cases cell <;> exact h)⟩
    | slot s =>
      by_cases e : t = s
      · subst e
        have hlt := (List.getElem?_eq_some_iff.1 hr.1).1
        cases cell with
        | none => simp only [St.setRoot, St.at, set_get?, if_true, if_pos hlt] at h; cases h
        | some i => simp only [St.setRoot, St.at, set_get?, if_true, if_pos hlt] at h; exact .inr ⟨i, rfl, h⟩
      · refine .inl ⟨fun e' => e (by injection e' with e'; exact e'.symm), ?_⟩
        cases cell <;> simp only [St.setRoot, St.at, set_get?, if_neg e] at h ⊢ <;> exact h
  | obj id =>
    cases root with
    | slot s => exact .inl ⟨(fun e => by cases e), (by cases cell <;> exact h)⟩
    | obj id' =>
      by_cases e : id = id'
      · subst e
        have hlt := (List.getElem?_eq_some_iff.1 hr.1).1
        cases cell with
        | none => simp only [St.setRoot, St.at] at h; cases h
        | some i => simp only [St.setRoot, St.at, set_get?, if_true, if_pos hlt] at h; exact .inr ⟨i, rfl, h⟩
      · refine .inl ⟨fun e' => e (by injection e' with e'; exact e'.symm), ?_⟩
        cases cell <;> simp only [St.setRoot, St.at, set_get?, if_neg e] at h ⊢ <;> exact h

theorem mem_dropRoot {r : Root} {t : Nat} {p : Place} (h : st.dropRoot r t = some p) : st.al t = some p ∧ p.root ≠ r := by
  simp only [St.dropRoot] at h
  split at h
  · rename_i q hq
    split at h
    · cases h
    · rename_i hr; injection h with h; subst h; exact ⟨hq, hr⟩
  · cases h
/-- Which root a block serves. -/
theorem rootAt_block {tmps : Array Value} (h : FR T st tmps m) {r : Root} {b : Nat} {cs : List LV} (hr : RootAt st tmps m r b cs) : Block T m b cs (rootKd r) := by
  cases r with
  | slot t =>
    obtain ⟨b', h1, h2⟩ := h.box t cs hr.1
    rw [hr.2] at h1; injection h1 with h1; injection h1 with h1; injection h1 with h1; injection h1 with h1; subst h1
    exact h2
  | obj id => obtain ⟨h1, rfl, h2⟩ := hr; exact (h.obj id cs h1).cells h2
theorem block_class {b : Nat} {cs : List LV} {k : Kd} (h : Block T m b cs k) : ∀ o, m.k b o = k := h.choose_spec.choose_spec.2.2.1
theorem RAt_setRow {tmps : Array Value} (h : FR T st tmps m) {r : Root} {b : Nat} {cs : List LV} (hr : RootAt st tmps m r b cs) {old new : Array Value} {ty : TypeId} (hb : m.w.heap[b]? = some (.cells old ty (0, 0)))
    {p : Place} {v : Value} (hp : p.root ≠ r) (hv : RAt tmps m p v) (hs : ∀ t, p.root = .slot t → (∀ b', tmps[t]? = some (.pointer (some ⟨b', 0, none⟩)) → ∃ cs', st.sl[t]? = some (.box cs')) ∨ p.cell = none) (ho : ∀ id, p.root = .obj id → id < st.ob.length) : RAt tmps (m.setRow b new) p v := by
  have hbk := block_class (rootAt_block h hr)
  obtain ⟨root, cell⟩ := p
  cases root <;> cases cell <;> simp only [RAt] at hv ⊢
  · exact hv
  · rename_i t i
    rcases hv with hv | ⟨b', h1, h2⟩
    · exact .inl hv
    · refine .inr ⟨b', h1, ?_⟩
      show (m.w.setRow b new).cell? _ = _
      rw [setRow_cell hb, if_neg]
      · exact h2
      · intro e; subst e
        rcases hs t rfl with hs | hs
        · obtain ⟨cs', hcs'⟩ := hs _ h1
          obtain ⟨b2, g1, g2⟩ := h.box t cs' hcs'
          rw [h1] at g1; injection g1 with g1; injection g1 with g1; injection g1 with g1; injection g1 with g1; subst g1
          have := (block_class g2 0).symm.trans (hbk 0)
          cases r with
          | slot t' => simp only [rootKd] at this; injection this with this; exact hp (by rw [this])
          | obj id => cases this
        · cases hs
  · rename_i id i
    show (m.w.setRow b new).cell? _ = _
    rw [setRow_cell hb, if_neg]
    · exact hv
    · intro e
      have hlt := ho id rfl
      have g2 := h.obj id st.ob[id] (List.getElem?_eq_getElem hlt)
      have e' : m.ob id = b := e
      rw [e'] at g2
      have := (g2.class 0).symm.trans (hbk 0)
      cases r with
      | slot t' => cases this
      | obj id' => simp only [rootKd] at this; injection this with this; exact hp (by rw [this])

theorem FR.store {tmps : Array Value} (h : FR T st tmps m) {r : Root} {b off : Nat} {cs cs' vs : List LV} {vals : List Value} (hr : RootAt st tmps m r b cs) (hsp : splice cs off vs = some cs') (hv : CellsRep T m vs vals)
    (hown : ∀ (j l z : Nat) (xs sp : List (List LV)), vs[j]? = some (.sl true l z xs sp) → Tail m z (vals.getD j undef) (.tail ⟨r, some (off + j)⟩)) (hlow : ∀ id, r = .obj id → pb ≤ id) :
    ∃ old ty new, m.w.heap[b]? = some (.cells old ty (0, 0)) ∧ new = (old.toList.take off ++ vals ++ old.toList.drop (off + vals.length)).toArray ∧ off + vals.length ≤ old.size ∧ (∀ v ∈ vals, v.oneCell' = true) ∧
      FR T (st.setRoot r cs') tmps (m.setRow b new) ∧ Post pb m (m.setRow b new) := by
  have hblk := rootAt_block h hr
  obtain ⟨old, ty, hb, hsz, hk, hcell⟩ := hblk
  unfold splice at hsp
  split at hsp
  · rename_i hle
    injection hsp with hsp
    have hvl := hv.1
    have hnew : ∀ new : Array Value, new = (old.toList.take off ++ vals ++ old.toList.drop (off + vals.length)).toArray → new.size = old.size := by
      intro new e; subst e; simp; omega
    obtain ⟨new, hne⟩ : ∃ new : Array Value, new = (old.toList.take off ++ vals ++ old.toList.drop (off + vals.length)).toArray := ⟨_, rfl⟩
    have hns := hnew new hne
    have hnl : ∀ i : Nat, new[i]? = (old.toList.take off ++ (vals ++ old.toList.drop (off + vals.length)))[i]? := by
      intro i; rw [hne, List.getElem?_toArray, List.append_assoc]
    have hpost : Post pb m (m.setRow b new) := by
      refine Post.setRow hb hns fun o ho => ?_
      rw [hk o] at ho
      cases r with
      | slot t => simp [rootKd] at ho
      | obj id =>
        simp only [rootKd] at ho
        rcases ho with ho | ⟨l, ho⟩ | ⟨i, hi, ho | ⟨c, ho⟩⟩ <;> try cases ho
        have := hlow id rfl; omega
    have hle' := hpost.le
    -- the new cells
    have hget : ∀ (i : Nat) (lv : LV), cs'[i]? = some lv → (new.getD i undef).oneCell' = true ∧ Rep T (m.setRow b new) lv (new.getD i undef) := by
      intro i lv hi
      have hg : ∀ u, new[i]? = some u → u.oneCell' = true → Rep T m lv u → (new.getD i undef).oneCell' = true ∧ Rep T (m.setRow b new) lv (new.getD i undef) := by
        intro u hu h1 h2
        have : new.getD i undef = u := by rw [Array.getD_eq_getD_getElem?, hu]; rfl
        rw [this]; exact ⟨h1, h2.mono hle'⟩
      subst hsp
      rw [List.append_assoc] at hi
      rw [hnl i] at hg
      by_cases c1 : i < off
      · rw [List.getElem?_append_left (by simp; omega), List.getElem?_take, if_pos c1] at hi
        have hlt : i < old.size := by omega
        refine hg old[i] ?_ ?_ ?_
        · rw [List.getElem?_append_left (by simp; omega), List.getElem?_take, if_pos c1, Array.getElem?_toList, Array.getElem?_eq_getElem hlt]
        · have := (hcell i lv hi).1; rwa [Array.getD_eq_getD_getElem?, Array.getElem?_eq_getElem hlt] at this
        · have := (hcell i lv hi).2; rwa [Array.getD_eq_getD_getElem?, Array.getElem?_eq_getElem hlt] at this
      · have m1 : (cs.take off).length = off := by simp; omega
        have m2 : (old.toList.take off).length = off := by simp; omega
        rw [List.getElem?_append_right (by omega), m1] at hi
        rw [List.getElem?_append_right (by omega), m2] at hg
        by_cases c2 : i < off + vs.length
        · rw [List.getElem?_append_left (by omega)] at hi
          rw [List.getElem?_append_left (by omega)] at hg
          have hlt : i - off < vals.length := by omega
          obtain ⟨g1, g2⟩ := hv.2 (i - off) lv hi
          rw [List.getD_eq_getElem?_getD, List.getElem?_eq_getElem hlt] at g1 g2
          exact hg _ (List.getElem?_eq_getElem hlt) g1 g2
        · rw [List.getElem?_append_right (by omega), List.getElem?_drop, show off + vs.length + (i - off - vs.length) = i by omega] at hi
          rw [List.getElem?_append_right (by omega), List.getElem?_drop, show off + vals.length + (i - off - vals.length) = i by omega] at hg
          have hlt : i < old.size := by have := (List.getElem?_eq_some_iff.1 hi).1; omega
          refine hg old[i] (by rw [Array.getElem?_toList, Array.getElem?_eq_getElem hlt]) ?_ ?_
          · have := (hcell i lv hi).1; rwa [Array.getD_eq_getD_getElem?, Array.getElem?_eq_getElem hlt] at this
          · have := (hcell i lv hi).2; rwa [Array.getD_eq_getD_getElem?, Array.getElem?_eq_getElem hlt] at this
    have hcl : cs'.length = cs.length := by subst hsp; simp; omega
    have hblk' : Block T (m.setRow b new) b cs' (rootKd r) := by
      refine ⟨new, ty, ?_, by omega, hk, hget⟩
      have := setRow_at (new := new) hb b
      rw [if_pos rfl] at this; exact this
    have hothers : ∀ b' cs1 k1, Block T m b' cs1 k1 → k1 ≠ rootKd r → Block T (m.setRow b new) b' cs1 k1 := by
      intro b' cs1 k1 hb1 hne1
      refine Block.setRow_other (k := k1) hb1 hb hle' fun e => ?_
      subst e
      exact hne1 ((block_class hb1 0).symm.trans (hk 0))
    have hothersO : ∀ b' cs1 k1, OBlock T m b' cs1 k1 → k1 ≠ rootKd r → OBlock T (m.setRow b new) b' cs1 k1 := by
      intro b' cs1 k1 hb1 hne1
      rcases hb1 with ⟨g, hb1⟩ | hb1
      · exact .inl ⟨g, hothers _ _ _ hb1 hne1⟩
      · have hcl := OBlock.class (.inr hb1)
        refine .inr (hb1.mono ?_ hcl hle')
        have := setRow_at (new := new) hb b'
        rw [if_neg] at this
        · exact this
        · intro e; subst e
          exact hne1 ((hcl 0).symm.trans (hk 0))
    have hboxk : ∀ s : Nat, (∃ c, st.sl[s]? = some (Slot.box c)) → ∃ c, (st.setRoot r cs').sl[s]? = some (Slot.box c) := by
      rintro s ⟨c, hc⟩
      cases r with
      | obj id => exact ⟨c, hc⟩
      | slot t =>
        simp only [St.setRoot, set_get?]
        by_cases e : t = s
        · subst e; rw [if_pos rfl, if_pos (List.getElem?_eq_some_iff.1 hc).1]; exact ⟨cs', rfl⟩
        · rw [if_neg e]; exact ⟨c, hc⟩
    have hsval : ∀ (s : Nat) (lv : LV), (st.setRoot r cs').sl[s]? = some (Slot.val lv) → st.sl[s]? = some (Slot.val lv) := by
      intro s lv hs
      cases r with
      | obj id => exact hs
      | slot t =>
        simp only [St.setRoot, set_get?] at hs
        split at hs
        · split at hs <;> cases hs
        · exact hs
    refine ⟨old, ty, new, hb, hne, by omega, fun v hv' => ?_, ?_, hpost⟩
    · obtain ⟨j, hj, rfl⟩ := List.getElem_of_mem hv'
      have hjl : j < vs.length := by omega
      have := (hv.2 j _ (List.getElem?_eq_getElem hjl)).1
      rwa [List.getD_eq_getElem?_getD, List.getElem?_eq_getElem hj] at this
    · refine ⟨?_, ?_, ?_, fun s lv hs => ?_, fun s c hc => ?_, fun id c hc => ?_, fun p l z xs sp hp => ?_, fun s p hsp' => ?_⟩
      · cases r <;> simp [St.setRoot, h.size]
      · cases r <;> simp [St.setRoot, Mem.setRow, h.n]
      · intro s p hsp'
        have h1 : st.dropRoot r s = some p := by cases r <;> exact hsp'
        have := h.alo s p (mem_dropRoot h1).1
        refine ⟨?_, fun s' i e => hboxk s' (this.2 s' i e)⟩
        cases r <;> simpa [St.setRoot] using this.1
      · obtain ⟨v, g1, g2⟩ := h.val s lv (hsval s lv hs)
        exact ⟨v, g1, (VRep.st g2 hboxk).mono hle'⟩
      · cases r with
        | obj id =>
          obtain ⟨b', g1, g2⟩ := h.box s c hc
          exact ⟨b', g1, hothers _ _ _ g2 (by simp [rootKd])⟩
        | slot t =>
          simp only [St.setRoot, set_get?] at hc
          by_cases e : t = s
          · subst e
            rw [if_pos rfl] at hc
            split at hc
            · injection hc with hc; injection hc with hc; subst hc
              exact ⟨b, hr.2, hblk'⟩
            · cases hc
          · rw [if_neg e] at hc
            obtain ⟨b', g1, g2⟩ := h.box s c hc
            exact ⟨b', g1, hothers _ _ _ g2 (by simp only [rootKd]; intro e'; injection e' with e'; exact e e'.symm)⟩
      · cases r with
        | slot t => exact hothersO _ _ _ (h.obj id c hc) (by simp [rootKd])
        | obj id' =>
          simp only [St.setRoot, set_get?] at hc
          by_cases e : id' = id
          · subst e
            rw [if_pos rfl] at hc
            split at hc
            · injection hc with hc; subst hc
              have e2 : (m.setRow b new).ob id' = b := hr.2.1.symm
              rw [e2]
              exact .inl ⟨hblk'.notMap, hblk'⟩
            · cases hc
          · rw [if_neg e] at hc
            exact hothersO _ _ _ (h.obj id c hc) (by simp only [rootKd]; intro e'; injection e' with e'; exact e e'.symm)
      · rcases at_setRoot hr hp with ⟨hpr, hp'⟩ | ⟨i, rfl, hi⟩
        · obtain ⟨v, g1, g2⟩ := h.own p l z xs sp hp'
          refine ⟨v, RAt_setRow h hr hb hpr g1 (fun t ht => ?_) (St.at_lt hp'), g2.setRow hb hns⟩
          -- a struct's cell lies in the slot, a box's in its block
          obtain ⟨root, cell⟩ := p
          simp only at ht; subst ht
          cases cell with
          | none => exact .inr rfl
          | some i =>
            refine .inl fun b' hb' => ?_
            simp only [St.at] at hp'
            split at hp'
            · rename_i c hc
              obtain ⟨v', k1, k2⟩ := h.val t _ hc
              rw [hb'] at k1; injection k1 with k1; subst k1
              cases k2
            · rename_i c hc; exact ⟨c, hc⟩
            · cases hp'
        · -- a cell of what is written
          have hlt : i < new.size := by have := (List.getElem?_eq_some_iff.1 hi).1; omega
          refine ⟨new.getD i undef, ?_, ?_⟩
          · have hcell' : (m.setRow b new).w.cell? ⟨b, i, none⟩ = some (new.getD i undef) := by
              show (m.w.setRow b new).cell? _ = _
              rw [setRow_cell hb, if_pos rfl, Array.getD_eq_getD_getElem?, Array.getElem?_eq_getElem hlt]; rfl
            cases r with
            | slot t => exact .inr ⟨b, hr.2, hcell'⟩
            | obj id =>
              have e2 : (m.setRow b new).ob id = b := hr.2.1.symm
              show (m.setRow b new).w.cell? ⟨(m.setRow b new).ob id, i, none⟩ = _
              rw [e2]; exact hcell'
          · subst hsp
            rw [List.append_assoc] at hi
            have hgd : ∀ u, (old.toList.take off ++ (vals ++ old.toList.drop (off + vals.length)))[i]? = some u → new.getD i undef = u := by
              intro u hu
              rw [Array.getD_eq_getD_getElem?, hnl i, hu]; rfl
            have old_own : ∀ (lt : i < old.size), cs[i]? = some (.sl true l z xs sp) → Tail m z old[i] (.tail ⟨r, some i⟩) := by
              intro lt hc
              have hat : st.at ⟨r, some i⟩ = some (.sl true l z xs sp) := by
                cases r with
                | slot t => simp only [St.at, hr.1]; exact hc
                | obj id => simp only [St.at, hr.1]; exact hc
              obtain ⟨v, g1, g2⟩ := h.own _ l z xs sp hat
              have e3 : m.w.cell? ⟨b, i, none⟩ = some v := by
                cases r with
                | slot t =>
                  rcases g1 with ⟨us, k1, _⟩ | ⟨b', k1, k2⟩
                  · rw [hr.2] at k1; injection k1 with k1; cases k1
                  · rw [hr.2] at k1; injection k1 with k1; injection k1 with k1; injection k1 with k1; injection k1 with k1; subst k1; exact k2
                | obj id => have e2 : b = m.ob id := hr.2.1; rw [e2]; exact g1
              rw [cell_of_heap hb, Array.getElem?_eq_getElem lt] at e3
              injection e3 with e3; rw [e3]; exact g2
            by_cases c1 : i < off
            · rw [List.getElem?_append_left (by simp; omega), List.getElem?_take, if_pos c1] at hi
              have lt : i < old.size := by omega
              rw [hgd old[i] (by rw [List.getElem?_append_left (by simp; omega), List.getElem?_take, if_pos c1, Array.getElem?_toList, Array.getElem?_eq_getElem lt])]
              exact (old_own lt hi).setRow hb hns
            · have m1 : (cs.take off).length = off := by simp; omega
              have m2 : (old.toList.take off).length = off := by simp; omega
              rw [List.getElem?_append_right (by omega), m1] at hi
              by_cases c2 : i < off + vs.length
              · rw [List.getElem?_append_left (by omega)] at hi
                have lt : i - off < vals.length := by omega
                have := hown (i - off) l z xs sp hi
                rw [show off + (i - off) = i by omega, List.getD_eq_getElem?_getD, List.getElem?_eq_getElem lt] at this
                rw [hgd vals[i - off] (by rw [List.getElem?_append_right (by omega), m2, List.getElem?_append_left (by omega), List.getElem?_eq_getElem lt])]
                exact this.setRow hb hns
              · rw [List.getElem?_append_right (by omega), List.getElem?_drop, show off + vs.length + (i - off - vs.length) = i by omega] at hi
                have lt : i < old.size := by have := (List.getElem?_eq_some_iff.1 hi).1; omega
                rw [hgd old[i] (by rw [List.getElem?_append_right (by omega), m2, List.getElem?_append_right (by omega), List.getElem?_drop, show off + vals.length + (i - off - vals.length) = i by omega, Array.getElem?_toList, Array.getElem?_eq_getElem lt])]
                exact (old_own lt hi).setRow hb hns
      · have h1 : st.dropRoot r s = some p := by cases r <;> exact hsp'
        obtain ⟨h2, h3⟩ := mem_dropRoot h1
        obtain ⟨u, g1, g2⟩ := h.al s p h2
        refine ⟨u, RAt_setRow h hr hb h3 g1 (fun t ht => ?_) (h.alo s p h2).1, fun o l z xs sp v k1 k2 => g2 o l z xs sp v (hsval _ _ k1) k2⟩
        obtain ⟨root, cell⟩ := p
        simp only at ht; subst ht
        cases cell with
        | none => exact .inr rfl
        | some i => exact .inl fun b' _ => (h.alo _ _ h2).2 t i rfl
  · cases hsp
end
end Tree

set_option autoImplicit false
set_option linter.unusedVariables false
set_option linter.unusedSimpArgs false
namespace Tree
open Go
section
variable {T : Tab} {E : Env} {ev : Ev} {pb : Nat} {st st1 : St} {a : Act} {dst : Option Nat} {m : Mem} {lv : LV} {note : Option Place} {o : Oper}

theorem owns_cell {v : Value} {d : Option Nat → Kd} {k : Nat → Kd} (hd : ∀ c : Option Nat, d c = k (c.getD 0)) (ho : Owns m lv v d) (hv : VRep T st a.tmps m lv v) (hc : lv.cells.all LV.isCell = true) :
    ∀ (j l z : Nat) (xs sp : List (List LV)), lv.cells[j]? = some (.sl true l z xs sp) → Tail m z (v.cells.toList.getD j undef) (k j) := by
  intro j l z xs sp hj
  cases lv with
  | agg cs =>
    have h' : Rep T m (.agg cs) v := hv
    cases h' with
    | agg _ vs hl hr =>
      have e : (Value.cells (.agg vs)).toList.getD j undef = vs.getD j undef := by simp [Value.cells, Array.getD_eq_getD_getElem?, List.getD_eq_getElem?_getD]
      rw [e]
      have := ho vs rfl j l z xs sp hj
      rwa [hd] at this
  | sl o' l' z' xs' sp' =>
    have h1 := rep_oneCell hv rfl
    have e : v.cells.toList = [v] := by cases v <;> first | rfl | (simp [Value.oneCell'] at h1)
    rw [e]
    cases j with
    | succ i => simp [LV.cells] at hj
    | zero =>
      simp [LV.cells] at hj
      obtain ⟨rfl, rfl, rfl, rfl, rfl⟩ := hj
      have : Tail m z' v (d none) := ho
      rwa [hd] at this
  | _ => (cases j with
    | zero => simp [LV.cells] at hj
    | succ i => simp [LV.cells] at hj)

/-- What is to be shown of an operation that gives none. -/
def OpOkS (T : Tab) (pb : Nat) (st1 : St) (a : Act) (m : Mem) (s : Sem Next) : Prop :=
  ∃ m', Post pb m m' ∧ s.run T.P m.w = .ok .skip m'.w ∧ FR T st1 a.tmps m'

theorem take_sl {gl : Nat → List LV} {y : Opd} {st' : St} (ht : st.take gl pb y = some (lv, st')) : ∀ (s : Nat) (cs : List LV), st'.sl[s]? = some (Slot.box cs) → ∃ cs0, st.sl[s]? = some (Slot.box cs0) := by
  intro s cs hs
  cases y with
  | const c => simp only [St.take] at ht; obtain ⟨v, _, h2⟩ := Option.map_eq_some_iff.1 ht; injection h2 with _ h2; subst h2; exact ⟨cs, hs⟩
  | glob g => simp only [St.take] at ht; obtain ⟨v, _, h2⟩ := Option.map_eq_some_iff.1 ht; injection h2 with _ h2; subst h2; exact ⟨cs, hs⟩
  | tmp t =>
    simp only [St.take] at ht
    split at ht
    · rename_i r hr
      injection ht with ht; subst ht
      simp only [St.takeTop] at hr
      split at hr
      · injection hr with hr; injection hr with _ hr; subst hr; exact strip_box.1 ⟨cs, hs⟩
      · split at hr
        · split at hr
          · split at hr
            · injection hr with hr; injection hr with _ hr; subst hr; exact strip_box.1 ⟨cs, hs⟩
            · cases hr
          · cases hr
        · cases hr
      · cases hr
    · split at ht
      · rename_i v hv
        injection ht with ht; injection ht with _ ht; subst ht
        simp only [set_get?] at hs
        split at hs
        · split at hs <;> cases hs
        · exact ⟨cs, hs⟩
      · injection ht with ht; injection ht with _ ht; subst ht; exact ⟨cs, hs⟩
      · cases ht

theorem op_store (h : FR T st a.tmps m) (hG : Globs T E.gl m) {t : TypeId} {sz : Nat} {x p : Operand} {y q : Opd} (ho : o.op = .store t p x) (hp : chkOpd T p q = true) (hx : chkOpd T x y = true) (hs : sizeB T.P t = some sz)
    (hv : valOp E ev pb st none (.store sz q y) = some (lv, st1, note)) : lv = .undef ∧ note = none ∧ OpOkS T pb st1 a m (execOp a.eval o) := by
  simp only [valOp] at hv
  obtain ⟨ad, h1, hv⟩ := Option.bind_eq_some_iff.1 hv
  obtain ⟨⟨w, st2⟩, h2, hv⟩ := Option.bind_eq_some_iff.1 hv
  split at hv
  · rename_i hcond
    obtain ⟨hc1, hc2⟩ := hcond
    obtain ⟨st3, h3, h4⟩ := Option.map_eq_some_iff.1 hv
    simp only [Prod.mk.injEq] at h4
    obtain ⟨rfl, rfl, rfl⟩ := h4
    refine ⟨rfl, rfl, ?_⟩
    have hap := operand_sound h hG hp h1
    -- by what is written to
    have main : ∀ (r : Root) (off b : Nat) (cs cs' : List LV), (∀ id, r = .obj id → pb ≤ id) → a.eval p = .pointer (some ⟨b, off, none⟩) → (∀ (m' : Mem), m'.ob = m.ob → FR T st2 a.tmps m' → RootAt st2 a.tmps m' r b cs) →
        splice cs off w.cells = some cs' → st3 = st2.setRoot r cs' → OpOkS T pb st3 a m (execOp a.eval o) := by
      intro r off b cs cs' hlow hpe hroot hsp hst3
      obtain ⟨f, hf⟩ := take_sound h hG hx h2 (fun c => .tail ⟨r, some (off + c.getD 0)⟩)
      have hcr := cells_sound hf.rep hc2
      obtain ⟨old, ty, new, g1, g2, g3, g4, g5, g6⟩ := FR.store (pb := pb) hf.fr (hroot _ rfl hf.fr) hsp hcr (fun j l z xs sp hj => owns_cell (k := fun j => .tail ⟨r, some (off + j)⟩) (fun c => rfl) hf.owns hf.rep hc2 j l z xs sp hj) hlow
      subst hst3
      refine ⟨_, (Post.of_ren hf.ok m).trans g6, ?_, g5⟩
      have hc1' : w.cells.length = sz := hc1
      have hsz : (a.eval x).cells.size = sz := by have := hcr.1; simp only [Array.length_toList] at this; omega
      have hst := run_storeCells_at T.P b off ty (a.eval x).cells.toList 0 old m.w g1 (by simpa using g3) g4
      rw [Nat.add_zero, ← g2] at hst
      have hne : ¬ ((a.eval x).cells.size ≠ sz) := by omega
      simp only [execOp, ho, hpe, Instr.storeAt, Instr.sureAddr, storeVar, Sem.run_bind, Sem.run_pure, Result.andThen_ok, runS hs, Sem.run_ite, if_neg hne, hst]
      rfl
    cases ad with
    | laddr s off =>
      simp only [writeAt] at h3
      split at h3
      · rename_i cs hcs
        obtain ⟨cs', h5, h6⟩ := Option.map_eq_some_iff.1 h3
        obtain ⟨cs0, hcs0⟩ := take_sl h2 s cs hcs
        obtain ⟨b, k1, k2, _⟩ := hap
        exact main (.slot s) off b cs cs' (by intro id e; cases e) k2 (fun m' _ _ => ⟨hcs, k1⟩) h5 h6.symm
      · cases h3
    | optr id off =>
      simp only [writeAt] at h3
      split at h3
      · rename_i hlow
        split at h3
        · rename_i cs hcs
          split at h3
          · cases h3
          rename_i hnm
          obtain ⟨cs', h5, h6⟩ := Option.map_eq_some_iff.1 h3
          have hap' : Rep T m (.optr id off) (a.eval p) := hap
          generalize hpv : a.eval p = pv at hap'
          cases hap' with
          | optr _ _ hlt =>
            exact main (.obj id) off (m.ob id) cs cs' (by intro id' e; injection e with e; subst e; exact hlow) hpv (fun m' e _ => ⟨hcs, by rw [e], by simpa using hnm⟩) h5 h6.symm
        · cases h3
      · cases h3
    | _ => simp [writeAt] at h3
  · cases hv

/-- An undefined slot becomes a box. -/
theorem FR.boxUp {tmps : Array Value} (h : FR T st tmps m) {d b : Nat} {cs : List LV} (hd : st.sl[d]? = some (Slot.val .undef)) (ht : tmps[d]? = some (.pointer (some ⟨b, 0, none⟩))) (hb : Block T m b cs (.box d))
    (ho : ∀ (i l z : Nat) (xs sp : List (List LV)), cs[i]? = some (.sl true l z xs sp) → ∃ v, m.w.cell? ⟨b, i, none⟩ = some v ∧ Tail m z v (.tail ⟨.slot d, some i⟩)) (hal : ∀ t p, st.al t = some p → t ≠ d ∧ p.root ≠ .slot d) :
    FR T { st with sl := st.sl.set d (.box cs) } tmps m := by
  have hlt := (List.getElem?_eq_some_iff.1 hd).1
  have hbx : ∀ s : Nat, (∃ c, st.sl[s]? = some (Slot.box c)) → ∃ c, (st.sl.set d (.box cs))[s]? = some (Slot.box c) := by
    rintro s ⟨c, hc⟩
    refine ⟨c, ?_⟩
    rw [set_get?, if_neg (fun e => by subst e; rw [hd] at hc; cases hc)]; exact hc
  refine ⟨by simpa using h.size, h.n, fun s p hsp => ⟨(h.alo s p hsp).1, fun s' i e => hbx s' ((h.alo s p hsp).2 s' i e)⟩, fun s lv hs => ?_, fun s c hc => ?_, h.obj, fun p l z xs sp hp => ?_, fun s p hsp => ?_⟩
  · simp only [set_get?] at hs
    split at hs
    · first | cases hs | (split at hs <;> cases hs)
    · obtain ⟨v, g1, g2⟩ := h.val s lv hs
      exact ⟨v, g1, VRep.st g2 hbx⟩
  · simp only [set_get?] at hc
    split at hc
    · rename_i e; subst e
      try rw [if_pos hlt] at hc
      injection hc with hc; injection hc with hc; subst hc
      exact ⟨b, ht, hb⟩
    · exact h.box s c hc
  · obtain ⟨root, cell⟩ := p
    cases root with
    | obj id => exact h.own _ l z xs sp (by cases cell <;> exact hp)
    | slot s =>
      by_cases e : d = s
      · subst e
        cases cell with
        | none => simp only [St.at, set_get?, if_true, if_pos hlt] at hp; cases hp
        | some i =>
          simp only [St.at, set_get?, if_true, if_pos hlt] at hp
          obtain ⟨v, g1, g2⟩ := ho i l z xs sp hp
          exact ⟨v, .inr ⟨b, ht, g1⟩, g2⟩
      · exact h.own _ l z xs sp (by cases cell <;> simp only [St.at, set_get?, if_neg e] at hp ⊢ <;> exact hp)
  · obtain ⟨u, g1, g2⟩ := h.al s p hsp
    refine ⟨u, g1, fun o l z xs sp v k1 k2 => ?_⟩
    simp only [set_get?] at k1
    split at k1
    · first | cases k1 | (split at k1 <;> cases k1)
    · exact g2 o l z xs sp v k1 k2

/-- A new block of cells that read as told. -/
theorem new_block {cs : List LV} {v : Value} {ty : TypeId} {k : Kd} (hc : CellsRep T m cs v.cells.toList) : Block T (m.alloc (.cells v.cells ty) (fun _ => k)) m.w.heap.size cs k := by
  refine ⟨v.cells, ty, ?_, by have := hc.1; simp only [Array.length_toList] at this; omega, fun o => ?_, fun j lv hj => ?_⟩
  · show (m.w.alloc _).heap[m.w.heap.size]? = _
    exact heap_alloc_new _ _
  · show (if m.w.heap.size = m.w.heap.size then k else _) = k
    rw [if_pos rfl]
  · obtain ⟨g1, g2⟩ := hc.2 j lv hj
    have e : v.cells.toList.getD j undef = v.cells.getD j undef := by simp [Array.getD_eq_getD_getElem?, List.getD_eq_getElem?_getD]
    rw [e] at g1 g2
    exact ⟨g1, g2.mono (le_alloc _ _ _)⟩

theorem op_box (h : FR T st a.tmps m) (hG : Globs T E.gl m) {t : TypeId} {sz d : Nat} {y : Opd} {v : Value} (hrun : ∀ w : World, (execOp a.eval o).run T.P w = .ok (.value (.pointer (some ⟨w.heap.size, 0, none⟩))) (w.alloc (.cells v.cells t)))
    (hx : ∃ x, chkOpd T x y = true ∧ a.eval x = v)
    (hv : valOp E ev pb st (some d) (.box sz y) = some (lv, st1, note)) :
    ∃ m', Post pb m m' ∧ (execOp a.eval o).run T.P m.w = .ok (.value (.pointer (some ⟨m.w.heap.size, 0, none⟩))) m'.w ∧
      FR T { st1 with sl := (st1.kill d).set d (.box lv.cells), al := st1.forget d } (a.tmps.setIfInBounds d (.pointer (some ⟨m.w.heap.size, 0, none⟩))) m' := by
  obtain ⟨x, hxc, hxv⟩ := hx
  simp only [valOp] at hv
  obtain ⟨⟨w, st2⟩, h2, hv⟩ := Option.bind_eq_some_iff.1 hv
  split at hv
  · rename_i hcond
    obtain ⟨hc1, hc2⟩ := hcond
    simp only [Option.some.injEq, Prod.mk.injEq] at hv
    obtain ⟨rfl, rfl, rfl⟩ := hv
    obtain ⟨f, hf⟩ := take_sound h hG hxc h2 (fun c => .tail ⟨.slot d, some (c.getD 0)⟩)
    rw [hxv] at hf
    have hcr := cells_sound hf.rep hc2
    refine ⟨(m.ren f).alloc (.cells v.cells t) (fun _ => .box d), (Post.of_ren hf.ok m).trans (Post.alloc _ _ _ _), hrun m.w, ?_⟩
    have hfr := hf.fr.ext (ext_alloc (m.ren f) (.cells v.cells t) (fun _ => .box d)) rfl
    have hput := hfr.put d (lv := .undef) (v := .pointer (some ⟨m.w.heap.size, 0, none⟩)) (Rep.undef _) trivial
    by_cases hd : d < st2.sl.length
    · have hkl : d < (st2.kill d).length := by rw [kill_length]; exact hd
      have hsl : (st2.put (some d) .undef).sl[d]? = some (Slot.val .undef) := by simp [St.put, set_get?, hkl, LV.notOf]
      have hts : d < a.tmps.size := by rw [hf.fr.size]; exact hd
      have := hput.boxUp (d := d) (b := m.w.heap.size) (cs := w.cells) hsl (by simp [aset_get?, hts]) (new_block hcr) (fun i l z xs sp hi => ?_) (fun t p htp => (mem_forget htp).2)
      · have e : (st2.put (some d) .undef).sl.set d (.box w.cells) = (st2.kill d).set d (.box w.cells) := by simp [St.put, List.set_set]
        rw [e] at this; exact this
      · have hlt : i < v.cells.size := by
          have := (List.getElem?_eq_some_iff.1 hi).1
          have h3 := hcr.1; simp only [Array.length_toList] at h3; omega
        refine ⟨v.cells.getD i undef, ?_, ?_⟩
        · show ((m.ren f).w.alloc _).cell? _ = _
          rw [show m.w.heap.size = (m.ren f).w.heap.size from rfl, World.cell?_alloc_new, Array.getD_eq_getD_getElem?, Array.getElem?_eq_getElem hlt]; rfl
        · have := owns_cell (k := fun j => .tail ⟨.slot d, some j⟩) (fun c => rfl) hf.owns hf.rep hc2 i l z xs sp hi
          have e : v.cells.toList.getD i undef = v.cells.getD i undef := by simp [Array.getD_eq_getD_getElem?, List.getD_eq_getElem?_getD]
          rw [e] at this
          exact this.ext (ext_alloc _ _ _)
    · have e : (st2.kill d).set d (.box w.cells) = (st2.put (some d) .undef).sl := by
        simp only [St.put]
        rw [List.set_eq_of_length_le (by rw [kill_length]; omega), List.set_eq_of_length_le (by rw [kill_length]; omega)]
      rw [e]; exact hput
  · cases hv

/-- One object more. -/
def Mem.more (m : Mem) (b : Nat) : Mem := { m with ob := fun id => if id = m.n then b else m.ob id, n := m.n + 1 }
theorem le_more (m : Mem) (b : Nat) : m.le (m.more b) :=
  ⟨fun _ _ _ _ hc hk => ⟨hk, hc⟩, Nat.le_succ _, fun id hi => by show (if id = m.n then b else m.ob id) = _; rw [if_neg (by omega)]⟩
/-- A new block, as an object. -/
theorem Post.allocMore (m : Mem) (o : Obj) (c : Nat → Kd) : Post pb m ((m.alloc o c).more m.w.heap.size) := by
  have h := Post.alloc pb m o c
  refine ⟨h.os, h.tape, h.output, h.size, h.keep, h.kind, Nat.le_succ _, fun id hi => by show (if id = m.n then _ else m.ob id) = _; rw [if_neg (by omega)], fun id h1 h2 => ?_⟩
  have : id = m.n := by
    have : id < m.n + 1 := h2
    omega
  show m.w.heap.size ≤ (if id = m.n then m.w.heap.size else m.ob id)
  rw [if_pos this]; exact Nat.le_refl _
theorem OBlock.le {b : Nat} {cs : List LV} {k : Kd} {m' : Mem} (h : OBlock T m b cs k) (hw : m'.w = m.w) (hk : m'.k = m.k) (hle : m.le m') : OBlock T m' b cs k := by
  rcases h with ⟨h1, h⟩ | h
  · obtain ⟨vs, ty, h2, h3, h4, h5⟩ := h
    exact .inl ⟨h1, vs, ty, by rw [hw]; exact h2, h3, by rw [hk]; exact h4, fun j lv hj => ⟨(h5 j lv hj).1, (h5 j lv hj).2.mono hle⟩⟩
  · exact .inr (h.mono (by rw [hw]) (by rw [hk]; exact OBlock.class (.inr h)) hle)
theorem Block.le {b : Nat} {cs : List LV} {k : Kd} {m' : Mem} (h : Block T m b cs k) (hw : m'.w = m.w) (hk : m'.k = m.k) (hle : m.le m') : Block T m' b cs k := by
  obtain ⟨vs, ty, h1, h2, h3, h4⟩ := h
  exact ⟨vs, ty, by rw [hw]; exact h1, h2, by rw [hk]; exact h3, fun j lv hj => ⟨(h4 j lv hj).1, (h4 j lv hj).2.mono hle⟩⟩
theorem RAt.more {tmps : Array Value} {p : Place} {v : Value} {b : Nat} (h : RAt tmps m p v) (hob : ∀ id, p.root = .obj id → id < m.n) : RAt tmps (m.more b) p v := by
  obtain ⟨root, cell⟩ := p
  cases root <;> cases cell <;> simp only [RAt] at h ⊢ <;> try exact h
  rename_i id i
  show m.w.cell? ⟨(if id = m.n then b else m.ob id), i, none⟩ = _
  rw [if_neg (by have := hob id rfl; omega)]; exact h
theorem FR.more {tmps : Array Value} (h : FR T st tmps m) {b : Nat} {cs : List LV} (hb : OBlock T m b cs (.obj m.n)) (hn : m.n = st.ob.length)
    (ho : ∀ (i l z : Nat) (xs sp : List (List LV)), cs[i]? = some (.sl true l z xs sp) → ∃ v, m.w.cell? ⟨b, i, none⟩ = some v ∧ Tail m z v (.tail ⟨.obj st.ob.length, some i⟩)) :
    FR T { st with ob := st.ob ++ [cs] } tmps (m.more b) := by
  have hle := le_more m b
  refine ⟨h.size, by simp [Mem.more, hn], fun s p hsp => ⟨fun id hid => ?_, (h.alo s p hsp).2⟩, fun s lv hs => ?_, fun s c hc => ?_, fun id c hc => ?_, fun p l z xs sp hp => ?_, fun s p hsp => ?_⟩
  · have := (h.alo s p hsp).1 id hid; simp; omega
  · obtain ⟨v, g1, g2⟩ := h.val s lv hs
    exact ⟨v, g1, (VRep.st (st' := { st with ob := st.ob ++ [cs] }) g2 (fun _ hc => hc)).mono hle⟩
  · obtain ⟨b', g1, g2⟩ := h.box s c hc
    exact ⟨b', g1, g2.le rfl rfl hle⟩
  · simp only at hc
    by_cases hlt : id < st.ob.length
    · rw [List.getElem?_append_left hlt] at hc
      have e : (m.more b).ob id = m.ob id := by show (if id = m.n then b else m.ob id) = _; rw [if_neg (by omega)]
      rw [e]; exact (h.obj id c hc).le rfl rfl hle
    · rw [List.getElem?_append_right (by omega)] at hc
      have hid : id = st.ob.length := by have := (List.getElem?_eq_some_iff.1 hc).1; simp at this; omega
      subst hid
      simp at hc; subst hc
      have e : (m.more b).ob st.ob.length = b := by show (if st.ob.length = m.n then b else m.ob _) = _; rw [if_pos hn.symm]
      rw [e, ← hn]; exact hb.le rfl rfl hle
  · have hsame : (∀ id, p.root = .obj id → id < st.ob.length) → st.at p = some (.sl true l z xs sp) → ∃ v, RAt tmps (m.more b) p v ∧ Tail (m.more b) z v (.tail p) := by
      intro hlt hp'
      obtain ⟨v, g1, g2⟩ := h.own p l z xs sp hp'
      exact ⟨v, g1.more (fun id hid => by rw [hn]; exact hlt id hid), g2⟩
    obtain ⟨root, cell⟩ := p
    cases root with
    | slot s => exact hsame (fun id e => by cases e) (by cases cell <;> exact hp)
    | obj id =>
      cases cell with
      | none => simp [St.at] at hp
      | some i =>
        simp only [St.at] at hp
        by_cases hlt : id < st.ob.length
        · rw [List.getElem?_append_left hlt] at hp
          exact hsame (fun id' e => by injection e with e; subst e; exact hlt) (by simp only [St.at]; exact hp)
        · rw [List.getElem?_append_right (by omega)] at hp
          split at hp
          · rename_i c hc
            have hid : id = st.ob.length := by have := (List.getElem?_eq_some_iff.1 hc).1; simp at this; omega
            subst hid
            simp at hc; subst hc
            obtain ⟨v, g1, g2⟩ := ho i l z xs sp hp
            refine ⟨v, ?_, g2⟩
            show m.w.cell? ⟨(if st.ob.length = m.n then b else m.ob _), i, none⟩ = _
            rw [if_pos hn.symm]; exact g1
          · cases hp
  · obtain ⟨u, g1, g2⟩ := h.al s p hsp
    exact ⟨u, g1.more (fun id hid => by rw [hn]; exact (h.alo s p hsp).1 id hid), g2⟩

theorem op_new (h : FR T st a.tmps m) (hG : Globs T E.gl m) {t : TypeId} {sz : Nat} {y : Opd} {v : Value} (hrun : ∀ w : World, (execOp a.eval o).run T.P w = .ok (.value (.pointer (some ⟨w.heap.size, 0, none⟩))) (w.alloc (.cells v.cells t)))
    (hx : ∃ x, chkOpd T x y = true ∧ a.eval x = v)
    (hv : valOp E ev pb st dst (.new sz y) = some (lv, st1, note)) : OpOk T pb st1 a dst m lv note (execOp a.eval o) := by
  obtain ⟨x, hxc, hxv⟩ := hx
  simp only [valOp] at hv
  obtain ⟨⟨w, st2⟩, h2, hv⟩ := Option.bind_eq_some_iff.1 hv
  split at hv
  · rename_i hcond
    obtain ⟨hc1, hc2⟩ := hcond
    simp only [Option.some.injEq, Prod.mk.injEq] at hv
    obtain ⟨rfl, rfl, rfl⟩ := hv
    obtain ⟨f, hf⟩ := take_sound h hG hxc h2 (fun c => .tail ⟨.obj st2.ob.length, some (c.getD 0)⟩)
    rw [hxv] at hf
    have hcr := cells_sound hf.rep hc2
    have hn : m.n = st2.ob.length := hf.fr.n
    have hwl : (w, st2).2.ob.length = st2.ob.length := rfl
    have hpost : Post pb m (((m.ren f).alloc (.cells v.cells t) (fun _ => .obj m.n)).more m.w.heap.size) := by
      exact (Post.of_ren hf.ok m).trans (Post.allocMore (m.ren f) _ _)
    have hext := ext_alloc (m.ren f) (.cells v.cells t) (fun _ => .obj m.n)
    have hfr := (hf.fr.ext hext rfl)
    have hblk := new_block (T := T) (m := m.ren f) (v := v) (ty := t) (k := .obj m.n) hcr
    refine ⟨.pointer (some ⟨m.w.heap.size, 0, none⟩), _, hpost, hrun m.w, ?_, ?_, fun d _ => trivial, fun p hp => by cases hp⟩
    · refine FR.more hfr (.inl ⟨hblk.notMap, hblk⟩) hn (fun i l z xs sp hi => ?_)
      have hlt : i < v.cells.size := by
        have := (List.getElem?_eq_some_iff.1 hi).1
        have h3 := hcr.1; simp only [Array.length_toList] at h3; omega
      refine ⟨v.cells.getD i undef, ?_, ?_⟩
      · show ((m.ren f).w.alloc _).cell? _ = _
        rw [show m.w.heap.size = (m.ren f).w.heap.size from rfl, World.cell?_alloc_new, Array.getD_eq_getD_getElem?, Array.getElem?_eq_getElem hlt]; rfl
      · have := owns_cell (k := fun j => .tail ⟨.obj st2.ob.length, some j⟩) (fun c => rfl) hf.owns hf.rep hc2 i l z xs sp hi
        have e : v.cells.toList.getD i undef = v.cells.getD i undef := by simp [Array.getD_eq_getD_getElem?, List.getD_eq_getElem?_getD]
        rw [e] at this
        exact this.ext hext
    · have := Rep.optr (T := T) (m := ((m.ren f).alloc (.cells v.cells t) (fun _ => .obj m.n)).more m.w.heap.size) st2.ob.length 0 (by show _ < m.n + 1; omega)
      have e : (((m.ren f).alloc (.cells v.cells t) (fun _ => .obj m.n)).more m.w.heap.size).ob st2.ob.length = m.w.heap.size := by
        show (if st2.ob.length = m.n then m.w.heap.size else m.ob _) = _
        rw [if_pos hn.symm]
      rw [e] at this; exact this
  · cases hv
end
end Tree

set_option autoImplicit false
set_option linter.unusedVariables false
set_option linter.unusedSimpArgs false
namespace Tree
open Go
section
variable {T : Tab} {E : Env} {ev : Ev} {pb : Nat} {st st1 : St} {a : Act} {dst : Option Nat} {m : Mem} {lv : LV} {note : Option Place} {o : Oper}

theorem run_append_in {P : Program} {w : World} {t u ty e : TypeId} {i : TypeInfo} (ht : P.underlying t = some (.slice e)) (hu : (∃ e', P.underlying u = some (.slice e')) ∨ P.underlying u = some .string) (hi : P.info? e = some i)
    {base : Option Addr} {sLen sCap n : Nat} {x : Value} {news : List Value} (hlen : (Builtin.lenOf x).run P w = .ok n w) (hnews : (Builtin.firstCells i.size n x).run P w = .ok news.toArray w) (hroom : sLen + n ≤ sCap) :
    (Builtin.append_ #[t, u] ty #[.slice base sLen sCap, x]).run P w =
      ((match base with | some ad => storeCells (ad.add (sLen * i.size)) news | none => (pure () : Sem Unit)).run P w).andThen fun _ w' => .ok (.slice base (sLen + n) sCap) w' := by
  unfold Builtin.append_
  simp only [List.getElem?_toArray, List.getElem?_cons_zero, List.getElem?_cons_succ, Sem.run_bind, runU ht, Result.andThen_ok, Go.sizeOf, runI hi, Sem.run_pure]
  rcases hu with ⟨e', h⟩ | h
  · simp only [Sem.run_bind, runU h, Result.andThen_ok, Sem.run_pure, Bool.false_eq_true, if_false, hlen, Sem.run_ite, if_pos hroom, Bool.not_false, if_true, hnews]
    try (cases base <;> simp)
  · simp only [Sem.run_bind, runU h, Result.andThen_ok, Sem.run_pure, Bool.false_eq_true, if_false, hlen, Sem.run_ite, if_pos hroom, Bool.not_false, if_true, hnews]
    try (cases base <;> simp)

theorem run_append_new {P : Program} {w : World} {t u ty e : TypeId} {i : TypeInfo} {z : Value} (ht : P.underlying t = some (.slice e)) (hu : (∃ e', P.underlying u = some (.slice e')) ∨ P.underlying u = some .string) (hi : P.info? e = some i) (hz : i.zero = some z)
    {base : Option Addr} {sLen sCap n : Nat} {x : Value} {olds news : List Value} (hlen : (Builtin.lenOf x).run P w = .ok n w) (holds : (Builtin.firstCells i.size sLen (.slice base sLen sCap)).run P w.drew = .ok olds.toArray w.drew)
    (hnews : (Builtin.firstCells i.size n x).run P w.drew = .ok news.toArray w.drew) (hroom : sCap < sLen + n) (hb0 : i.bytes ≠ 0) (hb : (sLen + n) * i.bytes ≤ 140737488355328) :
    (Builtin.append_ #[t, u] ty #[.slice base sLen sCap, x]).run P w =
      .ok (.slice (some ⟨w.heap.size, 0, none⟩) (sLen + n) (grownCap w (sLen + n) sCap e))
        (w.drew.alloc (.cells (olds.toArray ++ news.toArray ++ Builtin.zeroCells z.cells (grownCap w (sLen + n) sCap e - (sLen + n))) e)) := by
  have hn : ¬ (sLen + n ≤ sCap) := by omega
  have h48 : ¬ (281474976710656 < Builtin.nextslicecap (sLen + n) sCap * i.bytes) := by
    have := growslice_fits (old := sCap) (need := sLen + n) (bytes := i.bytes) hroom hb; omega
  have hle : sLen + n ≤ 140737488355328 := Nat.le_trans (Nat.le_mul_of_pos_right _ (Nat.pos_of_ne_zero hb0)) hb
  have h63 : ¬ (9223372036854775807 < ((sLen : Int) + (n : Int))) := by omega
  rcases hu with ⟨e', h⟩ | h
  · simp [Builtin.append_, runU ht, runU h, Go.sizeOf, typeInfo, zeroValue, hi, hz, hlen, hn, h63, h48, Question.forced, holds, hnews, newRow, grownCap]
    congr 2; apply Array.ext'; simp [List.append_assoc]
  · simp [Builtin.append_, runU ht, runU h, Go.sizeOf, typeInfo, zeroValue, hi, hz, hlen, hn, h63, h48, Question.forced, holds, hnews, newRow, grownCap]
    congr 2; apply Array.ext'; simp [List.append_assoc]

/-- A stretch of free cells of a block is written, and stays so from then on. -/
def Mem.fixed (m : Mem) (b lo hi : Nat) (new : Array Value) : Mem :=
  { m with w := m.w.setRow b new, k := fun x o => if x = b ∧ lo ≤ o ∧ o < hi then .imm 0 else m.k x o }
theorem fixed_k {b lo hi : Nat} {new : Array Value} (x o : Nat) : (m.fixed b lo hi new).k x o = if x = b ∧ lo ≤ o ∧ o < hi then .imm 0 else m.k x o := rfl
theorem FR.fixed {tmps : Array Value} (h : FR T st tmps m) {b lo hi : Nat} {old new : Array Value} {ty : TypeId} (hb : m.w.heap[b]? = some (.cells old ty (0, 0))) (hs : new.size = old.size)
    (hk : ∀ o, lo ≤ o → o < hi → ∃ c, m.k b o = .res c) (hlt : lo < hi) (hsame : ∀ o, ¬ (lo ≤ o ∧ o < hi) → new[o]? = old[o]?) :
    FR T st tmps (m.fixed b lo hi new) ∧ Post pb m (m.fixed b lo hi new) := by
  have hkk : ∀ x o, (∀ c, m.k x o ≠ .res c) → (m.fixed b lo hi new).k x o = m.k x o := by
    intro x o hn
    rw [fixed_k, if_neg]
    rintro ⟨e, h1, h2⟩
    subst e
    obtain ⟨c, hc⟩ := hk o h1 h2
    exact hn c hc
  have hpost : Post pb m (m.fixed b lo hi new) := by
    refine ⟨rfl, rfl, rfl, by simp [Mem.fixed], fun x hx => ?_, fun x o hx hko => hkk x o ?_, Nat.le_refl _, fun _ _ => rfl, fun _ h1 h2 => absurd h1 (Nat.not_le.2 h2)⟩
    · have := setRow_at (new := new) hb x
      by_cases e : x = b
      · subst e
        rw [if_pos rfl] at this
        refine .inr (.inl ⟨old, new, ty, hb, this, hs, fun o ho => hsame o ?_⟩)
        rintro ⟨h1, h2⟩
        obtain ⟨c, hc⟩ := hk o h1 h2
        rw [hc] at ho
        simp at ho
      · rw [if_neg e] at this; exact .inl this
    · intro c e
      rw [e] at hko; simp at hko
  have hle := hpost.le
  have hnb : ∀ b' cs k, Block T m b' cs k → (∀ c, k ≠ .res c) → b' ≠ b := by
    intro b' cs k hbk hn e
    subst e
    obtain ⟨c, hc⟩ := hk lo (Nat.le_refl _) hlt
    exact hn c ((block_class hbk lo).symm.trans hc)
  have hblock : ∀ b' cs k, Block T m b' cs k → (∀ c, k ≠ .res c) → Block T (m.fixed b lo hi new) b' cs k := by
    intro b' cs k hbk hn
    have hne := hnb b' cs k hbk hn
    obtain ⟨vs, ty', h1, h2, h3, h4⟩ := hbk
    refine ⟨vs, ty', ?_, h2, fun o => by rw [hkk _ _ (by rw [h3]; exact hn)]; exact h3 o, fun j lv hj => ⟨(h4 j lv hj).1, (h4 j lv hj).2.mono hle⟩⟩
    have := setRow_at (new := new) hb b'
    rw [if_neg hne] at this
    exact this.trans h1
  have hnbO : ∀ b' cs k, OBlock T m b' cs k → (∀ c, k ≠ .res c) → b' ≠ b := by
    intro b' cs k hbk hn e
    subst e
    obtain ⟨c, hc⟩ := hk lo (Nat.le_refl _) hlt
    exact hn c ((hbk.class lo).symm.trans hc)
  have hblockO : ∀ b' cs k, OBlock T m b' cs k → (∀ c, k ≠ .res c) → OBlock T (m.fixed b lo hi new) b' cs k := by
    intro b' cs k hbk hn
    have hne := hnbO b' cs k hbk hn
    rcases hbk with ⟨g, hbk⟩ | hbk
    · exact .inl ⟨g, hblock _ _ _ hbk hn⟩
    · have hcl := OBlock.class (.inr hbk)
      refine .inr (hbk.mono ?_ (fun o => by rw [hkk _ _ (by rw [hcl]; exact hn)]; exact hcl o) hle)
      have := setRow_at (new := new) hb b'
      rw [if_neg hne] at this
      exact this
  have hrat : ∀ p v, RAt tmps m p v → (∀ id, p.root = .obj id → id < st.ob.length) → (∀ s i, p = ⟨.slot s, some i⟩ → (∃ cs, st.sl[s]? = some (Slot.box cs)) ∨ ∀ b', tmps[s]? ≠ some (.pointer (some ⟨b', 0, none⟩))) → RAt tmps (m.fixed b lo hi new) p v := by
    intro p v hv hreal hslot
    obtain ⟨root, cell⟩ := p
    cases root <;> cases cell <;> simp only [RAt] at hv ⊢ <;> try exact hv
    · rename_i s i
      rcases hv with hv | ⟨b', h1, h2⟩
      · exact .inl hv
      · refine .inr ⟨b', h1, ?_⟩
        show (m.w.setRow b new).cell? _ = _
        rw [setRow_cell hb, if_neg]
        · exact h2
        · rcases hslot s i rfl with ⟨cs, hcs⟩ | hno
          · obtain ⟨b2, g1, g2⟩ := h.box s cs hcs
            rw [h1] at g1; injection g1 with g1; injection g1 with g1; injection g1 with g1; injection g1 with g1; subst g1
            exact hnb _ _ _ g2 (by intro c e; cases e)
          · exact absurd h1 (hno b')
    · rename_i id i
      show (m.w.setRow b new).cell? _ = _
      rw [setRow_cell hb, if_neg]
      · exact hv
      · have hlt := hreal id rfl
        exact hnbO _ _ _ (h.obj id st.ob[id] (List.getElem?_eq_getElem hlt)) (by intro c e; cases e)
  refine ⟨⟨h.size, h.n, h.alo, fun s lv hs => let ⟨v, g1, g2⟩ := h.val s lv hs; ⟨v, g1, g2.mono hle⟩, fun s c hc => let ⟨b', g1, g2⟩ := h.box s c hc; ⟨b', g1, hblock _ _ _ g2 (by intro c e; cases e)⟩,
    fun id c hc => hblockO _ _ _ (h.obj id c hc) (by intro c e; cases e), fun p l z xs sp hp => ?_, fun s p hsp => ?_⟩, hpost⟩
  · obtain ⟨v, g1, g2⟩ := h.own p l z xs sp hp
    refine ⟨v, hrat p v g1 (St.at_lt hp) (fun s i e => ?_), fun x o ht => ?_⟩
    · subst e
      simp only [St.at] at hp
      split at hp
      · rename_i c hc
        refine .inr fun b' hb' => ?_
        obtain ⟨v', k1, k2⟩ := h.val s _ hc
        rw [hb'] at k1; injection k1 with k1; subst k1
        cases k2
      · rename_i c hc; exact .inl ⟨c, hc⟩
      · cases hp
    · obtain ⟨j1, vs, ty', j2, j3⟩ := g2 x o ht
      refine ⟨by rw [hkk _ _ (by rw [j1]; intro c e; cases e)]; exact j1, ?_⟩
      have := setRow_at (new := new) hb x
      by_cases e : x = b
      · subst e
        rw [if_pos rfl] at this
        rw [hb] at j2; injection j2 with j2; injection j2 with j2 j2'; subst j2; subst j2'
        exact ⟨new, ty, this, by rw [hs]; exact j3⟩
      · rw [if_neg e] at this; exact ⟨vs, ty', this.trans j2, j3⟩
  · obtain ⟨u, g1, g2⟩ := h.al s p hsp
    exact ⟨u, hrat p u g1 (h.alo s p hsp).1 (fun s' i e => .inl ((h.alo s p hsp).2 s' i e)), g2⟩

/-- The cells of what is appended. -/
theorem elems_sound {y : LV} {xv : Value} {z : Nat} {ys : List (List LV)} {sz : Nat} (hr : VRep T st a.tmps m y xv) (he : elems y = some (z, ys)) (hz : z = sz ∨ ys = []) (hsz : 0 < sz) :
    ∃ news : List Value, (∀ w' : World, (∀ ad, w'.cell? ad = m.w.cell? ad) → (Builtin.lenOf xv).run T.P w' = .ok ys.length w' ∧ (Builtin.firstCells sz ys.length xv).run T.P w' = .ok news.toArray w') ∧ news.length = ys.length * sz ∧
      (∀ x ∈ ys, x.length = sz) ∧ (∀ u ∈ news, u.oneCell' = true) ∧ ∀ (i : Nat) (lv : LV), ys.flatten[i]? = some lv → ∃ v, news[i]? = some v ∧ Rep T m lv v := by
  cases y with
  | str s =>
    simp only [elems, Option.some.injEq, Prod.mk.injEq] at he
    obtain ⟨rfl, rfl⟩ := he
    cases hr
    have hsz1 : s.data.toList.length = s.size := by simp
    have hall : ∀ x ∈ (s.data.toList.map fun b => [LV.int .u8 (b.toNat : Int)]), x.length = 1 := by
      intro x hx; obtain ⟨b, _, rfl⟩ := List.mem_map.1 hx; rfl
    have hflat : (s.data.toList.map fun b => [LV.int .u8 (b.toNat : Int)]).flatten = s.data.toList.map fun b => LV.int .u8 (b.toNat : Int) := by
      induction s.data.toList with
      | nil => rfl
      | cons b r ih => simp only [List.map_cons, List.flatten_cons, ih]; rfl
    refine ⟨s.data.toList.map fun b => .int .u8 b.toNat, fun w' _ => ⟨?_, ?_⟩, ?_, ?_, ?_, ?_⟩
    · simp [Builtin.lenOf]
    · simp only [Builtin.firstCells, Sem.run_pure, List.length_map, hsz1]
      congr 1
      apply Array.ext'
      simp [ByteArray.data_extract]
    · rcases hz with rfl | hz
      · simp
      · have : s.data.toList = [] := by simpa using hz
        simp [this]
    · rcases hz with rfl | hz
      · exact hall
      · rw [hz]; intro x hx; cases hx
    · intro u hu; obtain ⟨b, _, rfl⟩ := List.mem_map.1 hu; rfl
    · intro i lv hi
      rw [hflat, List.getElem?_map] at hi
      obtain ⟨b, hb, rfl⟩ := Option.map_eq_some_iff.1 hi
      exact ⟨.int .u8 b.toNat, by rw [List.getElem?_map, hb]; rfl, .int _ _⟩
  | sl own lab z' xs sp =>
    simp only [elems, Option.some.injEq, Prod.mk.injEq] at he
    obtain ⟨rfl, rfl⟩ := he
    have hr' : Rep T m (.sl own lab z' xs sp) xv := hr
    cases hr' with
    | nil =>
      refine ⟨[], fun w' _ => ⟨by simp [Builtin.lenOf], by simp [Builtin.firstCells]⟩, by simp, (by intro x hx; cases hx), (by intro u hu; cases hu), (by intro i lv hi; simp at hi)⟩
    | emp =>
      refine ⟨[], fun w' _ => ⟨by simp [Builtin.lenOf], ?_⟩, by simp, (by intro x hx; cases hx), (by intro u hu; cases hu), (by intro i lv hi; simp at hi)⟩
      simp [Builtin.firstCells, loadCells, loadCellsFrom]
    | sl _ _ _ _ _ b off cap val hc hzz hm hrr =>
      by_cases hx0 : xs = []
      · subst hx0
        refine ⟨[], fun w' _ => ⟨by simp [Builtin.lenOf], ?_⟩, by simp, (by intro x hx; cases hx), (by intro u hu; cases hu), (by intro i lv hi; simp at hi)⟩
        simp [Builtin.firstCells, loadCells, loadCellsFrom]
      · have hz1 : z' = sz := by rcases hz with h | h; exact h; exact absurd h hx0
        subst hz1
        have hall : ∀ x ∈ xs, x.length = z' := fun x hx => hzz x (List.mem_append_left _ hx)
        have hget : ∀ k, k < xs.length * z' → ∃ x lv, (xs ++ sp)[k / z']? = some x ∧ x[k % z']? = some lv ∧ xs.flatten[k]? = some lv := by
          intro k hk
          have hkm : k % z' < z' := Nat.mod_lt _ hsz
          have hkd : k / z' < xs.length := (Nat.div_lt_iff_lt_mul hsz).2 hk
          have hxl := hall xs[k / z'] (List.getElem_mem hkd)
          refine ⟨xs[k / z'], xs[k / z'][k % z']'(by omega), ?_, List.getElem?_eq_getElem _, ?_⟩
          · rw [List.getElem?_append_left hkd]; exact List.getElem?_eq_getElem hkd
          · have := flat_get xs hall (k / z') (k % z') hkm
            rw [← flat_split hsz] at this
            rw [this, List.getElem?_eq_getElem hkd, Option.bind_some, List.getElem?_eq_getElem (by omega)]
        refine ⟨(List.range (xs.length * z')).map fun k => val (k / z') (k % z'), fun w' hw => ⟨by simp [Builtin.lenOf], ?_⟩, by simp, hall, ?_, ?_⟩
        · simp only [Builtin.firstCells]
          refine run_loadCells w' _ _ _ fun k hk => ?_
          obtain ⟨x, lv, g1, g2, g3⟩ := hget k hk
          have := (hm _ _ _ _ g1 g2).2.1
          rw [hw, Addr.add_lit]
          rw [Nat.add_assoc, ← flat_split hsz] at this
          exact this
        · intro u hu
          obtain ⟨k, hk, rfl⟩ := List.mem_map.1 hu
          obtain ⟨x, lv, g1, g2, g3⟩ := hget k (List.mem_range.1 hk)
          exact (hm _ _ _ _ g1 g2).2.2
        · intro k lv hk
          have hlt := (List.getElem?_eq_some_iff.1 hk).1
          rw [flat_len xs hall] at hlt
          obtain ⟨x, lv', g1, g2, g3⟩ := hget k hlt
          rw [hk] at g3; injection g3 with g3; subst g3
          exact ⟨val (k / z') (k % z'), by rw [List.getElem?_map, List.getElem?_range hlt]; rfl, hrr _ _ _ _ g1 g2⟩
  | _ => simp [elems] at he
end
end Tree

set_option autoImplicit false
set_option linter.unusedVariables false
set_option linter.unusedSimpArgs false
namespace Tree
open Go
section
variable {T : Tab} {E : Env} {ev : Ev} {pb : Nat} {st st1 : St} {a : Act} {dst : Option Nat} {m : Mem} {lv : LV} {note : Option Place} {o : Oper}

/-- What an append comes to: the slice's right in hand (class 'res none'). -/
theorem append_core {st2 : St} {e : TypeId} {i : TypeInfo} {z : Value} {t u ty : TypeId} {sz bytes : Nat} {sv xv : Value} {xs ys : List (List LV)} {zy : Nat} {y : LV}
    (hfr : FR T st2 a.tmps m) (hs : Rep T m (.sl true 0 sz xs []) sv) (hown : Tail m sz sv (.res none)) (hy : VRep T st a.tmps m y xv) (hel : elems y = some (zy, ys)) (hzy : zy = sz ∨ ys = [])
    (ht : T.P.underlying t = some (.slice e)) (hu : (∃ e', T.P.underlying u = some (.slice e')) ∨ T.P.underlying u = some .string) (hi : T.P.info? e = some i) (hz : i.zero = some z) (hsize : i.size = sz) (hbytes : i.bytes = bytes)
    (hsz0 : sz ≠ 0) (hb0 : bytes ≠ 0) (hzc : z.cells.size = sz) (hbound : (xs.length + ys.length) * bytes ≤ 140737488355328) :
    ∃ v m', Post pb m m' ∧ (Builtin.append_ #[t, u] ty #[sv, xv]).run T.P m.w = .ok v m'.w ∧ FR T st2 a.tmps m' ∧ Rep T m' (.sl true 0 sz (xs ++ ys) []) v ∧ Tail m' sz v (.res none) := by
  have hszp : 0 < sz := Nat.pos_of_ne_zero hsz0
  obtain ⟨news, n1, n2, n3, n4, n5⟩ := elems_sound hy hel hzy hszp
  have hxl : ∀ x ∈ xs, x.length = sz := by
    cases hs with
    | nil => intro x hx; cases hx
    | emp => intro x hx; cases hx
    | sl _ _ _ _ _ b off cap val hc hzz hm hr => intro x hx; exact hzz x (by simpa using hx)
  have hall : ∀ x ∈ xs ++ ys, x.length = sz := by
    intro x hx; rcases List.mem_append.1 hx with h | h
    · exact hxl x h
    · exact n3 x h
  obtain ⟨hlen, hfc⟩ := n1 m.w (fun _ => rfl)
  obtain ⟨_, hfc'⟩ := n1 m.w.drew (fun _ => rfl)
  rw [← hsize] at hfc hfc'
  -- a new block
  have grow : ∀ (base : Option Addr) (cap : Nat) (olds : List Value), sv = .slice base xs.length cap → cap < xs.length + ys.length →
      (Builtin.firstCells i.size xs.length (.slice base xs.length cap)).run T.P m.w.drew = .ok olds.toArray m.w.drew → olds.length = xs.length * sz → (∀ u ∈ olds, u.oneCell' = true) →
      (∀ (j : Nat) (lv : LV), xs.flatten[j]? = some lv → ∃ v, olds[j]? = some v ∧ Rep T m lv v) →
      ∃ v m', Post pb m m' ∧ (Builtin.append_ #[t, u] ty #[sv, xv]).run T.P m.w = .ok v m'.w ∧ FR T st2 a.tmps m' ∧ Rep T m' (.sl true 0 sz (xs ++ ys) []) v ∧ Tail m' sz v (.res none) := by
    intro base cap olds hsv hcap holds hol ho1 hor
    subst hsv
    have hrun := run_append_new (ty := ty) ht hu hi hz hlen holds hfc' hcap (by omega) (by rw [hbytes]; exact hbound)
    have hge := grownCap_ge m.w (xs.length + ys.length) cap e
    have hNM := grownCap_le_maxLen m.w (xs.length + ys.length) cap e (by
      have : (xs.length + ys.length) * 1 ≤ (xs.length + ys.length) * bytes := Nat.mul_le_mul_left _ (by omega)
      unfold maxLen; omega)
    generalize hN : grownCap m.w (xs.length + ys.length) cap e = N at hrun hge hNM
    let cls : Nat → Kd := fun o => if o < (xs.length + ys.length) * sz then .imm 0 else .res none
    have hext : m.ext (m.drew.alloc (.cells (olds.toArray ++ news.toArray ++ Builtin.zeroCells z.cells (N - (xs.length + ys.length))) e) cls) :=
      ⟨(le_drew m).trans (le_alloc _ _ _), fun b hb => (ext_alloc m.drew _ cls).heap b hb, fun b o' hb => (ext_alloc m.drew _ cls).kind b o' hb⟩
    have hcells : ∀ j, (olds.toArray ++ news.toArray ++ Builtin.zeroCells z.cells (N - (xs.length + ys.length)))[j]? = if j < olds.length + news.length then (olds ++ news)[j]? else (Builtin.zeroCells z.cells (N - (xs.length + ys.length)))[j - (olds.length + news.length)]? := by
      intro j
      rw [Array.getElem?_append]
      simp only [Array.size_append, List.size_toArray]
      split
      · rw [List.append_toArray, List.getElem?_toArray]
      · rfl
    have hrep := new_slice (T := T) (m := m.drew) (xs := xs ++ ys) (sz := sz) (cap := N) (cells := olds.toArray ++ news.toArray ++ Builtin.zeroCells z.cells (N - (xs.length + ys.length))) (ty := e) cls hall (by simpa using hge) hNM hszp
      (fun o' ho' => by simp only [cls]; rw [if_pos (by simpa using ho')]) (fun j lv hj => ?_) true
    · refine ⟨_, _, (Post.drew pb m).trans (Post.alloc _ _ _ _), hrun, hfr.ext hext rfl, ?_, ?_⟩
      · rw [List.length_append] at hrep; exact hrep
      · intro b o' ht'
        simp only [tail] at ht'
        obtain ⟨rfl, h1, h2⟩ := ht'
        refine ⟨?_, olds.toArray ++ news.toArray ++ Builtin.zeroCells z.cells (N - (xs.length + ys.length)), e, heap_alloc_new m.w.drew _, ?_⟩
        · show (if m.drew.w.heap.size = m.drew.w.heap.size then cls o' else _) = _
          rw [if_pos rfl]; simp only [cls]; rw [if_neg (by omega)]
        · simp only [Array.size_append, List.size_toArray, size_zeroCells, hzc, hol, n2]
          have : (xs.length * sz + ys.length * sz) + (N - (xs.length + ys.length)) * sz = N * sz := by rw [← Nat.add_mul, ← Nat.add_mul]; congr 1; omega
          omega
    · rw [List.flatten_append] at hj
      have hjl := (List.getElem?_eq_some_iff.1 hj).1
      rw [List.length_append, flat_len xs hxl, flat_len ys n3] at hjl
      rw [hcells, if_pos (by rw [hol, n2]; exact hjl)]
      by_cases hc : j < xs.length * sz
      · rw [List.getElem?_append_left (by rw [flat_len xs hxl]; exact hc)] at hj
        obtain ⟨v, h1, h2⟩ := hor j lv hj
        exact ⟨v, by rw [List.getElem?_append_left (by omega)]; exact h1, ho1 v (List.mem_of_getElem? h1), h2.mono (le_drew m)⟩
      · rw [List.getElem?_append_right (by rw [flat_len xs hxl]; omega), flat_len xs hxl] at hj
        obtain ⟨v, h1, h2⟩ := n5 _ lv hj
        exact ⟨v, by rw [List.getElem?_append_right (by omega), hol]; exact h1, n4 v (List.mem_of_getElem? h1), h2.mono (le_drew m)⟩
  cases hs with
  | nil =>
    by_cases hy0 : ys = []
    · subst hy0
      have hn0 : news = [] := List.eq_nil_of_length_eq_zero (by simpa using n2)
      have hrun := run_append_in (ty := ty) ht hu hi (base := none) (sLen := 0) (sCap := 0) hlen hfc (by simp)
      refine ⟨.slice none 0 0, m, Post.refl _ _, by simpa using hrun, hfr, by simpa using Rep.nil _ _ _, fun b o' ht' => ht'.elim⟩
    · have : 0 < ys.length := List.length_pos_iff.2 hy0
      exact grow none 0 [] rfl (by simpa using this) (by simp [Builtin.firstCells]) (by simp) (by simp) (by intro j lv hj; simp at hj)
  | emp _ _ _ a0 =>
    by_cases hy0 : ys = []
    · subst hy0
      have hn0 : news = [] := List.eq_nil_of_length_eq_zero (by simpa using n2)
      subst hn0
      have hrun := run_append_in (ty := ty) ht hu hi (base := some a0) (sLen := 0) (sCap := 0) hlen hfc (by simp)
      refine ⟨.slice (some a0) 0 0, m, Post.refl _ _, by simpa [storeCells] using hrun, hfr, by simpa using Rep.emp _ _ _ a0, fun b o' ht' => ?_⟩
      simp [tail] at ht'; omega
    · have : 0 < ys.length := List.length_pos_iff.2 hy0
      exact grow (some a0) 0 [] rfl (by simpa using this) (by simp [Builtin.firstCells, loadCells, loadCellsFrom]) (by simp) (by simp) (by intro j lv hj; simp at hj)
  | sl _ _ _ _ _ b off cap val hc hzz hm hr hM =>
    by_cases hroom : xs.length + ys.length ≤ cap
    · have hrun := run_append_in (ty := ty) ht hu hi (base := some ⟨b, off, none⟩) (sLen := xs.length) (sCap := cap) hlen hfc hroom
      simp only at hrun
      rw [hsize, add_off] at hrun
      by_cases hy0 : ys = []
      · subst hy0
        have hn0 : news = [] := List.eq_nil_of_length_eq_zero (by simpa using n2)
        subst hn0
        refine ⟨_, m, Post.refl _ _, by simpa [storeCells] using hrun, hfr, ?_, by simpa using hown⟩
        have := Rep.sl (T := T) (m := m) true 0 sz xs [] b off cap val hc hzz hm hr hM
        simpa using this
      · have hyl : 0 < ys.length := List.length_pos_iff.2 hy0
        -- the block
        have hmulle : xs.length * sz + ys.length * sz ≤ cap * sz := by rw [← Nat.add_mul]; exact Nat.mul_le_mul_right _ hroom
        have hypos : 0 < ys.length * sz := Nat.mul_pos hyl hszp
        have htail : ∀ o', off + xs.length * sz ≤ o' → o' < off + cap * sz → tail sz (.slice (some ⟨b, off, none⟩) xs.length cap) b o' := fun o' h1 h2 => ⟨rfl, h1, h2⟩
        obtain ⟨k0, cur, cty, hb, _⟩ := hown b (off + xs.length * sz) (htail _ (Nat.le_refl _) (by omega))
        have hfit : off + xs.length * sz + ys.length * sz ≤ cur.size := by
          obtain ⟨_, cur', cty', hb', ho'⟩ := hown b (off + xs.length * sz + ys.length * sz - 1) (htail _ (by omega) (by omega))
          rw [hb] at hb'; injection hb' with hb'; injection hb' with hb' _; subst hb'; omega
        have hst := run_storeCells_at T.P b (off + xs.length * sz) cty news 0 cur m.w hb (by omega) n4
        rw [Nat.add_zero] at hst
        obtain ⟨new, hne⟩ : ∃ new : Array Value, new = (cur.toList.take (off + xs.length * sz) ++ news ++ cur.toList.drop (off + xs.length * sz + news.length)).toArray := ⟨_, rfl⟩
        rw [← hne] at hst
        have hns : new.size = cur.size := by rw [hne]; simp; omega
        have hnl : ∀ k : Nat, new[k]? = (cur.toList.take (off + xs.length * sz) ++ (news ++ cur.toList.drop (off + xs.length * sz + news.length)))[k]? := by
          intro k; rw [hne, List.getElem?_toArray, List.append_assoc]
        have hm2 : (cur.toList.take (off + xs.length * sz)).length = off + xs.length * sz := by simp; omega
        obtain ⟨f1, f2⟩ := hfr.fixed (pb := pb) (lo := off + xs.length * sz) (hi := off + xs.length * sz + ys.length * sz) (new := new) hb hns
          (fun o' h1 h2 => ⟨none, (hown b o' (htail o' h1 (by omega))).1⟩) (by omega) (fun o' ho' => by
            rw [hnl]
            by_cases hc1 : o' < off + xs.length * sz
            · rw [List.getElem?_append_left (by omega), List.getElem?_take, if_pos hc1, Array.getElem?_toList]
            · rw [List.getElem?_append_right (by omega), List.getElem?_append_right (by omega), List.getElem?_drop, Array.getElem?_toList]
              congr 1; omega)
        refine ⟨_, _, f2, by rw [hrun, hst]; rfl, f1, ?_, ?_⟩
        · -- it reads as the whole
          have hle := f2.le
          have hnewcell : ∀ j lv, ys.flatten[j]? = some lv → ∃ v, new[off + xs.length * sz + j]? = some v ∧ v.oneCell' = true ∧ Rep T m lv v := by
            intro j lv hj
            obtain ⟨v, h1, h2⟩ := n5 j lv hj
            have hjl := (List.getElem?_eq_some_iff.1 h1).1
            refine ⟨v, ?_, n4 v (List.mem_of_getElem? h1), h2⟩
            rw [hnl, List.getElem?_append_right (by omega), hm2, List.getElem?_append_left (by omega)]
            rw [show off + xs.length * sz + j - (off + xs.length * sz) = j by omega]; exact h1
          have hcell : ∀ o', (m.fixed b (off + xs.length * sz) (off + xs.length * sz + ys.length * sz) new).w.cell? ⟨b, o', none⟩ = new[o']? := by
            intro o'
            show (m.w.setRow b new).cell? _ = _
            rw [setRow_cell hb, if_pos rfl]
          have key : ∀ k x j lv, (xs ++ ys)[k]? = some x → x[j]? = some lv → ∃ v, (m.fixed b (off + xs.length * sz) (off + xs.length * sz + ys.length * sz) new).k b (off + k * sz + j) = .imm 0 ∧
              (m.fixed b (off + xs.length * sz) (off + xs.length * sz + ys.length * sz) new).w.cell? ⟨b, off + k * sz + j, none⟩ = some v ∧ v.oneCell' = true ∧ Rep T (m.fixed b (off + xs.length * sz) (off + xs.length * sz + ys.length * sz) new) lv v := by
            intro k x j lv hk hj
            by_cases hc1 : k < xs.length
            · rw [List.getElem?_append_left hc1] at hk
              obtain ⟨q1, q2, q3⟩ := hm k x j lv (by simpa using hk) hj
              obtain ⟨r1, r2⟩ := hle.imm _ _ _ _ q2 q1
              exact ⟨val k j, r1, r2, q3, (hr k x j lv (by simpa using hk) hj).mono hle⟩
            · rw [List.getElem?_append_right (by omega)] at hk
              have hxl' := n3 x (List.mem_of_getElem? hk)
              have hjs : j < sz := by rw [← hxl']; exact (List.getElem?_eq_some_iff.1 hj).1
              have hkl := (List.getElem?_eq_some_iff.1 hk).1
              have hfl := flat_get ys n3 (k - xs.length) j hjs
              rw [hk, Option.bind_some, hj] at hfl
              obtain ⟨v, h1, h2, h3⟩ := hnewcell _ lv hfl
              have hpos : off + k * sz + j = off + xs.length * sz + ((k - xs.length) * sz + j) := by
                have : k * sz = xs.length * sz + (k - xs.length) * sz := by rw [← Nat.add_mul]; congr 1; omega
                omega
              have hfll := (List.getElem?_eq_some_iff.1 hfl).1
              rw [flat_len ys n3] at hfll
              refine ⟨v, ?_, by rw [hcell, hpos]; exact h1, h2, h3.mono hle⟩
              rw [fixed_k, if_pos ⟨rfl, by omega, by omega⟩]
          rw [← List.length_append]
          have hkey : ∀ k j, ∃ v, ∀ x lv, (xs ++ ys)[k]? = some x → x[j]? = some lv → (m.fixed b (off + xs.length * sz) (off + xs.length * sz + ys.length * sz) new).k b (off + k * sz + j) = .imm 0 ∧
              (m.fixed b (off + xs.length * sz) (off + xs.length * sz + ys.length * sz) new).w.cell? ⟨b, off + k * sz + j, none⟩ = some v ∧ v.oneCell' = true ∧ Rep T (m.fixed b (off + xs.length * sz) (off + xs.length * sz + ys.length * sz) new) lv v := by
            intro k j
            by_cases hex : ∃ x lv, (xs ++ ys)[k]? = some x ∧ x[j]? = some lv
            · obtain ⟨x, lv, h1, h2⟩ := hex
              obtain ⟨v, hv⟩ := key k x j lv h1 h2
              refine ⟨v, fun x' lv' h1' h2' => ?_⟩
              rw [h1] at h1'; injection h1' with h1'; subst h1'
              rw [h2] at h2'; injection h2' with h2'; subst h2'
              exact hv
            · exact ⟨undef, fun x lv h1 h2 => absurd ⟨x, lv, h1, h2⟩ hex⟩
          refine Rep.sl true 0 sz (xs ++ ys) [] b off cap (fun k j => Classical.choose (hkey k j)) (by simpa using hroom) (by simpa using hall) (fun k x j lv hk hj => ?_) (fun k x j lv hk hj => ?_) hM
          · have := Classical.choose_spec (hkey k j) x lv (by simpa using hk) hj
            exact ⟨this.1, this.2.1, this.2.2.1⟩
          · exact (Classical.choose_spec (hkey k j) x lv (by simpa using hk) hj).2.2.2
        · intro b' o' ht'
          simp only [tail] at ht'
          obtain ⟨rfl, h1, h2⟩ := ht'
          rw [Nat.add_mul] at h1
          obtain ⟨j1, cur', cty', j2, j3⟩ := hown _ o' (htail o' (by omega) h2)
          refine ⟨by rw [fixed_k, if_neg (by omega)]; exact j1, new, cty, ?_, ?_⟩
          · have := setRow_at (new := new) hb b'
            rw [if_pos rfl] at this; exact this
          · rw [hb] at j2; injection j2 with j2; injection j2 with j2 _; subst j2; omega
    · -- a new block
      have hxx : ∀ k, k < xs.length * sz → ∃ x lv, (xs ++ [])[k / sz]? = some x ∧ x[k % sz]? = some lv ∧ xs.flatten[k]? = some lv := by
        intro k hk
        have hkm : k % sz < sz := Nat.mod_lt _ hszp
        have hkd : k / sz < xs.length := (Nat.div_lt_iff_lt_mul hszp).2 hk
        have hxl' := hxl xs[k / sz] (List.getElem_mem hkd)
        refine ⟨xs[k / sz], xs[k / sz][k % sz]'(by omega), ?_, List.getElem?_eq_getElem _, ?_⟩
        · rw [List.append_nil]; exact List.getElem?_eq_getElem hkd
        · have := flat_get xs hxl (k / sz) (k % sz) hkm
          rw [← flat_split hszp] at this
          rw [this, List.getElem?_eq_getElem hkd, Option.bind_some, List.getElem?_eq_getElem (by omega)]
      refine grow _ cap ((List.range (xs.length * sz)).map fun k => val (k / sz) (k % sz)) rfl (by omega) ?_ (by simp) ?_ ?_
      · simp only [Builtin.firstCells, hsize]
        refine run_loadCells m.w.drew _ _ _ fun k hk => ?_
        obtain ⟨x, lv, g1, g2, g3⟩ := hxx k hk
        have := (hm _ _ _ _ g1 g2).2.1
        rw [Addr.add_lit]
        rw [Nat.add_assoc, ← flat_split hszp] at this
        exact this
      · intro u hu'
        obtain ⟨k, hk, rfl⟩ := List.mem_map.1 hu'
        obtain ⟨x, lv, g1, g2, g3⟩ := hxx k (List.mem_range.1 hk)
        exact (hm _ _ _ _ g1 g2).2.2
      · intro k lv hk
        have hlt := (List.getElem?_eq_some_iff.1 hk).1
        rw [flat_len xs hxl] at hlt
        obtain ⟨x, lv', g1, g2, g3⟩ := hxx k hlt
        rw [hk] at g3; injection g3 with g3; subst g3
        exact ⟨val (k / sz) (k % sz), by rw [List.getElem?_map, List.getElem?_range hlt]; rfl, hr _ _ _ _ g1 g2⟩
end
end Tree

set_option autoImplicit false
set_option linter.unusedVariables false
set_option linter.unusedSimpArgs false
namespace Tree
open Go
section
variable {T : Tab} {E : Env} {ev : Ev} {pb : Nat} {st st1 : St} {a : Act} {dst : Option Nat} {m : Mem} {lv : LV} {note : Option Place} {o : Oper}

theorem renRes (pb : Nat) (k : Kd) : RenOk pb (fun c => if c = .res none then k else c) :=
  ⟨if_neg (by simp), fun _ => if_neg (by simp), fun _ => if_neg (by simp), fun _ => if_neg (by simp), fun _ _ _ => if_neg (by simp)⟩

theorem op_append (h : FR T st a.tmps m) (hG : Globs T E.gl m) {c : Call} {e : TypeId} {i : TypeInfo} {z : Value} {t u : TypeId} {sz bytes : Nat} {s x : Operand} {s' y : Opd}
    (ho : o.op = .call c) (hcal : c.callee = .builtin .append) (hargs : c.args.toList = [s, x]) (htys : c.argTypes.toList = [t, u]) (hs : chkOpd T s s' = true) (hx : chkOpd T x y = true)
    (ht : T.P.underlying t = some (.slice e)) (hu : (∃ e', T.P.underlying u = some (.slice e')) ∨ T.P.underlying u = some .string) (hi : T.P.info? e = some i) (hz : i.zero = some z) (hsize : i.size = sz) (hbytes : i.bytes = bytes)
    (hsz0 : sz ≠ 0) (hb0 : bytes ≠ 0) (hzc : z.cells.size = sz)
    (hv : valOp E ev pb st dst (.append sz bytes s' y) = some (lv, st1, note)) : OpOk T pb st1 a dst m lv note (execOp a.eval o) := by
  have fin : ∀ (st2 : St) (xs ys : List (List LV)) (zy : Nat) (yv : LV) (m1 : Mem), Post pb m m1 → m1.w = m.w → FR T st2 a.tmps m1 → Rep T m1 (.sl true 0 sz xs []) (a.eval s) → Tail m1 sz (a.eval s) (.res none) →
      VRep T st a.tmps m1 yv (a.eval x) → elems yv = some (zy, ys) → (zy = sz ∨ ys = []) → (xs.length + ys.length) * bytes ≤ 140737488355328 →
      OpOk T pb st2 a dst m (.sl true 0 sz (xs ++ ys) []) none (execOp a.eval o) := by
    intro st2 xs ys zy yv m1 hp hw hfr hrs hown hy hel hzy hbd
    obtain ⟨v, m', p1, r1, f1, q1, t1⟩ := append_core (pb := pb) (ty := o.type) hfr hrs hown hy hel hzy ht hu hi hz hsize hbytes hsz0 hb0 hzc hbd
    let k : Kd := match dst with | some d => .tail ⟨.slot d, none⟩ | none => .other
    refine ⟨v, m'.ren (fun c => if c = .res none then k else c), (hp.trans p1).trans (Post.of_ren (renRes pb k) m'), ?_, ?_, VRep.of_rep (q1.mono (le_ren _ _ (renRes pb k).imm)), ?_, fun p hp => by cases hp⟩
    · show _ = Result.ok _ m'.w
      obtain ⟨cs, hrun⟩ := run_builtin (T := T) (a := a) (w := m.w) ho hcal
      have e1 : c.args.map a.eval = #[a.eval s, a.eval x] := by rw [← Array.toList_inj]; simp [hargs]
      have e2 : c.argTypes = #[t, u] := by rw [← Array.toList_inj]; exact htys
      rw [hrun, e1, e2]
      rw [hw] at r1
      simp [builtin, r1]
    · exact f1.ren _ (renRes pb k).imm (renRes pb k).box (renRes pb k).obj (fun p _ _ _ _ _ => if_neg (by simp))
    · intro d hd; subst hd
      have := t1.ren (fun c => if c = .res none then k else c)
      rw [if_pos rfl] at this
      exact this
  cases s' with
  | tmp t' =>
    simp only [valOp] at hv
    obtain ⟨⟨p, st2⟩, h1, h2⟩ := Option.bind_eq_some_iff.1 hv
    have htk : st.take E.gl pb (.tmp t') = some (p, st2) := by simp [St.take, h1]
    obtain ⟨f, hf⟩ := take_sound h hG hs htk (fun _ => .res none)
    simp only at h2
    split at h2
    · rename_i own z' xs
      obtain ⟨yv, g1, g2⟩ := Option.bind_eq_some_iff.1 h2
      obtain ⟨⟨zy, ys⟩, g3, g4⟩ := Option.bind_eq_some_iff.1 g2
      split at g4
      · rename_i hc
        obtain ⟨rfl, hc2, hc3⟩ := hc
        simp only [Option.some.injEq, Prod.mk.injEq] at g4
        obtain ⟨rfl, rfl, rfl⟩ := g4
        have hown' : own = true := by
          unfold St.takeTop at h1
          split at h1
          · injection h1 with h1; injection h1 with h1; injection h1 with h1; exact h1.symm
          · split at h1
            · split at h1
              · split at h1
                · injection h1 with h1; injection h1 with h1; injection h1 with h1; exact h1.symm
                · cases h1
              · cases h1
            · cases h1
          · cases h1
        subst hown'
        exact fin st2 xs ys zy yv (m.ren f) (Post.of_ren hf.ok m) rfl hf.fr hf.rep hf.owns ((operand_sound h hG hx g1).mono (le_ren _ _ hf.ok.imm)) g3 hc2 hc3
      · cases g4
    · cases h2
  | const cv =>
    simp only [valOp] at hv
    split at hv
    · rename_i hcv; cases hcv
    · rename_i z' hcv
      injection hcv with hcv; subst hcv
      obtain ⟨yv, g1, g2⟩ := Option.bind_eq_some_iff.1 hv
      obtain ⟨⟨zy, ys⟩, g3, g4⟩ := Option.bind_eq_some_iff.1 g2
      split at g4
      · rename_i hc
        obtain ⟨rfl, hc2, hc3⟩ := hc
        simp only [Option.some.injEq, Prod.mk.injEq] at g4
        obtain ⟨rfl, rfl, rfl⟩ := g4
        have hs0 : a.eval s = .slice none 0 0 := by
          cases s <;> simp [chkOpd, constOk] at hs
          exact isNilSlice_eq hs
        have := fin st [] ys zy yv m (Post.refl _ _) rfl h (by rw [hs0]; exact .nil _ _ _) (by rw [hs0]; intro b o ht; exact ht.elim) (operand_sound h hG hx g1) g3 hc2 (by simpa using hc3)
        simpa using this
      · cases g4
    · cases hv
  | glob g => simp [valOp] at hv
end
end Tree

set_option autoImplicit false
set_option linter.unusedVariables false
set_option linter.unusedSimpArgs false
namespace Tree
open Go
section
variable {T : Tab} {E : Env} {ev : Ev} {pb : Nat} {st st1 : St} {a : Act} {dst : Option Nat} {m : Mem} {lv : LV} {note : Option Place} {o : Oper}

theorem op_moveA (h : FR T st a.tmps m) (hG : Globs T E.gl m) {x : Operand} {y : Opd} (ho : o.op = .assign x) (hc : chkOpd T x y = true) (hv : valOp E ev pb st dst (.move y) = some (lv, st1, note)) :
    OpOk T pb st1 a dst m lv note (execOp a.eval o) := by
  have := op_move (o := { o with op := .move x }) h hG rfl hc hv
  have e : execOp a.eval o = execOp a.eval { o with op := .move x } := by simp [execOp, ho]
  rw [e]; exact this
theorem op_loadB (h : FR T st a.tmps m) (hG : Globs T E.gl m) {t : TypeId} {x : Operand} {agg : Bool} {sz : Nat} {y : Opd} (ho : o.op = .load t x) (hc : chkOpd T x y = true) (ha : isAggB T.P t = some agg) (hs : sizeB T.P t = some sz)
    (hv : valOp E ev pb st dst (.loadB agg sz y) = some (lv, st1, note)) : OpOk T pb st1 a dst m lv note (execOp a.eval o) := by
  refine op_load h hG (E := E) (ev := ev) ho hc ha hs ?_
  simp only [valOp] at hv ⊢
  obtain ⟨p, h1, h2⟩ := Option.bind_eq_some_iff.1 hv
  rw [h1, Option.bind_some]
  split at h2
  · exact h2
  · cases h2

theorem op_loadR (h : FR T st a.tmps m) (hG : Globs T E.gl m) {t : TypeId} {x : Operand} {r : Option Nat} {agg : Bool} {sz : Nat} {y : Opd} (ho : o.op = .load t x) (hc : chkOpd T x y = true) (ha : isAggB T.P t = some agg) (hs : sizeB T.P t = some sz)
    (hv : valOp E ev pb st dst (.loadR r agg sz y) = some (lv, st1, note)) : OpOk T pb st1 a dst m lv note (execOp a.eval o) := by
  simp only [valOp] at hv
  obtain ⟨p, h1, h2⟩ := Option.bind_eq_some_iff.1 hv
  split at h2
  · obtain ⟨v0, h3, h4⟩ := Option.map_eq_some_iff.1 h2
    simp only [Prod.mk.injEq] at h4
    obtain ⟨rfl, rfl, rfl⟩ := h4
    obtain ⟨v, k1, k2, k3⟩ := addr_sound h (operand_sound h hG hc h1) ha hs h3
    exact ⟨v, m, Post.refl _ _, by simp [execOp, ho, k1], h, VRep.of_rep k2.bare, fun d _ => Owns.of_ownless (bare_ownless _), fun q hq => by cases hq⟩
  · cases h2
theorem op_idxAgg (h : FR T st a.tmps m) (hG : Globs T E.gl m) {s e : TypeId} {n sz : Nat} {agg : Bool} {x i : Operand} {y j : Opd} (ho : o.op = .index s x i) (hc : chkOpd T x y = true) (hc' : chkOpd T i j = true)
    (hu : T.P.underlying s = some (.array n e)) (ha : isAggB T.P e = some agg) (hs : sizeB T.P e = some sz)
    (hv : valOp E ev pb st dst (.idxAgg agg n sz y j) = some (lv, st1, note)) : OpOk T pb st1 a dst m lv note (execOp a.eval o) := by
  simp only [valOp] at hv
  split at hv
  · rename_i cs k n' h1 h2
    split at hv
    · rename_i hn
      obtain ⟨r, h5, h6⟩ := Option.map_eq_some_iff.1 hv
      simp only [Prod.mk.injEq] at h6
      obtain ⟨rfl, rfl, rfl⟩ := h6
      have hp := operand_sound h hG hc h1
      have hq := operand_sound h hG hc' h2
      generalize hxv : a.eval x = xv at hp
      generalize hiv : a.eval i = iv at hq
      have hp' : Rep T m (.agg cs) xv := hp
      have hq' : Rep T m (.int k n') iv := hq
      cases hq'
      cases hp' with
      | agg _ vs hl hr =>
        obtain ⟨v, k1, k2⟩ := part_sound (w := m.w) hp ha hs h5
        refine OpOk.pure h ?_ (VRep.of_rep k2.bare) (bare_ownless _)
        simp only [execOp, ho, hxv, hiv, Instr.index, asIntOf, Sem.run_bind, Sem.run_pure, runU hu, Result.andThen_ok, if_pos hn, runS hs, k1]
    · cases hv
  · cases hv
/-- What the comparison of structs comes to. -/
def EqOk1 (T : Tab) : Prop := ∀ t e, T.eqT.contains (t, e) = true → ∀ (m : Mem) (xs ys : List LV) (vx vy : Value) (b neg : Bool) (x y : Operand), Rep T m (.agg xs) vx → Rep T m (.agg ys) vy → LV.eqsT t xs ys = some b →
  (do eqGuard (if neg then .neq else .eql) e x y vx vy; binOp (if neg then .neq else .eql) e vx vy : Sem Value).run T.P m.w = .ok (.bool (if neg then !b else b)) m.w
def EntsOk (T : Tab) (m : Mem) (es : List LV) (l : List MapEntry) : Prop := es.length = l.length ∧ ∀ (j : Nat) e, es[j]? = some e → ∃ en, l[j]? = some en ∧ EntOk T m e en
/-- What the search for a key comes to. -/
def KeyLawE (T : Tab) : Prop := ∀ t e, chkKey T t e = true → ∀ (m : Mem) (k : LV) (v : Value), keyOk t k = true → Rep T m k v →
  (∀ em, (Instr.checkKey em 10000 e v).run T.P m.w = .ok () m.w) ∧ (Instr.keyThatStays v v).run T.P m.w = .ok v m.w ∧
  ∀ (es : List LV) (l : List MapEntry) r, EntsOk T m es l → findE t k es 0 = some r → ∃ r', (Instr.findKey e v l).run T.P m.w = .ok r' m.w ∧
    ((r = none ∧ r' = none) ∨ ∃ i k' vv b en, r = some (i, k', vv, b) ∧ r' = some (i, en.val) ∧ l[i]? = some en ∧ es[i]? = some (.tup [k', vv, .int .i64 b]) ∧ b = en.born ∧ en.key = v ∧ Rep T m vv en.val ∧ vv.cells.all LV.isCell = true)
def EqOk (T : Tab) : Prop := EqOk1 T ∧ KeyLawE T
theorem op_eqAgg (hE : EqOk T) (h : FR T st a.tmps m) (hG : Globs T E.gl m) {t : Nat} {e yt : TypeId} {op : BinOp} {x y : Operand} {x' y' : Opd} {neg : Bool} (ho : o.op = .binOp op e x y yt) (hop : op = (if neg then .neq else .eql)) (ht : T.eqT.contains (t, e) = true) (hx : chkOpd T x x' = true) (hy : chkOpd T y y' = true)
    (hv : valOp E ev pb st dst (.eqAgg neg t x' y') = some (lv, st1, note)) : OpOk T pb st1 a dst m lv note (execOp a.eval o) := by
  subst hop
  simp only [valOp] at hv
  split at hv
  · rename_i xs ys h1 h2
    obtain ⟨b, h3, h4⟩ := Option.map_eq_some_iff.1 hv
    simp only [Prod.mk.injEq] at h4
    obtain ⟨rfl, rfl, rfl⟩ := h4
    have r1 : Rep T m (.agg xs) (a.eval x) := operand_sound h hG hx h1
    have r2 : Rep T m (.agg ys) (a.eval y) := operand_sound h hG hy h2
    have := hE.1 t e ht m xs ys _ _ b neg x y r1 r2 h3
    refine OpOk.pure h (v := .bool (if neg then !b else b)) ?_ (Rep.bool _) rfl
    simp only [execOp, ho]
    rw [Sem.run_bind, this]; rfl
  · cases hv

theorem FR.freeze (h : FR T st a.tmps m) {s : Nat} {cs : List LV} (hs : st.sl[s]? = some (Slot.box cs)) :
    ∃ f, (f .other = .other) ∧ (∀ l, f (.imm l) = .imm l) ∧ (∀ i, f (.obj i) = .obj i) ∧ (∀ p, f (.tail p) = .tail p) ∧ FR T (st.put (some s) (.iptr 0 (cs.map LV.bare1) 0)) a.tmps (m.ren f) ∧
      Rep T (m.ren f) (.iptr 0 (cs.map LV.bare1) 0) (a.eval (.tmp s)) := by
  obtain ⟨b, h1, h2⟩ := h.box s cs hs
  have hb := h2
  obtain ⟨vs, ty, g1, g2, g3, g4⟩ := h2
  let f : Kd → Kd := fun k => if k = .box s then .imm 0 else k
  have fo : ∀ k, k ≠ .box s → f k = k := fun k hk => if_neg hk
  have ev : a.eval (.tmp s) = .pointer (some ⟨b, 0, none⟩) := by simp [Act.eval, Array.getD_eq_getD_getElem?, h1]
  have hput := h.put s (lv := .undef) (v := .pointer (some ⟨b, 0, none⟩)) (Rep.undef _) trivial
  have hslt : s < st.sl.length := (List.getElem?_eq_some_iff.1 hs).1
  have htm : a.tmps.setIfInBounds s (.pointer (some ⟨b, 0, none⟩)) = a.tmps := by
    apply Array.ext_getElem?
    intro i
    rw [Array.getElem?_setIfInBounds]
    split
    · rename_i e; subst e
      rw [h1]; rw [if_pos (by rw [h.size]; exact hslt)]
    · rfl
  rw [htm] at hput
  have hlen : (st.kill s).length = st.sl.length := kill_length st s
  have hfr1 := hput.ren' f (fun _ => fo _ (by simp)) (fun t c ht => fo _ (fun e => by
    injection e with e; subst e
    simp only [St.put, set_get?, if_true] at ht
    rw [if_pos (by rw [hlen]; exact hslt)] at ht
    cases ht)) (fun _ => fo _ (by simp)) (fun _ _ _ _ _ _ => fo _ (by simp))
  have hrep : Rep T (m.ren f) (.iptr 0 (cs.map LV.bare1) 0) (.pointer (some ⟨b, 0, none⟩)) := by
    refine Rep.iptr 0 (cs.map LV.bare1) 0 b 0 (fun j => vs.getD j undef) (fun j lv hj => ?_) (fun j lv hj => ?_)
    · rw [List.getElem?_map] at hj
      obtain ⟨c, hc, rfl⟩ := Option.map_eq_some_iff.1 hj
      have hlt : j < vs.size := by rw [g2]; exact (List.getElem?_eq_some_iff.1 hc).1
      refine ⟨?_, ?_, (g4 j c hc).1⟩
      · show f (m.k b _) = _
        rw [g3]; simp [f]
      · simp [Mem.ren, World.cell?, g1, hlt, Array.getD_eq_getD_getElem?]
    · rw [List.getElem?_map] at hj
      obtain ⟨c, hc, rfl⟩ := Option.map_eq_some_iff.1 hj
      exact ((g4 j c hc).2.mono (le_ren m f (fun _ => fo _ (by simp)))).bare1
  have hfr2 := hfr1.put s (lv := .iptr 0 (cs.map LV.bare1) 0) (v := .pointer (some ⟨b, 0, none⟩)) hrep trivial
  rw [htm] at hfr2
  refine ⟨f, fo _ (by simp), fun _ => fo _ (by simp), fun _ => fo _ (by simp), fun _ => fo _ (by simp), ?_, by rw [ev]; exact hrep⟩
  have e : (st.put (some s) .undef).put (some s) (.iptr 0 (cs.map LV.bare1) 0) = st.put (some s) (.iptr 0 (cs.map LV.bare1) 0) := by
    have hk : ({ st with sl := (st.kill s).set s (.val .undef), al := st.forget s } : St).kill s = (st.kill s).set s (.val .undef) := by
      simp only [St.kill, set_get?, if_true]
      rw [if_pos (by have := hlen; simp only [St.kill] at this; rw [this]; exact hslt)]
    simp only [St.put, LV.notOf]
    rw [hk]
    congr 1
    · rw [List.set_set]
    · funext t
      simp only [St.forget]
      by_cases e1 : t = s
      · simp [e1]
      · simp only [if_neg e1]
        cases e2 : st.al t with
        | none => rfl
        | some p =>
          simp only
          by_cases e3 : p.root = .slot s
          · simp [e3]
          · simp [e3]
  rw [e] at hfr2; exact hfr2

theorem freezes_sound : ∀ (xs : List Operand) (ys : List Opd) {st st1 : St} {m : Mem} {vs : List LV}, FR T st a.tmps m → Globs T E.gl m → chkOpds T xs ys = true → freezes E.gl st ys = some (vs, st1) →
    ∃ f, (f .other = .other) ∧ (∀ l, f (.imm l) = .imm l) ∧ (∀ i, f (.obj i) = .obj i) ∧ (∀ p, f (.tail p) = .tail p) ∧ FR T st1 a.tmps (m.ren f) ∧ vs.length = xs.length ∧
      ∀ (i : Nat) (lv : LV), vs[i]? = some lv → Rep T (m.ren f) lv ((xs.map a.eval).getD i undef)
  | [], [], st, st1, m, vs, h, hG, hc, hv => by
    simp only [freezes, Option.some.injEq, Prod.mk.injEq] at hv
    obtain ⟨rfl, rfl⟩ := hv
    exact ⟨id, rfl, fun _ => rfl, fun _ => rfl, fun _ => rfl, h, rfl, fun i lv hi => by simp at hi⟩
  | [], _ :: _, st, st1, m, vs, h, hG, hc, hv => by simp [chkOpds] at hc
  | _ :: _, [], st, st1, m, vs, h, hG, hc, hv => by simp [chkOpds] at hc
  | x :: xs, y :: ys, st, st1, m, vs, h, hG, hc, hv => by
    simp only [chkOpds, Bool.and_eq_true] at hc
    simp only [freezes] at hv
    obtain ⟨v, h1, h2⟩ := Option.bind_eq_some_iff.1 hv
    obtain ⟨⟨w, st2⟩, h3, h4⟩ := Option.bind_eq_some_iff.1 h2
    obtain ⟨⟨ws, st3⟩, h5, h6⟩ := Option.map_eq_some_iff.1 h4
    simp only [Prod.mk.injEq] at h6
    obtain ⟨rfl, rfl⟩ := h6
    have one : ∃ f, (f .other = .other) ∧ (∀ l, f (.imm l) = .imm l) ∧ (∀ i, f (.obj i) = .obj i) ∧ (∀ p, f (.tail p) = .tail p) ∧ FR T st2 a.tmps (m.ren f) ∧ Rep T (m.ren f) w (a.eval x) := by
      have hs := operand_sound h hG hc.1 h1
      have plain : ∀ (u : LV), u.noL = true → v = u → some (u, st) = some (w, st2) → ∃ f, (f .other = .other) ∧ (∀ l, f (.imm l) = .imm l) ∧ (∀ i, f (.obj i) = .obj i) ∧ (∀ p, f (.tail p) = .tail p) ∧ FR T st2 a.tmps (m.ren f) ∧ Rep T (m.ren f) w (a.eval x) := by
        intro u hu e e'
        injection e' with e'; injection e' with e1 e2
        subst e1; subst e2; subst e
        refine ⟨id, rfl, fun _ => rfl, fun _ => rfl, fun _ => rfl, h, ?_⟩
        exact hs.rep (fun s o e => by rw [e] at hu; simp [LV.noL] at hu)
      unfold St.freeze at h3
      split at h3
      · rename_i s
        split at h3
        · rename_i cs hcs
          injection h3 with h3; injection h3 with e1 e2
          subst e1; subst e2
          obtain ⟨b, k1, k2, _⟩ := hs
          obtain ⟨f, f1, f2, f3, f4, f5, f6⟩ := h.freeze hcs
          refine ⟨f, f1, f2, f3, f4, f5, ?_⟩
          rw [k2]
          have : a.eval (.tmp s) = .pointer (some ⟨b, 0, none⟩) := by simp [Act.eval, Array.getD_eq_getD_getElem?, k1]
          rwa [this] at f6
        · cases h3
      · split at h3
        · rename_i hn; exact plain _ hn rfl h3
        · cases h3
    obtain ⟨f, f1, f2, f3, f4, f5, f6⟩ := one
    obtain ⟨g, g1, g2, g3, g4, g5, g6, g7⟩ := freezes_sound xs ys f5 (hG.mono (le_ren m f f2)) hc.2 h5
    refine ⟨fun k => g (f k), by simp [f1, g1], fun l => by simp [f2, g2], fun i => by simp [f3, g3], fun p => by simp [f4, g4], g5, by simp [g6], fun i lv hi => ?_⟩
    cases i with
    | zero =>
      simp at hi; subst hi
      have := f6.mono (le_ren _ g g2)
      show Rep T ((m.ren f).ren g) w _
      simpa using this
    | succ i =>
      show Rep T ((m.ren f).ren g) lv _
      simpa using g7 i lv (by simpa using hi)

theorem op_makeFunc (h : FR T st a.tmps m) (hG : Globs T E.gl m) {f : FuncId} {g : Nat} {first cap : Array Operand} {cap' : List Opd} (ho : o.op = .makeFunc (.func f) first cap) (hf : T.fn f = some g) (hfirst : first = #[]) (hc : chkOpds T cap.toList cap' = true)
    (hv : valOp E ev pb st dst (.makeFunc g cap') = some (lv, st1, note)) : OpOk T pb st1 a dst m lv note (execOp a.eval o) := by
  simp only [valOp] at hv
  obtain ⟨⟨vs, st2⟩, h1, h2⟩ := Option.map_eq_some_iff.1 hv
  simp only [Prod.mk.injEq] at h2
  obtain ⟨rfl, rfl, rfl⟩ := h2
  obtain ⟨r, r1, r2, r3, r4, r5, r6, r7⟩ := freezes_sound (a := a) cap.toList cap' h hG hc h1
  refine ⟨.func (.func f) #[] (cap.map a.eval), m.ren r, Post.ren pb m r r1 r2 r3 (fun _ _ _ => r4 _), ?_, r5, VRep.of_rep (Rep.fn _ _ _ _ hf (by simpa using r6) (fun i lv hi => ?_)), fun _ _ => trivial, fun p hp => by cases hp⟩
  · simp only [execOp, ho, hfirst, Instr.makeFunc]; simp; rfl
  · have := r7 i lv hi
    simpa [Array.getD_eq_getD_getElem?, List.getD_eq_getElem?_getD] using this
end
end Tree

set_option autoImplicit false
set_option linter.unusedVariables false
set_option linter.unusedSimpArgs false
namespace Tree
open Go
section
variable {T : Tab} {E : Env} {ev : Ev} {pb : Nat} {st st1 : St} {a : Act} {dst : Option Nat} {m : Mem} {lv : LV} {note : Option Place} {o : Oper}

def Mem.setMap (m : Mem) (b : Nat) (o : Obj) : Mem := { m with w := { m.w with heap := m.w.heap.setIfInBounds b o } }
theorem setMap_at {b : Nat} {x0 y : Obj} (hb : m.w.heap[b]? = some x0) (x : Nat) :
    (m.setMap b y).w.heap[x]? = if x = b then some y else m.w.heap[x]? := by
  have hlt := (Array.getElem?_eq_some_iff.1 hb).1
  show (m.w.heap.setIfInBounds b _)[x]? = _
  rw [Array.getElem?_setIfInBounds]
  by_cases e : b = x
  · subst e; simp [hlt]
  · rw [if_neg e, if_neg (fun e' => e e'.symm)]
theorem setMap_cell {b : Nat} {x0 y : Obj} (hb : m.w.heap[b]? = some x0) (hn : ncO x0 = true) (hn' : ncO y = true) (x o : Nat) :
    (m.setMap b y).w.cell? ⟨x, o, none⟩ = m.w.cell? ⟨x, o, none⟩ := by
  have := setMap_at (y := y) hb x
  by_cases e : x = b
  · subst e
    rw [if_pos rfl] at this
    rw [nc_cell this hn', nc_cell hb hn]
  · rw [if_neg e] at this
    simp only [World.cell?, this]
theorem le_setMap {b : Nat} {x0 y : Obj} (hb : m.w.heap[b]? = some x0) (hn : ncO x0 = true) (hn' : ncO y = true) : m.le (m.setMap b y) :=
  ⟨fun x o l v hc hk => ⟨hk, (setMap_cell hb hn hn' x o).trans hc⟩, Nat.le_refl _, fun _ _ => rfl⟩
theorem Post.setMap {b : Nat} {x0 y : Obj} (hb : m.w.heap[b]? = some x0) (hn : ncO x0 = true) (hn' : ncO y = true) (hk : ¬ (m.k b 0 = .other ∨ (∃ l, m.k b 0 = .imm l) ∨ ∃ id, id < pb ∧ m.k b 0 = .obj id)) :
    Post pb m (m.setMap b y) := by
  refine ⟨rfl, rfl, rfl, by simp [Mem.setMap], fun x hx => ?_, fun _ _ _ _ => rfl, Nat.le_refl _, fun _ _ => rfl, fun _ h1 h2 => absurd h1 (Nat.not_le.2 h2)⟩
  have := setMap_at (y := y) hb x
  by_cases e : x = b
  · subst e
    rw [if_pos rfl] at this
    exact .inr (.inr ⟨x0, y, hb, this, ⟨hn, hn'⟩, hk⟩)
  · rw [if_neg e] at this
    exact .inl this
theorem EntsOk.mono {m' : Mem} (hle : m.le m') {es : List LV} {l : List MapEntry} (h : EntsOk T m es l) : EntsOk T m' es l :=
  ⟨h.1, fun j e he => let ⟨en, h1, h2⟩ := h.2 j e he; ⟨en, h1, h2.mono hle⟩⟩
theorem MBlock.ents {b : Nat} {cs : List LV} {k : Kd} (h : MBlock T m b cs k) : (∃ snap x, cs = [.tup x, .tup snap] ∧ x.length = 2) ∨ ∃ (ents : Array MapEntry) (c : Nat) (es : List LV), m.w.heap[b]? = some (.map ents c) ∧ cs = .tup [.int .i64 c] :: es ∧ EntsOk T m es ents.toList := by
  rcases h with ⟨ents, c, es, h1, h2, h3, h4, h5⟩ | ⟨r, s, z, snap, h1, h2, h3, _⟩
  · exact .inr ⟨ents, c, es, h1, h3, by simpa using h4, fun j e he => by simpa using h5 j e he⟩
  · exact .inl ⟨_, _, h3, rfl⟩
/-- An object that is no cells is written anew. -/
theorem FR.setNc {tmps : Array Value} (h : FR T st tmps m) {id : Nat} {cs cs' : List LV} {x0 y : Obj} (hi : st.ob[id]? = some cs) (hm : m.w.heap[m.ob id]? = some x0) (hn : ncO x0 = true) (hn' : ncO y = true)
    (hnew : MBlock T (m.setMap (m.ob id) y) (m.ob id) cs' (.obj id)) (hlow : pb ≤ id) :
    FR T (st.remap id cs') tmps (m.setMap (m.ob id) y) ∧ Post pb m (m.setMap (m.ob id) y) := by
  have hle := le_setMap (m := m) (y := y) hm hn hn'
  have hcl := (h.obj id cs hi).class
  have hpost : Post pb m (m.setMap (m.ob id) y) := by
    refine Post.setMap hm hn hn' ?_
    rw [hcl 0]
    rintro (e | ⟨_, e⟩ | ⟨i, hi, e⟩)
    · cases e
    · cases e
    · injection e with e; omega
  have hblk : ∀ {b : Nat} {cs : List LV} {k : Kd}, Block T m b cs k → Block T (m.setMap (m.ob id) y) b cs k := by
    rintro b cs k ⟨vs, ty, h1, h2, h3, h4⟩
    refine ⟨vs, ty, ?_, h2, h3, fun j lv hj => ⟨(h4 j lv hj).1, (h4 j lv hj).2.mono hle⟩⟩
    rw [setMap_at hm, if_neg]
    · exact h1
    · intro e; subst e; rw [hm] at h1; injection h1 with h1; subst h1; cases hn
  have hrat : ∀ {p : Place} {v : Value}, RAt tmps m p v → RAt tmps (m.setMap (m.ob id) y) p v := by
    rintro ⟨root, cell⟩ v hv
    cases root <;> cases cell <;> simp only [RAt] at hv ⊢
    · exact hv
    · rcases hv with hv | ⟨b, h1, h2⟩
      · exact .inl hv
      · exact .inr ⟨b, h1, (setMap_cell hm hn hn' _ _).trans h2⟩
    · exact (setMap_cell hm hn hn' _ _).trans hv
  have htail : ∀ {z : Nat} {v : Value} {k : Kd}, Tail m z v k → Tail (m.setMap (m.ob id) y) z v k := by
    intro z v k ht x o hx
    obtain ⟨h1, vs, ty, h2, h3⟩ := ht x o hx
    refine ⟨h1, vs, ty, ?_, h3⟩
    rw [setMap_at hm, if_neg]
    · exact h2
    · intro e; subst e; rw [hm] at h2; injection h2 with h2; subst h2; cases hn
  refine ⟨⟨h.size, (by have := h.n; simp only [St.remap, List.length_set]; exact this), fun s p hsp => ?_, fun s lv hs => ?_, fun s c hc => ?_, fun j c2 hc => ?_, fun p lb z xs sp hp => ?_, fun s p hsp => ?_⟩, hpost⟩
  · have := h.alo s p (mem_dropRoot hsp).1
    exact ⟨fun i hi => by have := this.1 i hi; simpa [St.remap] using this, this.2⟩
  · obtain ⟨v, g1, g2⟩ := h.val s lv hs
    exact ⟨v, g1, (VRep.st (st' := st.remap id cs') g2 (fun _ hc => hc)).mono hle⟩
  · obtain ⟨b', g1, g2⟩ := h.box s c hc
    exact ⟨b', g1, hblk g2⟩
  · simp only [St.remap, set_get?] at hc
    by_cases e : id = j
    · subst e
      rw [if_pos rfl] at hc
      split at hc
      · injection hc with hc; subst hc
        exact .inr hnew
      · cases hc
    · rw [if_neg e] at hc
      have hb := h.obj j c2 hc
      rcases hb with ⟨g, hb⟩ | hb
      · exact .inl ⟨g, hblk hb⟩
      · have hcl' := OBlock.class (.inr hb)
        refine .inr (hb.mono ?_ hcl' hle)
        show (m.setMap (m.ob id) y).w.heap[m.ob j]? = _
        rw [setMap_at hm, if_neg]
        intro e'
        have := (hcl 0).symm.trans (e' ▸ hcl' 0)
        injection this with this; exact e this
  · have hold : st.at p = some (.sl true lb z xs sp) := by
      obtain ⟨root, cell⟩ := p
      cases root with
      | slot s => cases cell <;> exact hp
      | obj j =>
        cases cell with
        | none => simp [St.at] at hp
        | some i =>
          simp only [St.at, St.remap, set_get?] at hp
          by_cases e : id = j
          · subst e
            rw [if_pos rfl] at hp
            exfalso
            split at hp
            · rename_i c2 hc2
              split at hc2
              · injection hc2 with hc2; subst hc2
                obtain ⟨vs, hvs⟩ := hnew.tups i _ hp
                cases hvs
              · cases hc2
            · cases hp
          · rw [if_neg e] at hp
            simp only [St.at]; exact hp
    obtain ⟨v, g1, g2⟩ := h.own p lb z xs sp hold
    exact ⟨v, hrat g1, htail g2⟩
  · obtain ⟨u, g1, g2⟩ := h.al s p (mem_dropRoot hsp).1
    exact ⟨u, hrat g1, g2⟩
theorem FR.setMap {tmps : Array Value} (h : FR T st tmps m) {id : Nat} {cs : List LV} {es' : List LV} {ents l : Array MapEntry} {c c' : Nat} (hi : st.ob[id]? = some cs) (hm : m.w.heap[m.ob id]? = some (.map ents c)) (hl : EntsOk T m es' l.toList) (hlow : pb ≤ id) :
    FR T (st.remap id (.tup [.int .i64 c'] :: es')) tmps (m.setMap (m.ob id) (.map l c')) ∧ Post pb m (m.setMap (m.ob id) (.map l c')) := by
  have hle := le_setMap (m := m) (y := .map l c') hm rfl rfl
  have hcl := (h.obj id cs hi).class
  refine FR.setNc h hi hm rfl rfl (.inl ⟨l, c', es', ?_, hcl, rfl, by simpa using hl.1, fun j e he => ?_⟩) hlow
  · show (m.setMap (m.ob id) (.map l c')).w.heap[m.ob id]? = _
    rw [setMap_at hm, if_pos rfl]
  · obtain ⟨en, h1, h2⟩ := hl.2 j e he
    exact ⟨en, by simpa using h1, h2.mono hle⟩
end
end Tree

set_option autoImplicit false
set_option linter.unusedVariables false
set_option linter.unusedSimpArgs false
namespace Tree
open Go
section
variable {T : Tab} {E : Env} {ev : Ev} {pb : Nat} {st st1 : St} {a : Act} {dst : Option Nat} {m : Mem} {lv : LV} {note : Option Place} {o : Oper}

theorem op_mkmap (h : FR T st a.tmps m) (hG : Globs T E.gl m) {t : TypeId} (ho : o.op = .makeMap t none)
    (hv : valOp E ev pb st dst .mkmap = some (lv, st1, note)) : OpOk T pb st1 a dst m lv note (execOp a.eval o) := by
  simp only [valOp, Option.some.injEq, Prod.mk.injEq] at hv
  obtain ⟨rfl, rfl, rfl⟩ := hv
  have hn : m.n = st.ob.length := h.n
  have hext := ext_alloc m (.map #[] 0) (fun _ => .obj m.n)
  have hfr := h.ext hext rfl
  have hkd : ∀ o, (m.alloc (.map #[] 0) (fun _ => .obj m.n)).k m.w.heap.size o = .obj m.n := fun o => if_pos rfl
  have hheap : (m.alloc (.map #[] 0) (fun _ => .obj m.n)).w.heap[m.w.heap.size]? = some (.map #[] 0) := by
    show (m.w.alloc _).heap[_]? = _
    exact heap_alloc_new m.w _
  have hblk : MBlock T (m.alloc (.map #[] 0) (fun _ => .obj m.n)) m.w.heap.size [.tup [.int .i64 0]] (.obj m.n) :=
    .inl ⟨#[], 0, [], hheap, hkd, rfl, rfl, fun j e he => by simp at he⟩
  refine ⟨.map (some m.w.heap.size), _, Post.allocMore m (.map #[] 0) (fun _ => .obj m.n), ?_, FR.more hfr (.inr hblk) hn (fun i l z xs sp hi => ?_), ?_, fun d _ => trivial, fun p hp => by cases hp⟩
  · show _ = Result.ok _ (m.w.alloc _)
    simp [execOp, ho, Instr.makeMap, newObj, Sem.run]
  · cases i with
    | zero => simp at hi
    | succ i => simp at hi
  · have := Rep.mref (T := T) (m := (m.alloc (.map #[] 0) (fun _ => .obj m.n)).more m.w.heap.size) st.ob.length (by show _ < m.n + 1; omega)
    have e : ((m.alloc (.map #[] 0) (fun _ => .obj m.n)).more m.w.heap.size).ob st.ob.length = m.w.heap.size := by
      show (if st.ob.length = m.n then m.w.heap.size else m.ob _) = _
      rw [if_pos hn.symm]
    rw [e] at this; exact this

def isMap1 : List LV → Bool
  | .tup [_] :: _ => true
  | _ => false
theorem isMap1_C {cs : List LV} (h : isMap1 cs = true) : isMapC cs = true := by
  unfold isMap1 at h; split at h
  · rfl
  · cases h
/-- Where a map's object lies. -/
theorem map_at (h : FR T st a.tmps m) {id : Nat} {cs : List LV} (hi : st.ob[id]? = some cs) (hc : isMap1 cs = true) : ∃ (ents : Array MapEntry) (c : Nat) (es : List LV), m.w.heap[m.ob id]? = some (.map ents c) ∧ cs = .tup [.int .i64 c] :: es ∧ EntsOk T m es ents.toList :=
  ((h.obj id cs hi).map (isMap1_C hc)).ents.resolve_left (by
    rintro ⟨snap, x, rfl, h2⟩
    match x, h2 with
    | [_, _], _ => simp [isMap1] at hc)
theorem op_lookup (hE : EqOk T) (h : FR T st a.tmps m) (hG : Globs T E.gl m) {t kt0 e : TypeId} {kt : Nat} {zero : LV} {ok : Bool} {x i : Operand} {y j : Opd} (ho : o.op = .lookup t x i ok) (hx : chkOpd T x y = true) (hi : chkOpd T i j = true)
    (hu : T.P.underlying t = some (.map kt0 e)) (hk : chkKey T kt kt0 = true) (hz : chkInit T.P e zero = true)
    (hv : valOp E ev pb st dst (.lookup kt zero ok y j) = some (lv, st1, note)) : OpOk T pb st1 a dst m lv note (execOp a.eval o) := by
  simp only [valOp] at hv
  obtain ⟨mp, h1, hv⟩ := Option.bind_eq_some_iff.1 hv
  obtain ⟨k, h2, hv⟩ := Option.bind_eq_some_iff.1 hv
  split at hv
  · rename_i hko
    obtain ⟨r, h3, h4⟩ := Option.map_eq_some_iff.1 hv
    simp only [Prod.mk.injEq] at h4
    obtain ⟨rfl, rfl, rfl⟩ := h4
    have hrx : VRep T st a.tmps m mp (a.eval x) := operand_sound h hG hx h1
    have hrk : Rep T m k (a.eval i) := by
      have := operand_sound h hG hi h2
      cases k <;> simp [keyOk] at hko <;> exact this
    obtain ⟨c1, c2, c3⟩ := hE.2 kt kt0 hk m k _ hko hrk
    -- the zero value
    obtain ⟨zi, zv, g1, g2, g3⟩ : ∃ zi zv, T.P.info? e = some zi ∧ zi.zero = some zv ∧ chkOpd T (.const zv) (.const zero) = true := by
      unfold chkInit at hz
      split at hz
      · rename_i zi hzi
        split at hz
        · rename_i zv hzv; exact ⟨zi, zv, hzi, hzv, hz⟩
        · cases hz
      · cases hz
    have hzr : VRep T st a.tmps m zero zv := operand_sound (x := .const zv) (y := .const zero) h hG g3 rfl
    have hzr : Rep T m zero zv := by
      cases zero <;> try exact hzr
      simp [chkOpd, constOk] at g3
    have fin : ∀ (v : Value) (es : Array MapEntry), Rep T m r.1 v → (do
        Instr.checkKey es.isEmpty 10000 kt0 (a.eval i)
        let (v, ok') ← match ← Instr.findKey kt0 (a.eval i) es.toList with
          | some (_, v) => pure (v, true)
          | none => pure (← zeroValue e, false)
        pure (if ok then .tuple #[v, .bool ok'] else v) : Sem Value).run T.P m.w = .ok (if ok then .tuple #[v, .bool r.2] else v) m.w →
        ((Instr.lookup t (a.eval x) (a.eval i) ok).run T.P m.w = (do
        Instr.checkKey es.isEmpty 10000 kt0 (a.eval i)
        let (v, ok') ← match ← Instr.findKey kt0 (a.eval i) es.toList with
          | some (_, v) => pure (v, true)
          | none => pure (← zeroValue e, false)
        pure (if ok then .tuple #[v, .bool ok'] else v) : Sem Value).run T.P m.w) →
        OpOk T pb st a dst m (if ok then .tup [r.1.bare, .bool r.2] else r.1.bare) none (execOp a.eval o) := by
      intro v es hr hrun hrun0
      refine OpOk.pure h (v := if ok then .tuple #[v, .bool r.2] else v) ?_ ?_ ?_
      · simp only [execOp, ho, Sem.run_bind, hrun0, hrun, Result.andThen_ok, Sem.run_pure]
      · cases ok with
        | true =>
          simp only [if_true]
          refine VRep.of_rep (Rep.tup _ _ rfl fun q w hq => ?_)
          rcases q with _ | _ | q
          · simp at hq; subst hq; exact hr.bare
          · simp at hq; subst hq; exact .bool _
          · simp at hq
        | false => simp only [Bool.false_eq_true, if_false]; exact VRep.of_rep hr.bare
      · cases ok with
        | true => rfl
        | false =>
          simp only [Bool.false_eq_true, if_false]
          exact bare_ownless _
    cases mp with
    | nilmap =>
      simp only [lookE1, Option.some.injEq] at h3
      subst h3
      have hxv : a.eval x = .map none := by
        have hrx' : Rep T m .nilmap (a.eval x) := hrx
        generalize a.eval x = xv at hrx'; cases hrx'; rfl
      obtain ⟨r', q1, q2⟩ := c3 [] [] none ⟨rfl, fun j e he => by simp at he⟩ rfl
      have hr' : r' = none := by
        rcases q2 with ⟨_, q⟩ | ⟨_, _, _, _, _, q, _⟩
        · exact q
        · cases q
      subst hr'
      refine fin zv #[] hzr ?_ ?_
      · simp only [Sem.run_bind, c1, q1, Result.andThen_ok, runZ g1 g2, Sem.run_pure]
      · simp only [Instr.lookup, hxv, Sem.run_bind, runU hu, Result.andThen_ok, Sem.run_pure]; rfl
    | mref id =>
      simp only [lookE1] at h3
      obtain ⟨cs, h5, h6⟩ := Option.bind_eq_some_iff.1 h3
      have hxv : a.eval x = .map (some (m.ob id)) := by
        have hrx' : Rep T m (.mref id) (a.eval x) := hrx
        generalize a.eval x = xv at hrx'; cases hrx'; rfl
      have hmc : isMap1 cs = true := by
        unfold mapLook at h6
        split at h6
        · rfl
        · cases h6
      obtain ⟨ents, c, es, w1, rfl, w2⟩ := map_at h h5 hmc
      simp only [mapLook] at h6
      obtain ⟨fr, w3, w4⟩ := Option.map_eq_some_iff.1 h6
      obtain ⟨r', q1, q2⟩ := c3 es ents.toList fr w2 w3
      have hl : (Instr.lookup t (a.eval x) (a.eval i) ok).run T.P m.w = (do
        Instr.checkKey ents.isEmpty 10000 kt0 (a.eval i)
        let (v, ok') ← match ← Instr.findKey kt0 (a.eval i) ents.toList with
          | some (_, v) => pure (v, true)
          | none => pure (← zeroValue e, false)
        pure (if ok then .tuple #[v, .bool ok'] else v) : Sem Value).run T.P m.w := by
        simp only [Instr.lookup, hxv, Sem.run_bind, runU hu, MapKept.run_getObj_map w1, Result.andThen_ok, Sem.run_pure]; rfl
      rcases q2 with ⟨rfl, rfl⟩ | ⟨i0, k', vv, b, en, rfl, rfl, z1, z2, z3, z4, z5, z6⟩
      · simp only at w4
        subst w4
        exact fin zv ents hzr (by simp only [Sem.run_bind, c1, q1, Result.andThen_ok, runZ g1 g2, Sem.run_pure]) hl
      · simp only at w4
        subst w4
        exact fin en.val ents z5 (by simp only [Sem.run_bind, c1, q1, Result.andThen_ok, Sem.run_pure]) hl
    | _ => simp [lookE1] at h3
  · cases hv
end
end Tree

set_option autoImplicit false
set_option linter.unusedVariables false
set_option linter.unusedSimpArgs false
namespace Tree
open Go
section
variable {T : Tab} {E : Env} {ev : Ev} {pb : Nat} {st st1 : St} {a : Act} {dst : Option Nat} {m : Mem} {lv : LV} {note : Option Place} {o : Oper}

theorem ents_set {es : List LV} {l : Array MapEntry} {i : Nat} {k u : LV} {b : Int} {v w : Value} {en : MapEntry} (h : EntsOk T m es l.toList) (hi : l.toList[i]? = some en) (hb : b = en.born) (hk : Rep T m k v) (hu : Rep T m u w) (hc : u.cells.all LV.isCell = true) :
    EntsOk T m (es.set i (.tup [k, u, .int .i64 b])) (l.modify i fun e => { e with key := v, val := w }).toList := by
  refine ⟨by simpa using h.1, fun j e he => ?_⟩
  rw [List.getElem?_set] at he
  rw [Array.getElem?_toList, Array.getElem?_modify]
  rw [Array.getElem?_toList] at hi
  by_cases e : i = j
  · subst e
    rw [if_pos rfl] at he ⊢
    split at he
    · injection he with he; subst he
      refine ⟨_, by rw [hi]; rfl, k, u, by rw [hb], hk, hu, hc⟩
    · cases he
  · rw [if_neg e] at he ⊢
    obtain ⟨en', h1, h2⟩ := h.2 j _ he
    exact ⟨en', by simpa using h1, h2⟩
theorem ents_push {es : List LV} {l : Array MapEntry} {k u : LV} {c : Nat} {v w : Value} (h : EntsOk T m es l.toList) (hk : Rep T m k v) (hu : Rep T m u w) (hc : u.cells.all LV.isCell = true) :
    EntsOk T m (es ++ [.tup [k, u, .int .i64 c]]) (l.push { key := v, val := w, born := c }).toList := by
  have hl := h.1
  refine ⟨by simpa using h.1, fun j e he => ?_⟩
  rw [Array.toList_push]
  by_cases hj : j < es.length
  · rw [List.getElem?_append_left hj] at he
    obtain ⟨en, h1, h2⟩ := h.2 j _ he
    exact ⟨en, by rw [List.getElem?_append_left (by omega)]; exact h1, h2⟩
  · rw [List.getElem?_append_right (by omega)] at he
    rw [List.getElem?_append_right (by omega)]
    have : j - es.length = 0 := by have := (List.getElem?_eq_some_iff.1 he).1; simp at this; omega
    rw [this] at he
    simp at he; subst he
    rw [show j - l.toList.length = 0 by omega]
    exact ⟨_, rfl, k, u, rfl, hk, hu, hc⟩
theorem ents_erase {es : List LV} {l : Array MapEntry} {i : Nat} (h : EntsOk T m es l.toList) : EntsOk T m (es.eraseIdx i) (l.eraseIdxIfInBounds i).toList := by
  have e : (l.eraseIdxIfInBounds i).toList = l.toList.eraseIdx i := by
    unfold Array.eraseIdxIfInBounds
    split
    · simp
    · rename_i hn
      rw [List.eraseIdx_of_length_le]
      simpa using hn
  rw [e]
  refine ⟨by simp [List.length_eraseIdx, h.1], fun j x hx => ?_⟩
  rw [List.getElem?_eraseIdx] at hx ⊢
  split at hx
  · rename_i hlt; rw [if_pos hlt]; exact h.2 j x hx
  · rename_i hlt; rw [if_neg hlt]; exact h.2 (j + 1) x hx

theorem key_rep (h : FR T st a.tmps m) (hG : Globs T E.gl m) {t : Nat} {i : Operand} {j : Opd} {k : LV} (hi : chkOpd T i j = true) (h2 : st.operand E.gl j = some k) (hko : keyOk t k = true) : Rep T m k (a.eval i) := by
  have := operand_sound h hG hi h2
  cases k <;> simp [keyOk] at hko <;> exact this
theorem cells_rep (h : FR T st a.tmps m) (hG : Globs T E.gl m) {i : Operand} {j : Opd} {k : LV} (hi : chkOpd T i j = true) (h2 : st.operand E.gl j = some k) (hko : k.cells.all LV.isCell = true) : Rep T m k (a.eval i) := by
  have := operand_sound h hG hi h2
  cases k <;> try exact this
  simp [LV.cells, LV.isCell] at hko

theorem op_mapSet (hE : EqOk T) (h : FR T st a.tmps m) (hG : Globs T E.gl m) {t kt0 e : TypeId} {kt : Nat} {x i v : Operand} {y j u : Opd} (ho : o.op = .mapUpdate t x i v ∨ o.op = .insert t x i v) (hx : chkOpd T x y = true) (hi : chkOpd T i j = true) (hw : chkOpd T v u = true)
    (hu : T.P.underlying t = some (.map kt0 e)) (hk : chkKey T kt kt0 = true)
    (hv : valOp E ev pb st none (.mapSet kt y j u) = some (lv, st1, note)) : lv = .undef ∧ note = none ∧ OpOkS T pb st1 a m (execOp a.eval o) := by
  simp only [valOp] at hv
  obtain ⟨mp, h1, hv⟩ := Option.bind_eq_some_iff.1 hv
  obtain ⟨k, h2, hv⟩ := Option.bind_eq_some_iff.1 hv
  obtain ⟨w, h3, hv⟩ := Option.bind_eq_some_iff.1 hv
  split at hv
  · rename_i hko
    simp only [Bool.and_eq_true] at hko
    obtain ⟨hko, hwc⟩ := hko
    cases mp with
    | mref id =>
      simp only at hv
      obtain ⟨s2, h4, h5⟩ := Option.map_eq_some_iff.1 hv
      simp only [Prod.mk.injEq] at h5
      obtain ⟨rfl, rfl, rfl⟩ := h5
      refine ⟨rfl, rfl, ?_⟩
      unfold mapNew at h4
      split at h4
      · rename_i hlow
        obtain ⟨cs, h6, h7⟩ := Option.bind_eq_some_iff.1 h4
        obtain ⟨cs', h8, rfl⟩ := Option.map_eq_some_iff.1 h7
        have hrk := key_rep h hG hi h2 hko
        have hrw := cells_rep h hG hw h3 hwc
        obtain ⟨c1, c2, c3⟩ := hE.2 kt kt0 hk m k _ hko hrk
        have hxv : a.eval x = .map (some (m.ob id)) := by
          have hrx' : Rep T m (.mref id) (a.eval x) := operand_sound h hG hx h1
          generalize a.eval x = xv at hrx'; cases hrx'; rfl
        have hmc : isMap1 cs = true := by
          unfold mapPut at h8
          split at h8
          · rfl
          · cases h8
        obtain ⟨ents, c, es, w1, rfl, w2⟩ := map_at h h6 hmc
        simp only [mapPut] at h8
        obtain ⟨fr, w3, w4⟩ := Option.map_eq_some_iff.1 h8
        obtain ⟨r', q1, q2⟩ := c3 es ents.toList fr w2 w3
        have hexec : execOp a.eval o = (do Instr.mapUpdate t (a.eval x) (a.eval i) (a.eval v); pure .skip) := by rcases ho with ho | ho <;> simp only [execOp, ho]
        rcases q2 with ⟨rfl, rfl⟩ | ⟨i0, k', vv, b, en, rfl, rfl, z1, z2, z3, z4, z5, z6⟩
        · simp only at w4
          subst w4
          obtain ⟨f1, f2⟩ := FR.setMap (c' := c + 1) h h6 w1 (ents_push w2 hrk hrw hwc) hlow
          refine ⟨_, f2, ?_, f1⟩
          rw [hexec]
          simp only [Instr.mapUpdate, hxv, Sem.run_bind, runU hu, MapKept.run_getObj_map w1, Result.andThen_ok, c1, q1, MapKept.run_setObj_map _ w1, Sem.run_pure]
          rfl
        · simp only at w4
          subst w4
          obtain ⟨f1, f2⟩ := FR.setMap (c' := c) h h6 w1 (ents_set w2 z1 z3 hrk hrw hwc) hlow
          refine ⟨_, f2, ?_, f1⟩
          rw [hexec]
          have z1' : ents[i0]? = some en := by simpa using z1
          simp only [Instr.mapUpdate, hxv, Sem.run_bind, runU hu, MapKept.run_getObj_map w1, Result.andThen_ok, c1, q1, z1', Option.map_some, Option.getD_some, z4, c2, MapKept.run_setObj_map _ w1, Sem.run_pure]
          rfl
      · cases h4
    | _ => simp at hv
  · cases hv

theorem op_lenMap (h : FR T st a.tmps m) (hG : Globs T E.gl m) {c : Call} {e kt el : TypeId} {x : Operand} {y : Opd} (ho : o.op = .call c) (hb : c.callee = .builtin .len) (hargs : c.args.toList = [x]) (hty : c.argTypes.toList = [e]) (hc : chkOpd T x y = true)
    (hu : T.P.underlying e = some (.map kt el))
    (hv : valOp E ev pb st dst (.lenMap y) = some (lv, st1, note)) : OpOk T pb st1 a dst m lv note (execOp a.eval o) := by
  have ha : c.args = #[x] := by apply Array.toList_inj.1; simpa using hargs
  have ht : c.argTypes = #[e] := by apply Array.toList_inj.1; simpa using hty
  obtain ⟨cs, hrun⟩ := run_builtin (T := T) (a := a) (w := m.w) ho hb
  simp only [valOp] at hv
  split at hv
  · rename_i h1
    simp only [Option.some.injEq, Prod.mk.injEq] at hv
    obtain ⟨rfl, rfl, rfl⟩ := hv
    have hxv : a.eval x = .map none := by
      have hrx' : Rep T m .nilmap (a.eval x) := operand_sound h hG hc h1
      generalize a.eval x = xv at hrx'; cases hrx'; rfl
    refine OpOk.pure h (v := .int .i64 0) ?_ (Rep.int _ _) rfl
    rw [hrun, ha, ht]
    simp [builtin, Builtin.len_, runU hu, hxv, goInt]
  · rename_i id h1
    obtain ⟨n, h2, h3⟩ := Option.map_eq_some_iff.1 hv
    simp only [Prod.mk.injEq] at h3
    obtain ⟨rfl, rfl, rfl⟩ := h3
    obtain ⟨cs1, h4, h5⟩ := Option.bind_eq_some_iff.1 h2
    have hxv : a.eval x = .map (some (m.ob id)) := by
      have hrx' : Rep T m (.mref id) (a.eval x) := operand_sound h hG hc h1
      generalize a.eval x = xv at hrx'; cases hrx'; rfl
    have hmc : isMap1 cs1 = true := by
      unfold mapLen at h5
      split at h5
      · rfl
      · cases h5
    obtain ⟨ents, k, es, w1, rfl, w2⟩ := map_at h h4 hmc
    simp only [mapLen, Option.some.injEq] at h5
    subst h5
    refine OpOk.pure h (v := .int .i64 es.length) ?_ (Rep.int _ _) rfl
    rw [hrun, ha, ht]
    have hl : es.length = ents.size := by simpa using w2.1
    simp [builtin, Builtin.len_, runU hu, hxv, MapKept.run_getObj_map w1, goInt]
    omega
  · cases hv
theorem op_mapDel (hE : EqOk T) (h : FR T st a.tmps m) (hG : Globs T E.gl m) {c : Call} {t kt0 e : TypeId} {kt : Nat} {ts : List TypeId} {x i : Operand} {y j : Opd} (ho : o.op = .call c) (hb : c.callee = .builtin .delete) (hargs : c.args.toList = [x, i]) (hty : c.argTypes.toList = t :: ts)
    (hx : chkOpd T x y = true) (hi : chkOpd T i j = true) (hu : T.P.underlying t = some (.map kt0 e)) (hk : chkKey T kt kt0 = true)
    (hv : valOp E ev pb st dst (.mapDel kt y j) = some (lv, st1, note)) : OpOk T pb st1 a dst m lv note (execOp a.eval o) := by
  have ha : c.args = #[x, i] := by apply Array.toList_inj.1; simpa using hargs
  have ht : c.argTypes[0]? = some t := by rw [← Array.getElem?_toList, hty]; rfl
  obtain ⟨cs0, hrun⟩ := run_builtin (T := T) (a := a) (w := m.w) ho hb
  simp only [valOp] at hv
  obtain ⟨mp, h1, hv⟩ := Option.bind_eq_some_iff.1 hv
  obtain ⟨k, h2, hv⟩ := Option.bind_eq_some_iff.1 hv
  split at hv
  · rename_i hko
    have hrk := key_rep h hG hi h2 hko
    obtain ⟨c1, c2, c3⟩ := hE.2 kt kt0 hk m k _ hko hrk
    cases mp with
    | mref id =>
      simp only at hv
      obtain ⟨s2, h4, h5⟩ := Option.map_eq_some_iff.1 hv
      simp only [Prod.mk.injEq] at h5
      obtain ⟨rfl, rfl, rfl⟩ := h5
      unfold mapNew at h4
      split at h4
      · rename_i hlow
        obtain ⟨cs, h6, h7⟩ := Option.bind_eq_some_iff.1 h4
        obtain ⟨cs', h8, rfl⟩ := Option.map_eq_some_iff.1 h7
        have hxv : a.eval x = .map (some (m.ob id)) := by
          have hrx' : Rep T m (.mref id) (a.eval x) := operand_sound h hG hx h1
          generalize a.eval x = xv at hrx'; cases hrx'; rfl
        have hmc : isMap1 cs = true := by
          unfold mapOff at h8
          split at h8
          · rfl
          · cases h8
        obtain ⟨ents, c', es, w1, rfl, w2⟩ := map_at h h6 hmc
        simp only [mapOff] at h8
        obtain ⟨fr, w3, w4⟩ := Option.map_eq_some_iff.1 h8
        obtain ⟨r', q1, q2⟩ := c3 es ents.toList fr w2 w3
        rcases q2 with ⟨rfl, rfl⟩ | ⟨i0, k', vv, b, en, rfl, rfl, z1, z2, z3, z4, z5, z6⟩
        · simp only at w4
          subst w4
          obtain ⟨f1, f2⟩ := FR.setMap (c' := c') h h6 w1 w2 hlow
          refine ⟨.tuple #[], _, f2, ?_, f1, Rep.tup [] #[] rfl (fun i lv hi => by simp at hi), fun _ _ => trivial, fun p hp => by cases hp⟩
          rw [hrun, ha]
          simp only [builtin, Builtin.delete_, ht]
          simp [hxv, runU hu, MapKept.run_getObj_map w1, c1, q1, MapKept.run_setObj_map _ w1]
          rfl
        · simp only at w4
          subst w4
          obtain ⟨f1, f2⟩ := FR.setMap (c' := c') h h6 w1 (ents_erase (i := i0) w2) hlow
          refine ⟨.tuple #[], _, f2, ?_, f1, Rep.tup [] #[] rfl (fun i lv hi => by simp at hi), fun _ _ => trivial, fun p hp => by cases hp⟩
          rw [hrun, ha]
          simp only [builtin, Builtin.delete_, ht]
          simp [hxv, runU hu, MapKept.run_getObj_map w1, c1, q1, MapKept.run_setObj_map _ w1]
          rfl
      · cases h4
    | nilmap =>
      simp only [Option.some.injEq, Prod.mk.injEq] at hv
      obtain ⟨rfl, rfl, rfl⟩ := hv
      have hxv : a.eval x = .map none := by
        have hrx' : Rep T m .nilmap (a.eval x) := operand_sound h hG hx h1
        generalize a.eval x = xv at hrx'; cases hrx'; rfl
      refine OpOk.pure h (v := .tuple #[]) ?_ (Rep.tup [] #[] rfl (fun i lv hi => by simp at hi)) rfl
      rw [hrun, ha]
      simp only [builtin, Builtin.delete_, ht]
      simp [hxv, runU hu, c1]
    | _ => simp at hv
  · cases hv
end
end Tree

set_option autoImplicit false
set_option linter.unusedVariables false
set_option linter.unusedSimpArgs false
namespace Tree
open Go
section
variable {T : Tab} {E : Env} {ev : Ev} {pb : Nat} {st st1 : St} {a : Act} {dst : Option Nat} {m : Mem} {lv : LV} {note : Option Place} {o : Oper}

theorem rep_len {c : Nat} {zero : List LV} : (List.replicate c zero).flatten.length = c * zero.length := by
  rw [flat_len (sz := zero.length) _ (fun x hx => by rw [List.eq_of_mem_replicate hx]), List.length_replicate]
theorem rep_get {c j : Nat} {zero : List LV} {lv : LV} (hz : 0 < zero.length) (h : (List.replicate c zero).flatten[j]? = some lv) : j < c * zero.length ∧ zero[j % zero.length]? = some lv := by
  have hlt : j < c * zero.length := by have := (List.getElem?_eq_some_iff.1 h).1; rwa [rep_len] at this
  refine ⟨hlt, ?_⟩
  have hm := Nat.mod_lt j hz
  have := flat_get (sz := zero.length) (List.replicate c zero) (fun x hx => by rw [List.eq_of_mem_replicate hx]) (j / zero.length) (j % zero.length) hm
  rw [← flat_split hz, h, List.getElem?_replicate, if_pos ((Nat.div_lt_iff_lt_mul hz).2 hlt), Option.bind_some] at this
  exact this.symm

theorem op_mkslice (h : FR T st a.tmps m) (hG : Globs T E.gl m) {t el : TypeId} {sz bytes : Nat} {zero : List LV} {n c : Operand} {n' c' : Opd} (ho : o.op = .makeSlice t n c) (hn : chkOpd T n n' = true) (hc : chkOpd T c c' = true)
    (hu : T.P.underlying t = some (.slice el)) (hz : chkZeros T.P el zero sz bytes = true)
    (hv : valOp E ev pb st dst (.mkslice sz bytes zero n' c') = some (lv, st1, note)) : OpOk T pb st1 a dst m lv note (execOp a.eval o) := by
  simp only [valOp] at hv
  obtain ⟨nv, h1, hv⟩ := Option.bind_eq_some_iff.1 hv
  obtain ⟨cv, h2, hv⟩ := Option.bind_eq_some_iff.1 hv
  have hnr := operand_sound h hG hn h1
  have hcr := operand_sound h hG hc h2
  obtain ⟨k1, ln, rfl⟩ : ∃ k1 ln, nv = .int k1 ln := by cases nv <;> first | exact ⟨_, _, rfl⟩ | (simp at hv; done)
  obtain ⟨k2, cp, rfl⟩ : ∃ k2 cp, cv = .int k2 cp := by cases cv <;> first | exact ⟨_, _, rfl⟩ | (simp at hv; done)
  · simp only at hv
    split at hv
    · rename_i hcond
      obtain ⟨b1, b2, b3, b4, b5⟩ := hcond
      simp only [Option.some.injEq, Prod.mk.injEq] at hv
      obtain ⟨rfl, rfl, rfl⟩ := hv
      have hnv : a.eval n = .int k1 ln := by
        have hnr' : Rep T m (.int k1 ln) (a.eval n) := hnr
        generalize a.eval n = x at hnr'; cases hnr'; rfl
      have hcv : a.eval c = .int k2 cp := by
        have hcr' : Rep T m (.int k2 cp) (a.eval c) := hcr
        generalize a.eval c = x at hcr'; cases hcr'; rfl
      obtain ⟨L, rfl⟩ : ∃ L : Nat, ln = (L : Int) := ⟨ln.toNat, by omega⟩
      obtain ⟨C, rfl⟩ : ∃ C : Nat, cp = (C : Int) := ⟨cp.toNat, by omega⟩
      have hLC : L ≤ C := by omega
      have hCb : C * bytes ≤ 140737488355328 := by
        have : ((C * bytes : Nat) : Int) ≤ 140737488355328 := by rw [Int.natCast_mul]; exact b3
        omega
      unfold chkZeros at hz
      split at hz
      · rename_i i hi
        simp only [Bool.and_eq_true, beq_iff_eq, bne_iff_ne, ne_eq] at hz
        obtain ⟨⟨⟨⟨g1, g2⟩, g3⟩, g4⟩, g5⟩ := hz
        split at g5
        · rename_i z hz0
          simp only [Bool.and_eq_true, beq_iff_eq, Array.all_eq_true_iff_forall_mem] at g5
          obtain ⟨⟨⟨g6, g7⟩, g8⟩, g9⟩ := g5
          have hC : C ≤ 140737488355328 := Nat.le_trans (Nat.le_mul_of_pos_right C (Nat.pos_of_ne_zero g4)) hCb
          have hszp : 0 < sz := Nat.pos_of_ne_zero g3
          have hw : ∀ N : Nat, N ≤ 140737488355328 → IntKind.i64.wrap (N : Int) = (N : Int) := fun N hN => IntWalk.i64_in _ (by omega)
          -- the cells
          let cells : Array Value := (Array.range (C * sz)).map (z.cells[· % z.cells.size]!)
          have hcl : cells.size = C * sz := by simp [cells]
          have hcg : ∀ j, j < C * sz → cells.getD j undef = z.cells.getD (j % sz) undef := by
            intro j hj
            have hm := Nat.mod_lt j hszp
            simp [cells, Array.getD_eq_getD_getElem?, hj, g8, hm, getElem!_pos]
          have hrows : ∀ (m' : Mem) (j : Nat) (lv : LV), (List.replicate C zero).flatten[j]? = some lv → (cells.getD j undef).oneCell' = true ∧ Rep T m' lv (cells.getD j undef) := by
            intro m' j lv hj
            obtain ⟨q1, q2⟩ := rep_get (by omega) hj
            rw [b4] at q1 q2
            rw [hcg j q1]
            have hm := Nat.mod_lt j hszp
            refine ⟨g9 _ ?_, ?_⟩
            · rw [Array.getD_eq_getD_getElem?, Array.getElem?_eq_getElem (by omega)]; exact Array.getElem_mem _
            · have := (constsRep (T := T) (m := m') zero z.cells.toList g6).2 _ _ q2
              simpa [Array.getD_eq_getD_getElem?, List.getD_eq_getElem?_getD] using this
          have hnn : m.n = st.ob.length := h.n
          have hext := ext_alloc m (.cells cells el) (fun _ => .obj m.n)
          have hfr := h.ext hext rfl
          have hblk : Block T (m.alloc (.cells cells el) (fun _ => .obj m.n)) m.w.heap.size (List.replicate C zero).flatten (.obj m.n) := by
            refine ⟨cells, el, ?_, by rw [hcl, rep_len, b4], fun o => if_pos rfl, fun j lv hj => hrows _ j lv hj⟩
            show (m.w.alloc _).heap[_]? = _
            exact heap_alloc_new m.w _
          refine ⟨.slice (some ⟨m.w.heap.size, 0, none⟩) L C, _, Post.allocMore m (.cells cells el) (fun _ => .obj m.n), ?_, FR.more hfr (.inl ⟨hblk.notMap, hblk⟩) hnn (fun i l z1 xs sp hi' => ?_), ?_, fun d _ => trivial, fun p hp => by cases hp⟩
          · show _ = Result.ok _ (m.w.alloc _)
            have t1 : ¬ ((i.bytes : Int) * (C : Int) > 2 ^ 48) := by
              rw [g2]
              have : ((C * bytes : Nat) : Int) ≤ 140737488355328 := by omega
              rw [Int.natCast_mul, Int.mul_comm] at this
              omega
            have t2 : ¬ ((C : Int) < 0) := by omega
            have t3 : ¬ ((L : Int) < 0) := by omega
            have t4 : ¬ ((L : Int) > (C : Int)) := by omega
            have t5 : ¬ (C * i.bytes > roomBytes) := by rw [g2]; unfold roomBytes; omega
            simp only [execOp, ho, hnv, hcv, Instr.makeSlice, asInt, asIntOf, Sem.run_bind, runU hu, Result.andThen_ok, Sem.run_pure, runI hi, hw C hC, hw L (by omega), Int.toNat_natCast, askRoom]
            simp only [t1, t2, t3, t4, t5, decide_false, Bool.or_false, Bool.false_eq_true, if_false, Sem.run_pure, Result.andThen_ok, runS (show sizeB T.P el = some i.size by simp [sizeB, hi])]
            have hS : ∀ w : World, (Go.sizeOf el).run T.P w = .ok i.size w := fun w => runS (show sizeB T.P el = some i.size by simp [sizeB, hi])
            have hZ : ∀ w : World, (zeroValue el).run T.P w = .ok z w := fun w => runZ hi hz0
            by_cases h0 : C * i.size = 0
            · have hC0 : C * sz = 0 := by rw [← g1]; exact h0
              simp [hS, h0, newRow, newObj, Sem.run, cells, hC0, show (Array.range 0 : Array Nat) = #[] from rfl]
            · have hC0 : ¬ C * sz = 0 := by rw [← g1]; exact h0
              simp only [newRow, newObj, Sem.run, Sem.run_bind, Sem.run_pure, Sem.run_ite, hS, hZ, Result.andThen_ok, if_neg h0, if_neg hC0, g1, cells]
              rfl
          · rw [Int.toNat_natCast] at hi'
            obtain ⟨q1, q2⟩ := rep_get (by omega) hi'
            rw [b4] at q1 q2
            refine ⟨cells.getD i undef, ?_, ?_⟩
            · show (m.w.alloc _).cell? _ = _
              rw [World.cell?_alloc_new, Array.getD_eq_getD_getElem?, Array.getElem?_eq_getElem (by omega)]; rfl
            · rw [hcg i q1]
              have := constOwns1 (m := (m.alloc (.cells cells el) (fun _ => .obj m.n))) (constsOk_get _ _ g6 _ _ q2) (.tail ⟨.obj st.ob.length, some i⟩)
              simpa [Array.getD_eq_getD_getElem?, List.getD_eq_getElem?_getD] using this
          · have := Rep.msl (T := T) (m := (m.alloc (.cells cells el) (fun _ => .obj m.n)).more m.w.heap.size) st.ob.length 0 L C sz (by show _ < m.n + 1; omega) (by unfold maxLen; omega) hLC
            have e : ((m.alloc (.cells cells el) (fun _ => .obj m.n)).more m.w.heap.size).ob st.ob.length = m.w.heap.size := by
              show (if st.ob.length = m.n then m.w.heap.size else m.ob _) = _
              rw [if_pos hnn.symm]
            rw [e] at this
            refine VRep.of_rep ?_
            simpa using this
        · cases g5
      · cases hz
    · cases hv

/-- The cells that copy reads. -/
theorem rows_cells (h : FR T st a.tmps m) {s : LV} {v : Value} {z : Nat} {rows : List (List LV)} {sz k : Nat} (hr : VRep T st a.tmps m s v) (he : rowsOf st s = some (z, rows)) (hz : z = sz ∨ rows = []) (hsz : 0 < sz) (hk : k ≤ rows.length) :
    ∃ news : List Value, (Builtin.lenOf v).run T.P m.w = .ok rows.length m.w ∧ (Builtin.firstCells sz k v).run T.P m.w = .ok news.toArray m.w ∧ CellsRep T m ((rows.take k).flatten.map LV.bare1) news := by
  cases s with
  | sl own lab z' xs sp =>
    simp only [rowsOf, Option.some.injEq, Prod.mk.injEq] at he
    obtain ⟨rfl, rfl⟩ := he
    have hr' : Rep T m (.sl own lab z' xs sp) v := hr
    have hlen : ∃ b c, v = .slice b xs.length c := by
      cases hr' <;> exact ⟨_, _, rfl⟩
    obtain ⟨b, c, rfl⟩ := hlen
    have hcut : Rep T m (.sl own lab z' (xs.take k) (xs.drop k ++ sp)) (.slice b k c) := by
      generalize hxl : xs.length = n at hr'
      cases hr' with
      | nil => simp at hk; subst hk; simp; exact .nil _ _ _
      | emp => simp at hk; subst hk; simp; exact .emp _ _ _ _
      | sl _ _ _ _ _ b off cap val hc hzz hm hrr hM =>
        have e : xs.take k ++ (xs.drop k ++ sp) = xs ++ sp := by rw [← List.append_assoc, List.take_append_drop]
        have hkl : (xs.take k).length = k := by rw [List.length_take]; exact Nat.min_eq_left hk
        have := Rep.sl (T := T) (m := m) own lab z' (xs.take k) (xs.drop k ++ sp) b off c val (by rw [e]; exact hc) (by rw [e]; exact hzz) (by rw [e]; exact hm) (by rw [e]; exact hrr) hM
        rw [hkl] at this; exact this
    have hkl : (xs.take k).length = k := by rw [List.length_take]; exact Nat.min_eq_left hk
    obtain ⟨news, g1, g2, g3, g4, g5⟩ := elems_sound (st := st) (a := a) (VRep.of_rep hcut) (rfl : elems (.sl own lab z' (xs.take k) (xs.drop k ++ sp)) = some (z', xs.take k)) (by rcases hz with e | e; exact .inl e; exact .inr (by rw [e]; simp)) hsz
    obtain ⟨_, g1⟩ := g1 m.w (fun _ => rfl)
    rw [hkl] at g1
    refine ⟨news, by simp [Builtin.lenOf], ?_, ?_⟩
    · cases b <;> simpa [Builtin.firstCells] using g1
    · have hfl : (xs.take k).flatten.length = news.length := by rw [flat_len _ g3, g2]
      refine ⟨by rw [List.length_map]; exact hfl, fun j lv hj => ?_⟩
      rw [List.getElem?_map] at hj
      obtain ⟨c0, hc0, rfl⟩ := Option.map_eq_some_iff.1 hj
      obtain ⟨u, q1, q2⟩ := g5 j c0 hc0
      have e : news.getD j undef = u := by rw [List.getD_eq_getElem?_getD, q1]; rfl
      rw [e]
      exact ⟨g4 u (List.mem_of_getElem? q1), q2.bare1⟩
  | msl id off len cap z' =>
    simp only [rowsOf] at he
    obtain ⟨cs, h1, h2⟩ := Option.bind_eq_some_iff.1 he
    split at h2
    · cases h2
    · rename_i hnm
      split at h2
      · rename_i hle
        simp only [Option.some.injEq, Prod.mk.injEq] at h2
        obtain ⟨rfl, rfl⟩ := h2
        have hrl : ((List.range len).map fun i => (cs.drop (off + i * z')).take z').length = len := by simp
        rw [hrl] at hk
        have hr' : Rep T m (.msl id off len cap z') v := hr
        have hv : v = .slice (some ⟨m.ob id, off, none⟩) len cap := by cases hr'; rfl
        subst hv
        obtain ⟨vs, ty, w1, w2, w3, w4⟩ := (h.obj id cs h1).cells (by simpa using hnm)
        by_cases hk0 : k = 0
        · subst hk0
          refine ⟨[], by simp [Builtin.lenOf, hrl], ?_, ⟨by simp, fun j lv hj => by simp at hj⟩⟩
          simp [Builtin.firstCells, loadCells, loadCellsFrom]
        · have hzz : z' = sz := by
            rcases hz with e | e
            · exact e
            · have : len = 0 := by rw [← hrl, e]; rfl
              omega
          subst hzz
          have hkz : off + k * z' ≤ cs.length := by have := Nat.mul_le_mul_right z' hk; omega
          have hall : ∀ x ∈ ((List.range len).map fun i => (cs.drop (off + i * z')).take z').take k, x.length = z' := by
            intro x hx
            obtain ⟨i, hi, rfl⟩ := List.mem_map.1 (List.mem_of_mem_take hx)
            have hi := List.mem_range.1 hi
            have : i * z' + z' ≤ len * z' := by rw [← Nat.succ_mul]; exact Nat.mul_le_mul_right _ hi
            simp; omega
          have hget : ∀ j, j < k * z' → (((List.range len).map fun i => (cs.drop (off + i * z')).take z').take k).flatten[j]? = cs[off + j]? := by
            intro j hj
            have hm := Nat.mod_lt j hsz
            have hd : j / z' < k := (Nat.div_lt_iff_lt_mul hsz).2 hj
            have := flat_get _ hall (j / z') (j % z') hm
            rw [← flat_split hsz] at this
            rw [this, List.getElem?_take, if_pos hd, List.getElem?_map, List.getElem?_range (by omega), Option.map_some, Option.bind_some, List.getElem?_take, if_pos hm, List.getElem?_drop]
            congr 1
            rw [Nat.add_assoc, ← flat_split hsz]
          refine ⟨(List.range (k * z')).map fun j => vs.getD (off + j) undef, by simp [Builtin.lenOf, hrl], ?_, ?_⟩
          · simp only [Builtin.firstCells]
            refine run_loadCells m.w _ _ _ fun j hj => ?_
            rw [Addr.add_lit]
            have : off + j < vs.size := by omega
            simp [World.cell?, w1, Array.getD_eq_getD_getElem?, this]
          · have hfl := flat_len _ hall
            refine ⟨by simp only [List.length_map, hfl, List.length_take, List.length_range]; rw [Nat.min_eq_left hk], fun j lv hj => ?_⟩
            rw [List.getElem?_map] at hj
            obtain ⟨c0, hc0, rfl⟩ := Option.map_eq_some_iff.1 hj
            have hjl : j < k * z' := by
              have := (List.getElem?_eq_some_iff.1 hc0).1
              rw [hfl, List.length_take, List.length_map, List.length_range, Nat.min_eq_left hk] at this
              exact this
            rw [hget j hjl] at hc0
            have e : ((List.range (k * z')).map fun j => vs.getD (off + j) undef).getD j undef = vs.getD (off + j) undef := by
              rw [List.getD_eq_getElem?_getD, List.getElem?_map, List.getElem?_range hjl]; rfl
            rw [e]
            exact ⟨(w4 _ _ hc0).1, (w4 _ _ hc0).2.bare1⟩
      · cases h2
  | _ => simp [rowsOf] at he

theorem bare1_own {c : LV} {l z : Nat} {xs sp : List (List LV)} (h : c.bare1 = .sl true l z xs sp) : False := by cases c <;> simp [LV.bare1] at h
theorem op_copy (h : FR T st a.tmps m) (hG : Globs T E.gl m) {c : Call} {t el : TypeId} {ts : List TypeId} {sz : Nat} {x s : Operand} {y q : Opd} (ho : o.op = .call c) (hb : c.callee = .builtin .copy) (hargs : c.args.toList = [x, s]) (hty : c.argTypes.toList = t :: ts)
    (hx : chkOpd T x y = true) (hs : chkOpd T s q = true) (hu : T.P.underlying t = some (.slice el)) (hsz0 : sz ≠ 0) (hsz : sizeB T.P el = some sz)
    (hv : valOp E ev pb st dst (.copy sz y q) = some (lv, st1, note)) : OpOk T pb st1 a dst m lv note (execOp a.eval o) := by
  have ha : c.args = #[x, s] := by apply Array.toList_inj.1; simpa using hargs
  have ht : c.argTypes[0]? = some t := by rw [← Array.getElem?_toList, hty]; rfl
  obtain ⟨cs0, hrun⟩ := run_builtin (T := T) (a := a) (w := m.w) ho hb
  simp only [valOp] at hv
  obtain ⟨d, h1, hv⟩ := Option.bind_eq_some_iff.1 hv
  obtain ⟨sv, h2, hv⟩ := Option.bind_eq_some_iff.1 hv
  obtain ⟨r, h3, hv1⟩ := Option.bind_eq_some_iff.1 hv
  clear hv
  have hxr := operand_sound h hG hx h1
  have hsr := operand_sound h hG hs h2
  obtain ⟨z, rows⟩ := r
  cases d with
  | msl id off len cap z' =>
    simp only at hv1
    split at hv1
    · rename_i hcond
      obtain ⟨rfl, hz, hlow⟩ := hcond
      obtain ⟨s2, h4, h5⟩ := Option.map_eq_some_iff.1 hv1
      simp only [Prod.mk.injEq] at h5
      obtain ⟨rfl, rfl, rfl⟩ := h5
      have hxv : a.eval x = .slice (some ⟨m.ob id, off, none⟩) len cap := by
        have hx' : Rep T m (.msl id off len cap z') (a.eval x) := hxr
        generalize a.eval x = xv at hx'; cases hx'; rfl
      obtain ⟨news, g1, g2, g3⟩ := rows_cells (k := min len rows.length) h hsr h3 hz (Nat.pos_of_ne_zero hsz0) (Nat.min_le_right _ _)
      have e1 : rows.take (min len rows.length) = rows.take len := by
        rcases Nat.le_total len rows.length with h | h
        · rw [Nat.min_eq_left h]
        · rw [Nat.min_eq_right h, List.take_length, List.take_of_length_le h]
      rw [e1] at g3
      simp only [writeAt, if_pos hlow] at h4
      split at h4
      · rename_i cs hcs
        split at h4
        · cases h4
        · rename_i hnm
          obtain ⟨cs', h6, rfl⟩ := Option.map_eq_some_iff.1 h4
          obtain ⟨old, ty, new, k1, k2, k3, k4, k5, k6⟩ := FR.store (pb := pb) (r := .obj id) (b := m.ob id) h ⟨hcs, rfl, by simpa using hnm⟩ h6 g3 (fun j l z1 xs sp hj => by
            rw [List.getElem?_map] at hj
            obtain ⟨c1, _, hc1⟩ := Option.map_eq_some_iff.1 hj
            exact (bare1_own hc1).elim) (fun i e => by injection e with e; subst e; exact hlow)
          refine ⟨.int .i64 (min len rows.length : Nat), _, k6, ?_, k5, Rep.int _ _, fun _ _ => trivial, fun p hp => by cases hp⟩
          have hst := run_storeCells_at T.P (m.ob id) off ty news 0 old m.w k1 (by simpa using k3) k4
          rw [Nat.add_zero, ← k2] at hst
          rw [hrun, ha]
          have e2 : Nat.min rows.length len = min len rows.length := Nat.min_comm _ _
          simp only [builtin, Builtin.copy_, ht]
          simp only [List.map_toArray, List.map_cons, List.map_nil, List.getElem?_toArray, List.getElem?_cons_zero, List.getElem?_cons_succ, hxv, Sem.run_bind, runU hu, Result.andThen_ok, g1, runS hsz, e2, g2, hst, Sem.run_pure, goInt, Mem.setRow]
      · cases h4
    · cases hv1
  | _ => simp at hv1
theorem bytesE_eq : ∀ (rows : List (List LV)) (l : List UInt8), bytesE rows = some l → ∃ ns : List Int, rows.flatten = ns.map (LV.int .u8) ∧ l = ns.map fun n => UInt8.ofNat n.toNat
  | [], l, h => by simp only [bytesE, Option.some.injEq] at h; subst h; exact ⟨[], rfl, rfl⟩
  | x :: r, l, h => by
    unfold bytesE at h
    split at h
    · cases ‹_ = []›
    · rename_i n r' e
      injection e with e1 e2
      subst e1; subst e2
      obtain ⟨l', h1, rfl⟩ := Option.map_eq_some_iff.1 h
      obtain ⟨ns, h2, h3⟩ := bytesE_eq r l' h1
      exact ⟨n :: ns, by simp [h2], by simp [h3]⟩
    · cases h
theorem op_strOf (h : FR T st a.tmps m) (hG : Globs T E.gl m) {src dt e : TypeId} {x : Operand} {y : Opd} (ho : o.op = .convert src dt x) (hc : chkOpd T x y = true)
    (hs : T.P.underlying src = some (.slice e)) (hd : T.P.underlying dt = some .string) (he : T.P.underlying e = some (.int .u8))
    (hv : valOp E ev pb st dst (.strOf y) = some (lv, st1, note)) : OpOk T pb st1 a dst m lv note (execOp a.eval o) := by
  simp only [valOp] at hv
  obtain ⟨v, h1, hv⟩ := Option.bind_eq_some_iff.1 hv
  obtain ⟨r, h2, hv⟩ := Option.bind_eq_some_iff.1 hv
  split at hv
  · rename_i hz
    obtain ⟨l, h3, h4⟩ := Option.map_eq_some_iff.1 hv
    simp only [Prod.mk.injEq] at h4
    obtain ⟨rfl, rfl, rfl⟩ := h4
    obtain ⟨z, rows⟩ := r
    simp only at hz h3
    have hxr := operand_sound h hG hc h1
    obtain ⟨news, g1, g2, g3⟩ := rows_cells (sz := 1) (k := rows.length) h hxr h2 (.inl hz) (by decide) (Nat.le_refl _)
    obtain ⟨ns, k1, k2⟩ := bytesE_eq rows l h3
    rw [List.take_length, k1] at g3
    have hn : news = ns.map (Value.int .u8) := by
      apply List.ext_getElem?
      intro i
      have hl : news.length = ns.length := by have := g3.1; simp at this; exact this.symm
      cases hi : ns[i]? with
      | none =>
        have : ns.length ≤ i := List.getElem?_eq_none_iff.1 hi
        rw [List.getElem?_eq_none (by omega), List.getElem?_eq_none (by simpa using this)]
      | some n =>
        have hlt := (List.getElem?_eq_some_iff.1 hi).1
        have := (g3.2 i (.int .u8 n) (by simp [hi]; rfl)).2
        rw [List.getElem?_map, hi, List.getElem?_eq_getElem (by omega)]
        rw [List.getD_eq_getElem?_getD, List.getElem?_eq_getElem (by omega)] at this
        simp only [Option.getD_some] at this
        generalize news[i] = nv at this ⊢
        cases this; rfl
    subst hn
    generalize hfe : a.eval x = xv at hxr g1 g2
    have key : (convert src dt xv).run T.P m.w = .ok (.string ⟨l.toArray⟩) m.w := by
      rw [k2]
      cases xv with
      | slice ad len cap =>
        rw [run_convert_bytes_string m.w src dt e ad len cap hs he hd]
        cases ad with
        | none =>
          simp only [Builtin.firstCells, Sem.run_pure, Result.ok.injEq, and_true] at g2
          have : ns = [] := by
            have := congrArg Array.toList g2; simpa using this.symm
          subst this
          simp [Conv.bytesToString]; rfl
        | some ad =>
          simp only [Builtin.firstCells, Nat.mul_one] at g2
          have hln : rows.length = len := by
            simp only [Builtin.lenOf, Sem.run_pure, Result.ok.injEq, and_true] at g1
            exact g1.symm
          rw [hln] at g2
          rw [run_bytesToString m.w ad len cap ns g2, foldl_push_bytes]
          simp [ByteArray.empty, ByteArray.emptyWithCapacity]
          try rfl
      | _ => cases v <;> first | (simp [rowsOf] at h2; done) | (cases hxr; done) | (simp only [VRep] at hxr; cases hxr)
    refine OpOk.pure h ?_ (Rep.str _) rfl
    simp only [execOp, ho, hfe, Sem.run_bind, key, Result.andThen_ok]
    rfl
  · cases hv
end
end Tree

set_option autoImplicit false
set_option linter.unusedVariables false
set_option linter.unusedSimpArgs false
namespace Tree
open Go
section
variable {T : Tab} {E : Env} {ev : Ev} {pb : Nat} {st st1 : St} {a : Act} {dst : Option Nat} {m : Mem} {lv : LV} {note : Option Place} {o : Oper}
theorem ents_mod {es : List LV} {l : Array MapEntry} {i : Nat} {e' : LV} {en : MapEntry} {f : MapEntry → MapEntry} (h : EntsOk T m es l.toList) (hi : l.toList[i]? = some en) (he : EntOk T m e' (f en)) :
    EntsOk T m (es.set i e') (l.modify i f).toList := by
  refine ⟨by simpa using h.1, fun j e hj => ?_⟩
  rw [List.getElem?_set] at hj
  rw [Array.getElem?_toList, Array.getElem?_modify]
  rw [Array.getElem?_toList] at hi
  by_cases q : i = j
  · subst q
    rw [if_pos rfl] at hj ⊢
    split at hj
    · injection hj with hj; subst hj
      exact ⟨f en, by rw [hi]; rfl, he⟩
    · cases hj
  · rw [if_neg q] at hj ⊢
    obtain ⟨en', h1, h2⟩ := h.2 j _ hj
    exact ⟨en', by simpa using h1, h2⟩
theorem op_mapEnt (hE : EqOk T) (h : FR T st a.tmps m) (hG : Globs T E.gl m) {t kt0 e : TypeId} {kt : Nat} {zero : LV} {x i : Operand} {y j : Opd} (ho : o.op = .mapEntry t x i) (hx : chkOpd T x y = true) (hi : chkOpd T i j = true)
    (hu : T.P.underlying t = some (.map kt0 e)) (hk : chkKey T kt kt0 = true) (hz : chkInit T.P e zero = true)
    (hv : valOp E ev pb st dst (.mapEnt kt zero y j) = some (lv, st1, note)) : OpOk T pb st1 a dst m lv note (execOp a.eval o) := by
  simp only [valOp] at hv
  obtain ⟨mp, h1, hv⟩ := Option.bind_eq_some_iff.1 hv
  obtain ⟨k, h2, hv⟩ := Option.bind_eq_some_iff.1 hv
  split at hv
  · rename_i hko
    simp only [Bool.and_eq_true] at hko
    obtain ⟨hko, hzc⟩ := hko
    have hrk := key_rep h hG hi h2 hko
    obtain ⟨c1, c2, c3⟩ := hE.2 kt kt0 hk m k _ hko hrk
    obtain ⟨zi, zv, g1, g2, g3⟩ : ∃ zi zv, T.P.info? e = some zi ∧ zi.zero = some zv ∧ chkOpd T (.const zv) (.const zero) = true := by
      unfold chkInit at hz
      split at hz
      · rename_i zi hzi
        split at hz
        · rename_i zv hzv; exact ⟨zi, zv, hzi, hzv, hz⟩
        · cases hz
      · cases hz
    have hzr : VRep T st a.tmps m zero zv := operand_sound (x := .const zv) (y := .const zero) h hG g3 rfl
    have hzr : Rep T m zero zv := by
      cases zero <;> try exact hzr
      simp [chkOpd, constOk] at g3
    cases mp with
    | mref id =>
      simp only at hv
      obtain ⟨rv, hr1, hv⟩ := Option.bind_eq_some_iff.1 hv
      obtain ⟨cs0, hr2, hr3⟩ := Option.bind_eq_some_iff.1 hr1
      obtain ⟨s2, h4, h5⟩ := Option.map_eq_some_iff.1 hv
      simp only [Prod.mk.injEq] at h5
      obtain ⟨rfl, rfl, rfl⟩ := h5
      unfold mapNew at h4
      split at h4
      · rename_i hlow
        obtain ⟨cs, h6, h7⟩ := Option.bind_eq_some_iff.1 h4
        rw [h6] at hr2; injection hr2 with hr2; subst hr2
        obtain ⟨cs', h8, rfl⟩ := Option.map_eq_some_iff.1 h7
        have hxv : a.eval x = .map (some (m.ob id)) := by
          have hrx' : Rep T m (.mref id) (a.eval x) := operand_sound h hG hx h1
          generalize a.eval x = xv at hrx'; cases hrx'; rfl
        have hmc : isMap1 cs = true := by
          unfold mapEntC at h8
          split at h8
          · rfl
          · cases h8
        obtain ⟨ents, c, es, w1, rfl, w2⟩ := map_at h h6 hmc
        simp only [mapEntC] at h8
        simp only [mapEntV] at hr3
        obtain ⟨fr, w3, w4⟩ := Option.map_eq_some_iff.1 h8
        rw [w3] at hr3
        simp only [Option.map_some, Option.some.injEq] at hr3
        obtain ⟨r', q1, q2⟩ := c3 es ents.toList fr w2 w3
        have hexec : execOp a.eval o = (do pure (.value (← Instr.mapEntry t (a.eval x) (a.eval i)))) := by simp only [execOp, ho]
        rcases q2 with ⟨rfl, rfl⟩ | ⟨i0, k', vv, b, en, rfl, rfl, z1, z2, z3, z4, z5, z6⟩
        · simp only at w4 hr3
          subst w4; subst hr3
          have hle := le_setMap (m := m) (y := .map (ents.push { key := a.eval i, val := zv, born := c }) (c + 1)) w1 rfl rfl
          obtain ⟨f1, f2⟩ := FR.setMap (c' := c + 1) h h6 w1 (ents_push w2 hrk hzr hzc) hlow
          refine ⟨.tuple #[zv, .int .i64 c], _, f2, ?_, f1, ?_, fun _ _ => trivial, fun p hp => by cases hp⟩
          · rw [hexec]
            simp only [Instr.mapEntry, hxv, Sem.run_bind, runU hu, MapKept.run_getObj_map w1, Result.andThen_ok, c1, q1, runZ g1 g2, MapKept.run_setObj_map _ w1, Sem.run_pure]
            rfl
          · refine VRep.of_rep (Rep.tup _ _ rfl fun q w hq => ?_)
            rcases q with _ | _ | q
            · simp at hq; subst hq; exact (hzr.bare).mono hle
            · simp at hq; subst hq; exact .int _ _
            · simp at hq
        · simp only at w4 hr3
          subst w4; subst hr3
          have hle := le_setMap (m := m) (y := .map (ents.modify i0 fun e => { e with key := a.eval i }) c) w1 rfl rfl
          obtain ⟨f1, f2⟩ := FR.setMap (c' := c) h h6 w1 (ents_mod (e' := .tup [k, vv, .int .i64 b]) (f := fun e => { e with key := a.eval i }) w2 z1 ⟨k, vv, by rw [z3], hrk, z5, z6⟩) hlow
          refine ⟨.tuple #[en.val, .int .i64 en.born], _, f2, ?_, f1, ?_, fun _ _ => trivial, fun p hp => by cases hp⟩
          · rw [hexec]
            have z1' : ents[i0]? = some en := by simpa using z1
            simp only [Instr.mapEntry, hxv, Sem.run_bind, runU hu, MapKept.run_getObj_map w1, Result.andThen_ok, c1, q1, z1', Option.map_some, Option.getD_some, z4, c2, MapKept.run_setObj_map _ w1, Sem.run_pure]
            rfl
          · refine VRep.of_rep (Rep.tup _ _ rfl fun q w hq => ?_)
            rcases q with _ | _ | q
            · simp at hq; subst hq; exact (z5.bare).mono hle
            · simp at hq; subst hq; rw [z3]; exact .int _ _
            · simp at hq
      · cases h4
    | _ => simp at hv
  · cases hv
theorem findB_spec {b : Int} : ∀ (es : List LV) (l : List MapEntry) (j0 p : Nat) (k : LV), EntsOk T m es l → findB b es j0 = some (p, k) →
    ∃ (i : Nat) (vv : LV) (en : MapEntry), p = j0 + i ∧ l.findIdx? (fun e => (e.born : Int) == b) = some i ∧ l[i]? = some en ∧ es[i]? = some (.tup [k, vv, .int .i64 b]) ∧ b = en.born ∧ Rep T m k en.key
  | [], l, j0, p, k, hE, h => by simp [findB] at h
  | e :: r, [], j0, p, k, hE, h => by have := hE.1; simp at this
  | e :: r, en :: l, j0, p, k, hE, h => by
    obtain ⟨en', h1, kk, vv, rfl, h3, h4, h5⟩ := hE.2 0 e rfl
    simp only [List.getElem?_cons_zero, Option.some.injEq] at h1
    subst h1
    simp only [findB] at h
    have hE' : EntsOk T m r l := ⟨by have := hE.1; simpa using this, fun j e' hj => by simpa using hE.2 (j + 1) e' (by simpa using hj)⟩
    split at h
    · rename_i hb
      simp only [Option.some.injEq, Prod.mk.injEq] at h
      obtain ⟨rfl, rfl⟩ := h
      exact ⟨0, vv, en, rfl, by simp [List.findIdx?_cons, hb], rfl, by rw [← hb]; rfl, hb.symm, h3⟩
    · rename_i hb
      obtain ⟨i, v2, en2, g1, g2, g3, g4, g5, g6⟩ := findB_spec r l (j0 + 1) p k hE' h
      have hbb : (((en.born : Nat) : Int) == b) = false := by simpa using hb
      refine ⟨i + 1, v2, en2, by omega, ?_, by simpa using g3, by simpa using g4, g5, g6⟩
      rw [List.findIdx?_cons, hbb, g2]; rfl
theorem op_entPut (h : FR T st a.tmps m) (hG : Globs T E.gl m) {t : TypeId} {x s v : Operand} {y j u : Opd} (ho : o.op = .entryStore t x s v) (hx : chkOpd T x y = true) (hs : chkOpd T s j = true) (hw : chkOpd T v u = true)
    (hv : valOp E ev pb st none (.entPut y j u) = some (lv, st1, note)) : lv = .undef ∧ note = none ∧ OpOkS T pb st1 a m (execOp a.eval o) := by
  simp only [valOp] at hv
  obtain ⟨mp, h1, hv⟩ := Option.bind_eq_some_iff.1 hv
  obtain ⟨b0, h2, hv⟩ := Option.bind_eq_some_iff.1 hv
  obtain ⟨w, h3, hv⟩ := Option.bind_eq_some_iff.1 hv
  split at hv
  · rename_i hwc
    have hform : ∃ id b, mp = .mref id ∧ b0 = .int .i64 b := by
      cases mp <;> try (simp at hv; done)
      cases b0 <;> try (simp at hv; done)
      rename_i kk b id0
      cases kk <;> first | exact ⟨_, _, rfl, rfl⟩ | (exfalso; simp at hv; done)
    obtain ⟨id, b, rfl, rfl⟩ := hform
    · simp only at hv
      obtain ⟨s2, h4, h5⟩ := Option.map_eq_some_iff.1 hv
      simp only [Prod.mk.injEq] at h5
      obtain ⟨rfl, rfl, rfl⟩ := h5
      refine ⟨rfl, rfl, ?_⟩
      unfold mapNew at h4
      split at h4
      · rename_i hlow
        obtain ⟨cs, h6, h7⟩ := Option.bind_eq_some_iff.1 h4
        obtain ⟨cs', h8, rfl⟩ := Option.map_eq_some_iff.1 h7
        have hrw := cells_rep h hG hw h3 hwc
        have hxv : a.eval x = .map (some (m.ob id)) := by
          have hrx' : Rep T m (.mref id) (a.eval x) := operand_sound h hG hx h1
          generalize a.eval x = xv at hrx'; cases hrx'; rfl
        have hsv : a.eval s = .int .i64 b := by
          have hrs : Rep T m (.int .i64 b) (a.eval s) := operand_sound h hG hs h2
          generalize a.eval s = sv at hrs; cases hrs; rfl
        have hmc : isMap1 cs = true := by
          unfold entPutC at h8
          split at h8
          · rfl
          · cases h8
        obtain ⟨ents, c, es, w1, rfl, w2⟩ := map_at h h6 hmc
        simp only [entPutC] at h8
        obtain ⟨⟨p, k⟩, w3, w4⟩ := Option.map_eq_some_iff.1 h8
        obtain ⟨i, vv, en, rfl, q1, q2, q3, q4, q5⟩ := findB_spec es ents.toList 0 p k w2 w3
        rw [Nat.zero_add] at w4
        simp only at w4
        subst w4
        have q1' : ents.findIdx? (fun e => (e.born : Int) == b) = some i := by
          rw [← q1]; cases ents; simp
        obtain ⟨f1, f2⟩ := FR.setMap (c' := c) h h6 w1 (ents_mod (e' := .tup [k, w, .int .i64 b]) (f := fun e => { e with val := a.eval v }) w2 q2 ⟨k, w, by rw [q4], q5, hrw, hwc⟩) hlow
        refine ⟨_, f2, ?_, f1⟩
        have hai : (asInt (Value.int .i64 b)).run T.P m.w = .ok b m.w := by simp [asInt, asIntOf, Sem.run]
        simp only [execOp, ho, Instr.entryStore, hxv, hsv, hai, Sem.run_bind, MapKept.run_getObj_map w1, Result.andThen_ok, q1', MapKept.run_setObj_map _ w1, Sem.run_pure]
        rfl
      · cases h4
  · cases hv
end
end Tree

set_option autoImplicit false
set_option linter.unusedVariables false
set_option linter.unusedSimpArgs false
namespace Tree
open Go
section
variable {T : Tab} {E : Env} {ev : Ev} {pb : Nat} {st st1 : St} {a : Act} {dst : Option Nat} {m : Mem} {lv : LV} {note : Option Place} {o : Oper}

theorem op_convS (h : FR T st a.tmps m) (hG : Globs T E.gl m) {t t' : TypeId} {x : Operand} {y : Opd} (ho : o.op = .convert t t' x) (hc : chkOpd T x y = true)
    (hu : T.P.underlying t = some .string) (hu' : T.P.underlying t' = some .string)
    (hv : valOp E ev pb st dst (.convS y) = some (lv, st1, note)) : OpOk T pb st1 a dst m lv note (execOp a.eval o) := by
  simp only [valOp] at hv
  split at hv
  · rename_i s h1
    simp only [Option.some.injEq, Prod.mk.injEq] at hv
    obtain ⟨rfl, rfl, rfl⟩ := hv
    have hr : Rep T m (.str s) (a.eval x) := operand_sound h hG hc h1
    have hx : a.eval x = .string s := by generalize a.eval x = u at hr; cases hr; rfl
    obtain ⟨nt, hnt⟩ : ∃ nt, valOp E ev pb st dst (.move y) = some (.str s, st, nt) := ⟨_, by simp only [valOp, h1, Option.map_some]; rfl⟩
    have := op_convStr h hG ho hc hu hu' ⟨s, hx⟩ hnt
    obtain ⟨v, m', p1, p2, p3, p4, p5, p6⟩ := this
    exact ⟨v, m', p1, p2, p3, p4, p5, fun p hp => by cases hp⟩
  · cases hv
theorem op_sliceArr (h : FR T st a.tmps m) (hG : Globs T E.gl m) {t e : TypeId} {n sz : Nat} {x : Operand} {y : Opd} (ho : o.op = .slice t x none none none) (hc : chkOpd T x y = true) (hu : T.P.underlying t = some (.array n e)) (hs : sizeB T.P e = some sz) (hsz : sz ≠ 0) (hn : n ≠ 0) (hnM : n ≤ maxLen)
    (hv : valOp E ev pb st dst (.sliceArr y n sz) = some (lv, st1, note)) : OpOk T pb st1 a dst m lv note (execOp a.eval o) := by
  simp only [valOp] at hv
  split at hv
  · rename_i l cs h1
    split at hv
    · rename_i hlen
      simp only [Option.some.injEq, Prod.mk.injEq] at hv
      obtain ⟨rfl, rfl, rfl⟩ := hv
      have hr : Rep T m (.iptr l cs 0) (a.eval x) := operand_sound h hG hc h1
      generalize hxv : a.eval x = xv at hr
      cases hr with
      | iptr _ _ _ b base val hm hr' =>
        have hrow : ∀ i r, ((List.range n).map fun i => (cs.drop (i * sz)).take sz)[i]? = some r → i < n ∧ r = (cs.drop (i * sz)).take sz := by
          intro i r hi
          rw [List.getElem?_map] at hi
          obtain ⟨k, h5, h6⟩ := Option.map_eq_some_iff.1 hi
          obtain ⟨h7, h8⟩ := List.getElem?_eq_some_iff.1 h5
          simp at h7 h8
          exact ⟨h7, by rw [← h6, ← h8]⟩
        have hcell : ∀ (i j : Nat) (lv : LV), i < n → ((cs.drop (i * sz)).take sz)[j]? = some lv → cs[i * sz + j]? = some lv := by
          intro i j lv hi hj
          have hjs : j < sz := by
            have := (List.getElem?_eq_some_iff.1 hj).1
            simp at this; omega
          rw [List.getElem?_take, if_pos hjs, List.getElem?_drop] at hj
          exact hj
        refine OpOk.pure h (v := .slice (some ⟨b, base + 0, none⟩) n n) ?_ ?_ rfl
        · simp only [execOp, ho, hxv, Instr.sliceAt, Sem.run_bind, runU hu, Result.andThen_ok, Instr.sureAddr, Sem.run_pure, Instr.sliceBounds, Option.map_none, runS hs]
          simp [hn, Addr.add]
        · have := Rep.sl (T := T) (m := m) false l sz ((List.range n).map fun i => (cs.drop (i * sz)).take sz) [] b (base + 0) n (fun i j => val (i * sz + j)) (by simp)
            (fun r hr => by
              rw [List.append_nil] at hr
              obtain ⟨i, hi, rfl⟩ := List.getElem_of_mem hr
              obtain ⟨h5, h6⟩ := hrow i _ (List.getElem?_eq_getElem hi)
              rw [h6]
              have : i * sz + sz ≤ n * sz := by rw [← Nat.succ_mul]; exact Nat.mul_le_mul_right _ h5
              simp; omega)
            (fun i r j lv hi hj => by
              rw [List.append_nil] at hi
              obtain ⟨h5, rfl⟩ := hrow i r hi
              have h6 := hcell i j lv h5 hj
              have := hm _ lv h6
              rw [Nat.add_zero, Nat.add_assoc]; exact this)
            (fun i r j lv hi hj => by
              rw [List.append_nil] at hi
              obtain ⟨h5, rfl⟩ := hrow i r hi
              exact hr' _ lv (hcell i j lv h5 hj)) hnM
          refine VRep.of_rep ?_
          simpa using this
    · cases hv
  · cases hv
theorem run_alloc {e : TypeId} {z : LV} (ho : o.op = .alloc e) (hz : chkInit T.P e z = true) : ∃ v, chkOpd T (.const v) (.const z) = true ∧ ∀ w : World, (execOp a.eval o).run T.P w = .ok (.value (.pointer (some ⟨w.heap.size, 0, none⟩))) (w.alloc (.cells v.cells e)) := by
  unfold chkInit at hz
  split at hz
  · rename_i i hi
    split at hz
    · rename_i v hv
      exact ⟨v, hz, fun w => by simp [execOp, ho, Instr.alloc, runZ hi hv, newVar, newRow]⟩
    · cases hz
  · cases hz
theorem run_box {e : TypeId} {x : Operand} (ho : o.op = .box e x) : ∀ w : World, (execOp a.eval o).run T.P w = .ok (.value (.pointer (some ⟨w.heap.size, 0, none⟩))) (w.alloc (.cells (a.eval x).cells e)) := by
  intro w; simp [execOp, ho, Instr.box, newVar, newRow]

/-- Operations that give a value and are no call of a function, no box, no store. -/
def TOp.isPlain : TOp → Bool
  | .box .. | .store .. | .storeR .. | .call .. | .mapSet .. | .entPut .. => false
  | _ => true
theorem chkOp_sound (hE : EqOk T) (h : FR T st a.tmps m) (hG : Globs T E.gl m) {t : TOp} (hc : chkOp T o t = true) (hp : t.isPlain = true) (hv : valOp E ev pb st dst t = some (lv, st1, note)) :
    OpOk T pb st1 a dst m lv note (execOp a.eval o) := by
  unfold chkOp at hc
  rw [Bool.or_eq_true] at hc
  rcases hc with hc | hc
  · cases t <;> simp [TOp.isFail] at hc
    simp [valOp] at hv
  unfold chkOp0 at hc
  dsimp only at hc
  split at hc <;> (rename_i hop ; try simp only [Bool.and_eq_true, beq_iff_eq] at hc) <;> try (simp [TOp.isPlain] at hp; done)
  · exact op_move h hG hop hc hv
  · exact op_assign h hG hop hc hv
  · exact op_moveA h hG hop hc hv
  · exact op_pick h hG hop (by simp only [Bool.and_eq_true]; exact hc) hv
  · obtain ⟨v, h1, h2⟩ := run_alloc (a := a) hop hc
    exact op_new h hG h2 ⟨.const v, h1, rfl⟩ hv
  · exact op_new h hG (run_box (a := a) hop) ⟨_, hc.1, rfl⟩ hv
  · exact op_load h hG hop hc.1.1.1 hc.1.1.2 hc.1.2 hv
  · exact op_loadB h hG hop hc.1.1.1 hc.1.1.2 hc.1.2 hv
  · exact op_loadR h hG hop hc.1.1.1 hc.1.1.2 hc.1.2 hv
  · exact op_nilCheck h hG hop hc hv
  · obtain ⟨⟨⟨rfl, h2⟩, h3⟩, h4⟩ := hc
    exact op_bin h hG hop h2 h3 h4 hv
  · obtain ⟨⟨⟨h2, h3⟩, h4⟩, h5⟩ := hc
    refine op_eqAgg hE h hG hop ?_ (by simpa using h2) h3 h4 hv
    split at h5
    · rename_i hn; rw [if_pos hn]; exact by simpa using h5
    · rename_i hn; rw [if_neg hn]; exact by simpa using h5
  · obtain ⟨rfl, h2⟩ := hc
    exact op_un h hG hop h2 hv
  · obtain ⟨h1, h2⟩ := hc
    split at h2
    · rename_i k1 k2 e1 e2
      have h3 := beq_iff_eq.1 h2
      subst h3
      exact op_conv h hG hop h1 ⟨_, e1⟩ e2 hv
    · cases h2
  · obtain ⟨h1, h2⟩ := hc
    split at h2
    · rename_i e1 e2
      exact op_convS h hG hop h1 e1 e2 hv
    · cases h2
  · obtain ⟨h1, h2⟩ := hc
    split at h2
    · rename_i e e1 e2
      split at h2
      · rename_i e3
        exact op_strOf h hG hop h1 e1 e2 e3 hv
      · cases h2
    · cases h2
  · obtain ⟨h1, h2⟩ := hc
    split at h2
    · rename_i fs e1
      split at h2
      · rename_i fd e2
        simp only [Bool.and_eq_true, beq_iff_eq] at h2
        obtain ⟨h3, h4⟩ := h2
        split at h4
        · rename_i n e3
          exact op_faddr h hG hop h1 e1 e2 h3 e3 (by simpa using h4) hv
        · cases h4
      · cases h2
    · cases h2
  · obtain ⟨h1, h2⟩ := hc
    split at h2
    · rename_i fs e1
      split at h2
      · rename_i fd e2
        simp only [Bool.and_eq_true, beq_iff_eq] at h2
        exact op_field h hG hop h1 e1 e2 h2.1.1 h2.1.2 h2.2 hv
      · cases h2
    · cases h2
  · obtain ⟨⟨h1, h2⟩, h3⟩ := hc
    split at h3
    · rename_i e e1
      exact op_idxAddr h hG hop h1 h2 e1 (by simpa using h3) hv
    · cases h3
  · obtain ⟨⟨h1, h2⟩, h3⟩ := hc
    split at h3
    · rename_i n e e1
      simp only [Bool.and_eq_true, beq_iff_eq] at h3
      obtain ⟨rfl, h4⟩ := h3
      exact op_idxArr h hG hop h1 h2 e1 h4 hv
    · cases h3
  · obtain ⟨⟨h1, h2⟩, h3⟩ := hc
    split at h3
    · rename_i e1
      exact op_idxStr h hG hop h1 h2 e1 hv
    · cases h3
  · obtain ⟨⟨h1, h2⟩, h3⟩ := hc
    split at h3
    · rename_i n e e1
      simp only [Bool.and_eq_true, beq_iff_eq] at h3
      obtain ⟨⟨rfl, h4⟩, h5⟩ := h3
      exact op_idxAgg h hG hop h1 h2 e1 h4 h5 hv
    · cases h3
  · obtain ⟨h1, h2⟩ := hc
    refine op_build h hG hop h1 ?_ hv
    split at h2
    · rename_i fs e1
      simp only [Bool.and_eq_true] at h2
      exact .inl ⟨fs, e1, h2.1, h2.2⟩
    · rename_i n e e1
      split at h2
      · rename_i es e2
        exact .inr ⟨n, e, es, e1, e2, h2⟩
      · cases h2
    · cases h2
  · obtain ⟨h1, h2⟩ := hc
    split at h2
    · rename_i fs i x e1 e2
      simp only [Bool.and_eq_true] at h2
      obtain ⟨⟨h3, h4⟩, h5⟩ := h2
      split at h5
      · rename_i f e3
        simp only [Bool.and_eq_true, beq_iff_eq] at h5
        exact op_buildM h hG hop e2 h1 e1 h3 e3 h5.1 h5.2 h4 hv
      · cases h5
    · cases h2
  · obtain ⟨⟨rfl, h2⟩, h3⟩ := hc
    split at h3
    · rename_i e e1
      simp only [Bool.and_eq_true, beq_iff_eq] at h3
      obtain ⟨⟨⟨h4, h5⟩, h6⟩, h7⟩ := h3
      exact op_buildSlice h hG hop (by simpa using h2) e1 h4 (by simpa using h5) h6 h7 hv
    · cases h3
  · obtain ⟨⟨⟨⟨h1, h2⟩, h3⟩, h4⟩, h5⟩ := hc
    rename_i mx _ _ _ _
    split at h5
    · rename_i e e1
      simp only [Option.isNone_iff_eq_none] at h4
      subst h4
      exact op_slice h hG hop h1 h2 h3 e1 (by simpa using h5) hv
    · cases h5
  · obtain ⟨⟨⟨⟨h1, h2⟩, h3⟩, h4⟩, h5⟩ := hc
    rename_i hi mx _ _ _ _ _
    split at h5
    · rename_i e e1
      cases hi with
      | none => simp [chkOpdO] at h3
      | some hi => cases mx with
        | none => simp [chkOpdO] at h4
        | some mx => exact op_slice3 h hG hop h1 h2 h3 h4 e1 (by simpa using h5) hv
    · cases h5
  · obtain ⟨⟨⟨⟨h1, h2⟩, h3⟩, h4⟩, h5⟩ := hc
    split at h5
    · rename_i e1
      simp only [Option.isNone_iff_eq_none] at h4
      subst h4
      exact op_sliceStr h hG hop h1 h2 h3 e1 hv
    · cases h5
  · obtain ⟨⟨⟨⟨h1, h2⟩, h3⟩, h4⟩, h5⟩ := hc
    split at h5
    · rename_i e e1
      simp only [Bool.and_eq_true, beq_iff_eq, bne_iff_ne] at h5
      simp only [Option.isNone_iff_eq_none] at h2 h3 h4
      subst h2; subst h3; subst h4
      obtain ⟨⟨⟨⟨rfl, h6⟩, h7⟩, h8⟩, h9⟩ := h5
      have h9 := of_decide_eq_true h9
      exact op_sliceArr h hG hop h1 e1 h6 h7 h8 h9 hv
    · cases h5
  · obtain ⟨h1, h2⟩ := hc
    exact op_extract h hG hop h1 h2 hv
  · exact op_mkmap h hG hop hv
  · obtain ⟨⟨⟨rfl, h1⟩, h2⟩, h3⟩ := hc
    split at h3
    · rename_i k e e1
      simp only [Bool.and_eq_true] at h3
      exact op_lookup hE h hG hop h1 h2 e1 h3.1 h3.2 hv
    · cases h3
  · obtain ⟨⟨h1, h2⟩, h3⟩ := hc
    split at h3
    · rename_i k e e1
      simp only [Bool.and_eq_true] at h3
      exact op_mapEnt hE h hG hop h1 h2 e1 h3.1 h3.2 hv
    · cases h3
  · obtain ⟨⟨h1, h2⟩, h3⟩ := hc
    split at h3
    · rename_i el e1
      exact op_mkslice h hG hop h1 h2 e1 h3 hv
    · cases h3
  · obtain ⟨⟨h1, h2⟩, h3⟩ := hc
    exact op_makeFunc h hG hop h1 (by simpa using h2) h3 hv
  · split at hc
    · simp [TOp.isPlain] at hp
    · rename_i hcal
      split at hc
      · rename_i x e ha ht
        simp only [Bool.and_eq_true] at hc
        refine op_len h hG hop hcal ha ht hc.1 ?_ hv
        have h2 := hc.2
        split at h2
        · rename_i e1; exact .inl ⟨h2, e1⟩
        · rename_i el e1; exact .inr ⟨by simpa using h2, el, e1⟩
        · cases h2
      · cases hc
    · rename_i hcal
      split at hc
      · rename_i x e ha ht
        simp only [Bool.and_eq_true] at hc
        have h2 := hc.2
        split at h2
        · rename_i k el e1; exact op_lenMap h hG hop hcal ha ht hc.1 e1 hv
        · cases h2
      · cases hc
    · rename_i hcal
      split at hc
      · rename_i x i e ts ha ht
        simp only [Bool.and_eq_true] at hc
        obtain ⟨⟨h1, h2⟩, h3⟩ := hc
        split at h3
        · rename_i k el e1; exact op_mapDel hE h hG hop hcal ha ht h1 h2 e1 h3 hv
        · cases h3
      · cases hc
    · rename_i hcal
      split at hc
      · rename_i x' y' e ts ha ht
        simp only [Bool.and_eq_true, bne_iff_ne, ne_eq] at hc
        obtain ⟨⟨⟨h1, h2⟩, h3⟩, h4⟩ := hc
        split at h4
        · rename_i el e1; exact op_copy h hG hop hcal ha ht h1 h2 e1 h3 (by simpa using h4) hv
        · cases h4
      · cases hc
    · rename_i sz bytes s0 y0 hcal
      split at hc
      · rename_i s' y' e e' ha ht
        simp only [Bool.and_eq_true] at hc
        obtain ⟨⟨h1, h2⟩, h3⟩ := hc
        have key : ∀ el, T.P.underlying e = some (.slice el) → ((∃ e1, T.P.underlying e' = some (.slice e1)) ∨ T.P.underlying e' = some .string) →
            chkElem T.P el sz bytes = true → OpOk T pb st1 a dst m lv note (execOp a.eval o) := by
          intro el e1 e2 h4
          unfold chkElem at h4
          split at h4
          · rename_i i hi
            simp only [Bool.and_eq_true, beq_iff_eq, bne_iff_ne] at h4
            obtain ⟨⟨⟨⟨k1, k2⟩, k3⟩, k4⟩, k5⟩ := h4
            split at k5
            · rename_i z hz
              simp only [Bool.and_eq_true, beq_iff_eq] at k5
              exact op_append h hG hop hcal ha ht h1 h2 e1 e2 hi hz k1 k2 k3 k4 k5.1 hv
            · cases k5
          · cases h4
        split at h3
        · rename_i el e1 x1 x2; exact key el x1 (.inl ⟨_, x2⟩) h3
        · rename_i el x1 x2; exact key el x1 (.inr x2) h3
        · cases h3
      · cases hc
    · rename_i mx x y hcal
      split at hc
      · rename_i x' y' ha
        simp only [Bool.and_eq_true, Bool.not_eq_true'] at hc
        obtain ⟨rfl, h1, h2⟩ := hc
        exact op_minmax h hG hop (by simpa using hcal) ha h1 h2 hv
      · simp at hc
    · rename_i mx x y hcal
      split at hc
      · rename_i x' y' ha
        simp only [Bool.and_eq_true] at hc
        obtain ⟨rfl, h1, h2⟩ := hc
        exact op_minmax h hG hop (by simpa using hcal) ha h1 h2 hv
      · simp at hc
    · cases hc
  · cases hc
end
end Tree
