/- A call whose result is frozen: what it made stays as it is, and nothing of it is an object any more. -/
import Derived.Test.YtkeadnggllgphaaTE
import Derived.Test.YtkeadnggllgphaaTW
set_option autoImplicit false
set_option linter.unusedVariables false
set_option linter.unusedSimpArgs false
namespace Tree
open Go

def frzRows (cs : List LV) (off cap sz : Nat) : List (List LV) := (List.range cap).map fun i => ((cs.drop (off + i * sz)).take sz).map LV.bare1
def frz (ob : Obs) : LV → Option LV
  | .msl id off len cap sz => match ob[id]? with
    | some cs => if isMapC cs = false ∧ off + cap * sz ≤ cs.length ∧ len ≤ cap ∧ LV.noRefs 0 cs = true then some (.sl false 0 sz ((frzRows cs off cap sz).take len) ((frzRows cs off cap sz).drop len)) else none
    | none => none
  | v => if v.noRef 0 then some v.bare else none

def unobj : Kd → Kd
  | .obj _ => .other
  | .tail ⟨.obj _, _⟩ => .other
  | k => k
section
variable {T : Tab} {E : Env} {pb : Nat} {m m' : Mem}
def Mem.noObj (m : Mem) : Mem := { m.ren unobj with n := 0 }
open Classical in
noncomputable def Mem.back (m m' : Mem) (B : Option Nat) : Mem :=
  { w := m'.w, ob := m.ob, n := m.n,
    k := fun b o => if b < m.w.heap.size then (match m.k b o with
        | .obj i => .obj i
        | .tail ⟨.obj i, c⟩ => .tail ⟨.obj i, c⟩
        | _ => m'.k b o)
      else if B = some b then .imm 0 else unobj (m'.k b o) }
theorem back_old {B : Option Nat} (hP : Post 0 m.noObj m') {b o : Nat} (hb : b < m.w.heap.size) (hk : m.k b o = .other ∨ (∃ l, m.k b o = .imm l) ∨ (∃ i, m.k b o = .obj i) ∨ ∃ i c, m.k b o = .tail ⟨.obj i, c⟩) : (m.back m' B).k b o = m.k b o := by
  have hkind : ∀ x, unobj (m.k b o) = x → (x = .other ∨ ∃ l, x = .imm l) → m'.k b o = x := by
    intro x hx hx'
    have := hP.kind b o hb (by
      show unobj (m.k b o) = .other ∨ _
      rcases hx' with e | ⟨l, e⟩
      · exact .inl (hx.trans e)
      · exact .inr (.inl ⟨l, hx.trans e⟩))
    rw [this]; exact hx
  show (if b < m.w.heap.size then _ else _) = _
  rw [if_pos hb]
  rcases hk with e | ⟨l, e⟩ | ⟨i, e⟩ | ⟨i, c, e⟩
  · rw [e]; exact hkind _ (by rw [e]; rfl) (.inl rfl)
  · rw [e]; exact hkind _ (by rw [e]; rfl) (.inr ⟨l, rfl⟩)
  · rw [e]
  · rw [e]
theorem back_imm {B : Option Nat} (hP : Post 0 m.noObj m') (hB : ∀ b, B = some b → ∀ o l, m'.k b o ≠ .imm l) {b o l : Nat} (hk : m'.k b o = .imm l) : (m.back m' B).k b o = .imm l := by
  show (if b < m.w.heap.size then _ else _) = _
  by_cases hb : b < m.w.heap.size
  · rw [if_pos hb]
    have hother : unobj (m.k b o) = .other → False := by
      intro e
      have := hP.kind b o hb (.inl e)
      rw [hk] at this
      exact absurd (this.trans e) (by simp)
    split
    · rename_i e; exact (hother (by rw [e]; rfl)).elim
    · rename_i e; exact (hother (by rw [e]; rfl)).elim
    · exact hk
  · rw [if_neg hb, if_neg (fun e => hB b e o l hk), hk]; rfl
theorem back_heap (hP : Post 0 m.noObj m') {b : Nat} (hb : b < m.w.heap.size) (hk : ∀ o, unobj (m.k b o) = .other) : m'.w.heap[b]? = m.w.heap[b]? := by
  rcases hP.keep b hb with e | ⟨vs, vs', ty, e1, e2, e3, e4⟩ | ⟨es, es', e1, e2, e5, e3⟩
  · exact e
  · have : vs' = vs := by
      apply Array.ext_getElem?; intro o; exact e4 o (.inl (hk o))
    subst this; exact e2.trans e1.symm
  · exact absurd (.inl (hk 0)) e3
theorem back_post {B : Option Nat} (hP : Post 0 m.noObj m') : Post pb m (m.back m' B) := by
  refine ⟨hP.os, hP.tape, hP.output, hP.size, fun b hb => ?_, fun b o hb hk => ?_, Nat.le_refl _, fun _ _ => rfl, fun _ h1 h2 => absurd h1 (Nat.not_le.2 h2)⟩
  · rcases hP.keep b hb with e | ⟨vs, vs', ty, e1, e2, e3, e4⟩ | ⟨es, es', e1, e2, e5, e3⟩
    · exact .inl e
    · refine .inr (.inl ⟨vs, vs', ty, e1, e2, e3, fun o ho => e4 o ?_⟩)
      show unobj (m.k b o) = _ ∨ _
      rcases ho with ho | ⟨l, ho⟩ | ⟨id, _, ho | ⟨c, ho⟩⟩
      · exact .inl (by rw [ho]; rfl)
      · exact .inr (.inl ⟨l, by show unobj (m.k b o) = _; rw [ho]; rfl⟩)
      · exact .inl (by rw [ho]; rfl)
      · exact .inl (by rw [ho]; rfl)
    · refine .inr (.inr ⟨es, es', e1, e2, e5, fun ho => e3 ?_⟩)
      show unobj (m.k b 0) = _ ∨ _
      rcases ho with ho | ⟨l, ho⟩ | ⟨id, _, ho⟩
      · exact .inl (by rw [ho]; rfl)
      · exact .inr (.inl ⟨l, by show unobj (m.k b 0) = _; rw [ho]; rfl⟩)
      · exact .inl (by rw [ho]; rfl)
  · refine back_old hP hb ?_
    rcases hk with h | h | h | ⟨i, c, _, h⟩
    · exact .inl h
    · exact .inr (.inl h)
    · exact .inr (.inr (.inl h))
    · exact .inr (.inr (.inr ⟨i, c, h⟩))
theorem back_objs {B : Option Nat} {ob : Obs} (hP : Post 0 m.noObj m') (hO : ObjsOk T ob m) : ObjsOk T ob (m.back m' B) := by
  have hle := (back_post (pb := 0) (B := B) hP).le
  have hheap : ∀ (id : Nat) (cs : List LV), ob[id]? = some cs → (m.back m' B).w.heap[m.ob id]? = m.w.heap[m.ob id]? := by
    intro id cs hi
    have hob := hO.obj id cs hi
    exact back_heap hP hob.lt (fun o => by rw [hob.class o]; rfl)
  refine ⟨hO.n, fun id cs hi => ?_, fun id i l z xs sp cs hi hc => ?_⟩
  · have hob := hO.obj id cs hi
    have hk : ∀ o, (m.back m' B).k (m.ob id) o = .obj id := fun o => by rw [back_old hP hob.lt (.inr (.inr (.inl ⟨id, hob.class o⟩)))]; exact hob.class o
    rcases hob with ⟨g, vs, ty, h1, h2, h3, h4⟩ | hb
    · exact .inl ⟨g, vs, ty, (hheap id cs hi).trans h1, h2, hk, fun j lv hj => ⟨(h4 j lv hj).1, (h4 j lv hj).2.mono hle⟩⟩
    · exact .inr (hb.mono (hheap id cs hi) hk hle)
  · obtain ⟨v, h1, h2⟩ := hO.own id i l z xs sp cs hi hc
    refine ⟨v, ?_, fun b o hbo => ?_⟩
    · have : (m.back m' B).w.cell? ⟨m.ob id, i, none⟩ = m.w.cell? ⟨m.ob id, i, none⟩ := World.cell?_of_block (hheap id cs hi)
      exact this.trans h1
    · obtain ⟨k1, vs, ty, k2, k3⟩ := h2 b o hbo
      have hlt := heap_lt k2
      refine ⟨by rw [back_old hP hlt (.inr (.inr (.inr ⟨_, _, k1⟩)))]; exact k1, ?_⟩
      rcases hP.keep b hlt with e | ⟨us, us', ty', e1, e2, e3, e4⟩ | ⟨es, es', e1, e2, e5, e3⟩
      · exact ⟨vs, ty, e.trans k2, k3⟩
      · have e1' : m.w.heap[b]? = some (.cells us ty' (0, 0)) := e1
        rw [k2] at e1'; injection e1' with e1'; injection e1' with e5 e6; subst e5; subst e6
        exact ⟨us', ty, e2, by rw [e3]; exact k3⟩
      · have e1' : m.w.heap[b]? = some es := e1
        rw [k2] at e1'; injection e1' with e1'; subst e1'; cases e5.1
theorem back_rep {B : Option Nat} (hP : Post 0 m.noObj m') (hB : ∀ b, B = some b → ∀ o l, m'.k b o ≠ .imm l) {lv : LV} {v : Value} (h : Rep T m' lv v) (hn : lv.noRef 0 = true) : Rep T (m.back m' B) lv v := by
  let m2 : Mem := { m.back m' B with ob := m'.ob, n := 0 }
  have h2 : Rep T m2 lv v := rep_noRef (m := m') (m2 := m2) rfl rfl (fun b o l hk => back_imm hP hB hk) h hn
  have hle : m2.le (m.back m' B) := ⟨fun b o l v hc hk => ⟨hk, hc⟩, Nat.zero_le _, fun id hi => absurd hi (Nat.not_lt_zero _)⟩
  exact h2.mono hle

/-- A call that reads no object, with its result frozen, wherever it is called. -/
theorem callOk_freeze {g : Nat} {args : List LV} {r r' : LV} {ob1 : Obs} (h : CallOk T E g args [] 0 r ob1) (ha : LV.noRefs 0 args = true) (hgl : ∀ g, LV.noRefs 0 (E.gl g) = true) (hf : frz ob1 r = some r') (ob : Obs) (pb : Nat) : CallOk T E g args ob pb r' ob := by
  intro f m vals hfid hG hA hO
  have hk0 : ∀ b o l, m.k b o = .imm l → m.noObj.k b o = .imm l := fun b o l e => by show unobj (m.k b o) = _; rw [e]; rfl
  have hrep0 : ∀ {lv : LV} {v : Value}, Rep T m lv v → lv.noRef 0 = true → Rep T m.noObj lv v := fun h hn => rep_noRef (m := m) (m2 := m.noObj) rfl rfl hk0 h hn
  have hA0 : ArgsOk T m.noObj args vals := by
    refine ⟨hA.1, fun j lv hj => ?_⟩
    obtain ⟨h1, h2⟩ := hA.2 j lv hj
    refine ⟨hrep0 h1 (noRefs_get _ _ _ ha hj), ?_⟩
    have := h2.ren unobj
    exact this
  have hG0 : Globs T E.gl m.noObj := by
    refine ⟨fun g h hg => hrep0 (hG.1 g h hg) (by simp only [LV.noRef]; exact hgl h), fun g hg => ?_⟩
    obtain ⟨l, tp, p, h1, h2⟩ := hG.2 g hg
    exact ⟨l, tp, p, hk0 _ _ _ h1, h2⟩
  refine Calls.mono (h f m.noObj vals hfid hG0 hA0 ⟨rfl, fun id cs hi => by simp at hi, fun id i l z xs sp cs hi => by simp at hi⟩) (fun e w' he => ?_)
  cases e with
  | returned v =>
    obtain ⟨m', rfl, p1, p2, p3, p4⟩ := he
    cases hr : r with
    | msl id off len cap sz =>
      subst hr
      simp only [frz] at hf
      split at hf
      · rename_i cs hcs
        split at hf
        · rename_i hc
          obtain ⟨c1, c2, c3, c4⟩ := hc
          injection hf with hf; subst hf
          obtain ⟨vs, ty, b1, b2, b3, b4⟩ := (p2.obj id cs hcs).cells c1
          have hid : id < m'.n := by rw [p2.n]; exact (List.getElem?_eq_some_iff.1 hcs).1
          have hnew : m.w.heap.size ≤ m'.ob id := p1.fresh id (Nat.zero_le _) hid
          have hB : ∀ b, some (m'.ob id) = some b → ∀ o l, m'.k b o ≠ .imm l := by
            intro b e o l; injection e with e; subst e; rw [b3]; simp
          refine ⟨m.back m' (some (m'.ob id)), rfl, back_post p1, back_objs p1 hO, ?_, trivial⟩
          have hv : v = .slice (some ⟨m'.ob id, off, none⟩) len cap := by cases p3; rfl
          have hM : cap ≤ maxLen := by cases p3; assumption
          subst hv
          have hfl : (frzRows cs off cap sz).length = cap := by simp [frzRows]
          have htl : ((frzRows cs off cap sz).take len).length = len := by rw [List.length_take, hfl]; exact Nat.min_eq_left c3
          have hrow : ∀ (i : Nat) (x : List LV), (frzRows cs off cap sz)[i]? = some x → i < cap ∧ x = ((cs.drop (off + i * sz)).take sz).map LV.bare1 := by
            intro i x hx
            have hlt : i < cap := by have := (List.getElem?_eq_some_iff.1 hx).1; rwa [hfl] at this
            rw [frzRows, List.getElem?_map, List.getElem?_range hlt] at hx
            injection hx with hx
            exact ⟨hlt, hx.symm⟩
          have hin : ∀ i, i < cap → off + i * sz + sz ≤ cs.length := by
            intro i hi
            have : i * sz + sz ≤ cap * sz := by rw [← Nat.succ_mul]; exact Nat.mul_le_mul_right _ hi
            omega
          have hcell : ∀ (i j : Nat) (x : List LV) (lv : LV), (frzRows cs off cap sz)[i]? = some x → x[j]? = some lv → ∃ c, cs[off + i * sz + j]? = some c ∧ lv = c.bare1 := by
            intro i j x lv hx hj
            obtain ⟨hi, rfl⟩ := hrow i x hx
            rw [List.getElem?_map] at hj
            obtain ⟨c, hc, rfl⟩ := Option.map_eq_some_iff.1 hj
            have hjs : j < sz := by have := (List.getElem?_eq_some_iff.1 hc).1; simp at this; omega
            rw [List.getElem?_take, if_pos hjs, List.getElem?_drop] at hc
            exact ⟨c, hc, rfl⟩
          have e0 : (frzRows cs off cap sz).take len ++ (frzRows cs off cap sz).drop len = frzRows cs off cap sz := List.take_append_drop _ _
          have := Rep.sl (T := T) (m := m.back m' (some (m'.ob id))) false 0 sz ((frzRows cs off cap sz).take len) ((frzRows cs off cap sz).drop len) (m'.ob id) off cap (fun i j => vs.getD (off + i * sz + j) undef)
            (by rw [e0, hfl]; exact Nat.le_refl _)
            (by
              rw [e0]; intro x hx
              obtain ⟨i, hi, rfl⟩ := List.getElem_of_mem hx
              obtain ⟨h1, h2⟩ := hrow i _ (List.getElem?_eq_getElem hi)
              have := hin i h1
              rw [h2]; simp; omega)
            (by
              rw [e0]; intro i x j lv hx hj
              obtain ⟨c, h1, h2⟩ := hcell i j x lv hx hj
              have hlt : off + i * sz + j < vs.size := by rw [b2]; exact (List.getElem?_eq_some_iff.1 h1).1
              refine ⟨?_, ?_, (b4 _ _ h1).1⟩
              · show (if m'.ob id < m.w.heap.size then _ else _) = _
                rw [if_neg (by omega), if_pos rfl]
              · show m'.w.cell? _ = _
                simp [World.cell?, b1, Array.getD_eq_getD_getElem?, hlt])
            (by
              rw [e0]; intro i x j lv hx hj
              obtain ⟨c, h1, rfl⟩ := hcell i j x lv hx hj
              exact (back_rep p1 hB (b4 _ _ h1).2 (noRefs_get _ _ _ c4 h1)).bare1) hM
          rw [htl] at this
          exact this
        · cases hf
      · cases hf
    | _ =>
      subst hr
      simp only [frz] at hf
      split at hf
      · rename_i hn
        injection hf with hf; subst hf
        exact ⟨m.back m' none, rfl, back_post p1, back_objs p1 hO, (back_rep p1 (by intro b e; cases e) p3 hn).bare, Owns.of_ownless (bare_ownless _)⟩
      · cases hf
  | panicked ch => exact he.elim
  | outgrown => exact he.elim
end
end Tree

set_option autoImplicit false
set_option linter.unusedVariables false
set_option linter.unusedSimpArgs false
namespace Tree
open Go
/-- Objects from number n on are nobody's. -/
def lowobj (n : Nat) : Kd → Kd
  | .obj i => if i < n then .obj i else .other
  | .tail ⟨.obj i, c⟩ => if i < n then .tail ⟨.obj i, c⟩ else .other
  | k => k
section
variable {T : Tab} {E : Env} {pb : Nat} {m m' : Mem}
def Mem.low (m : Mem) : Mem := m.ren (lowobj m.n)
end
end Tree

set_option autoImplicit false
set_option linter.unusedVariables false
namespace Tree
open Go
open Classical in
noncomputable def frzF0 (E0 : Env) (g : Nat) (args : List LV) : Option LV :=
  if h : LV.noRefs 0 args = true ∧ LV.noLs args = true ∧ ∃ r', ∃ n r ob1, call E0 n g args [] 0 = some (r, ob1) ∧ frz ob1 r = some r' then some (Classical.choose h.2.2) else none
noncomputable def frzF (E0 : Env) (g : Nat) (args : List LV) (_ : Obs) : Option LV := frzF0 E0 g args
theorem frzF_some {E0 : Env} {g : Nat} {args : List LV} {r' : LV} {ob : Obs} (h : frzF E0 g args ob = some r') : LV.noRefs 0 args = true ∧ LV.noLs args = true ∧ ∃ n r ob1, call E0 n g args [] 0 = some (r, ob1) ∧ frz ob1 r = some r' := by
  unfold frzF frzF0 at h
  split at h
  · rename_i hh
    injection h with h
    have := Classical.choose_spec hh.2.2
    rw [h] at this
    exact ⟨hh.1, hh.2.1, this⟩
  · cases h
theorem frzF_of {E0 : Env} {g : Nat} {args : List LV} {r r' : LV} {ob1 : Obs} (h : Gives E0 g args [] 0 (r, ob1)) (hf : frz ob1 r = some r') (h1 : LV.noRefs 0 args = true) (h2 : LV.noLs args = true) (ob : Obs) : frzF E0 g args ob = some r' := by
  obtain ⟨n, hn⟩ := h
  have hh : LV.noRefs 0 args = true ∧ LV.noLs args = true ∧ ∃ r', ∃ n r ob1, call E0 n g args [] 0 = some (r, ob1) ∧ frz ob1 r = some r' := ⟨h1, h2, r', n, r, ob1, hn, hf⟩
  unfold frzF frzF0
  rw [dif_pos hh]
  obtain ⟨n2, r2, ob2, e1, e2⟩ := Classical.choose_spec hh.2.2
  have a1 := call_mono (Nat.le_max_left n n2) _ _ _ _ _ hn
  have a2 := call_mono (Nat.le_max_right n n2) _ _ _ _ _ e1
  rw [a1] at a2
  injection a2 with a2; injection a2 with a3 a4
  subst a3; subst a4
  rw [hf] at e2
  exact e2.symm
theorem frz_ext {T : Tab} {E0 E : Env} (hOk : EnvOk T E0) (hgl : E.gl = E0.gl) (hno : ∀ g, LV.noRefs 0 (E0.gl g) = true) {g : Nat} {args : List LV} {r : LV} {ob : Obs} (h : frzF E0 g args ob = some r) (pb : Nat) : CallOk T E g args ob pb r ob := by
  obtain ⟨h1, h2, n, r0, ob1, h3, h4⟩ := frzF_some h
  have := callOk_freeze (call_sound hOk h3 h2) h1 hno h4 ob pb
  unfold CallOk at this ⊢
  rw [hgl]; exact this
/-- An environment some of whose functions are frozen. -/
noncomputable def frzEnv (E0 : Env) (l : List Nat) : Env := { gl := E0.gl, lps := E0.lps, fx := E0.fx, fns := fun g => match l.contains g with
  | true => some (.ext (frzF E0 g))
  | false => E0.fns g }
theorem frzEnv_ok {T : Tab} {E0 : Env} {l : List Nat} (hOk : EnvOk T E0) (hno : ∀ g, LV.noRefs 0 (E0.gl g) = true) (hl : l.contains YG = false := by rfl) : EnvOk T (frzEnv E0 l) where
  yg := by show (match l.contains YG with | true => _ | false => E0.fns YG) = none; rw [hl]; exact hOk.yg
  noYG := hOk.noYG
  lps := hOk.lps
  fx := hOk.fx
  tab := hOk.tab
  mixed := hOk.mixed
  eq := hOk.eq
  code := by
    intro g f hg
    simp only [frzEnv] at hg
    split at hg
    · cases hg
    · exact hOk.code g f hg
  ext := by
    intro g F hg args r ob pb hF
    simp only [frzEnv] at hg
    split at hg
    · injection hg with hg; injection hg with hg; subst hg
      exact frz_ext hOk rfl hno hF pb
    · have := hOk.ext g F hg args r ob pb hF
      exact this

end Tree
