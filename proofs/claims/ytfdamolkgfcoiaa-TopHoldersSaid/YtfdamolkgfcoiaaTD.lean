/- A part of the interpreter over trees and of its proof. -/
import Derived.Test.YtfdamolkgfcoiaaTC
import Derived.RangeFuncIn
import Derived.RangeFuncLeaves
import Derived.OrdersIn
import Derived.TacticsIn
import Derived.RangeFuncCalls
set_option autoImplicit false
set_option linter.unusedVariables false
set_option linter.unusedSimpArgs false
namespace Tree
open Go
section
variable {T : Tab} {E : Env} {ev : Ev} {pb : Nat} {st st1 : St} {a : Act} {dst : Option Nat} {m : Mem} {lv : LV} {note : Option Place} {o : Oper}

/-- The objects are there. -/
structure ObjsOk (T : Tab) (ob : Obs) (m : Mem) : Prop where
  n : m.n = ob.length
  obj : ∀ (id : Nat) (cs : List LV), ob[id]? = some cs → OBlock T m (m.ob id) cs (.obj id)
  own : ∀ (id i l z : Nat) (xs sp : List (List LV)) (cs : List LV), ob[id]? = some cs → cs[i]? = some (.sl true l z xs sp) → ∃ v, m.w.cell? ⟨m.ob id, i, none⟩ = some v ∧ Tail m z v (.tail ⟨.obj id, some i⟩)
/-- The arguments read as told. -/
def ArgsOk (T : Tab) (m : Mem) (args : List LV) (vals : Array Value) : Prop :=
  args.length = vals.size ∧ ∀ (j : Nat) (lv : LV), args[j]? = some lv → Rep T m lv (vals.getD j undef) ∧ Owns m lv (vals.getD j undef) (fun c => .tail ⟨.slot j, c⟩)
/-- What a call gives. -/
def CallOk (T : Tab) (E : Env) (g : Nat) (args : List LV) (ob : Obs) (pb : Nat) (r : LV) (ob' : Obs) : Prop :=
  ∀ (f : FuncId) (m : Mem) (vals : Array Value), T.fn f = some g → Globs T E.gl m → ArgsOk T m args vals → ObjsOk T ob m →
    Calls T.P f vals m.w (fun e w' => match e with
      | .returned v => ∃ m', m'.w = w' ∧ Post pb m m' ∧ ObjsOk T ob' m' ∧ Rep T m' r v ∧ Owns m' r v (fun c => .res c)
      | _ => False)
/-- What a call of yield gives. -/
def YldOk (T : Tab) (E : Env) (xs : List LV) (id : Nat) (ob : Obs) (pb : Nat) (r : LV) (ob' : Obs) : Prop :=
  ∀ (m : Mem) (vals : Array Value) (k : Nat), Globs T E.gl m → ArgsOk T m xs vals → ObjsOk T ob m →
    ∃ fn tmps assign body, (Instr.yield (m.ob id) vals).run T.P m.w = .ok (.round (m.ob id) fn tmps assign body) m.w ∧
      RoundIn Fence.wide k T.P (m.ob id) fn tmps assign body m.w (fun e w' => match e with
      | .returned v => ∃ m', m'.w = w' ∧ Post pb m m' ∧ ObjsOk T ob' m' ∧ Rep T m' r v ∧ Owns m' r v (fun c => .res c)
      | _ => False)
structure EvOk (T : Tab) (E : Env) (ev : Ev) : Prop where
  call : ∀ g args ob pb r ob', ev g args ob pb = some (r, ob') → LV.noLs args = true → CallOk T E g args ob pb r ob'
  yld : ∀ xs id ob pb r ob', ev YG (xs ++ [.optr id 0]) ob pb = some (r, ob') → LV.noLs xs = true → YldOk T E xs id ob pb r ob'

theorem Owns.ren {v : Value} {d : Option Nat → Kd} (h : Owns m lv v d) (f : Kd → Kd) : Owns (m.ren f) lv v (fun c => f (d c)) := by
  cases lv with
  | sl o l z xs sp => cases o with
    | true => exact Tail.ren h f
    | false => trivial
  | agg cs => intro vs hv i l z xs sp hi; exact (h vs hv i l z xs sp hi).ren f
  | _ => trivial
theorem take_len {gl : Nat → List LV} {y : Opd} {st' : St} (ht : st.take gl pb y = some (lv, st')) : st'.sl.length = st.sl.length ∧ st'.ob.length = st.ob.length := by
  cases y with
  | const c => simp only [St.take, Option.map_eq_some_iff, Prod.mk.injEq] at ht; obtain ⟨_, _, _, rfl⟩ := ht; exact ⟨rfl, rfl⟩
  | glob g => simp only [St.take, Option.map_eq_some_iff, Prod.mk.injEq] at ht; obtain ⟨_, _, _, rfl⟩ := ht; exact ⟨rfl, rfl⟩
  | tmp t =>
    simp only [St.take] at ht
    split at ht
    · rename_i r hr
      injection ht with ht; subst ht
      unfold St.takeTop at hr
      split at hr
      · injection hr with hr; injection hr with _ hr; rw [← hr]; exact ⟨strip_size.1, strip_size.2.1⟩
      · split at hr
        · split at hr
          · split at hr
            · injection hr with hr; injection hr with _ hr; rw [← hr]; exact ⟨strip_size.1, strip_size.2.1⟩
            · cases hr
          · cases hr
        · cases hr
      · cases hr
    · split at ht
      · injection ht with ht; injection ht with _ ht; rw [← ht]; simp
      · injection ht with ht; injection ht with _ ht; rw [← ht]; exact ⟨rfl, rfl⟩
      · cases ht

theorem takeArgs_sound {N : Nat} {moved : List Nat} : ∀ (xs : List Operand) (ys : List Opd) (j : Nat) {st st1 : St} {m : Mem} {vs : List LV}, FR T st a.tmps m → Globs T E.gl m → st.sl.length = N → chkOpds T xs ys = true → takeArgs E.gl pb moved j ys st = some (vs, st1) →
    ∃ f, RenOk pb f ∧ (∀ t c, N ≤ t → f (.tail ⟨.slot t, c⟩) = .tail ⟨.slot t, c⟩) ∧ FR T st1 a.tmps (m.ren f) ∧ st1.sl.length = N ∧ st1.ob.length = st.ob.length ∧ vs.length = xs.length ∧
      ∀ (i : Nat) (lv : LV), vs[i]? = some lv → ((∀ s o, lv ≠ .laddr s o) → Rep T (m.ren f) lv ((xs.map a.eval).getD i undef)) ∧ Owns (m.ren f) lv ((xs.map a.eval).getD i undef) (fun c => .tail ⟨.slot (N + (j + i)), c⟩)
  | [], [], j, st, st1, m, vs, h, hG, hN, hc, hv => by
    simp only [takeArgs, Option.some.injEq, Prod.mk.injEq] at hv
    obtain ⟨rfl, rfl⟩ := hv
    exact ⟨id, RenOk.id _, fun _ _ _ => rfl, h, hN, rfl, rfl, fun i lv hi => by simp at hi⟩
  | [], _ :: _, j, st, st1, m, vs, h, hG, hN, hc, hv => by simp [chkOpds] at hc
  | _ :: _, [], j, st, st1, m, vs, h, hG, hN, hc, hv => by simp [chkOpds] at hc
  | x :: xs, y :: ys, j, st, st1, m, vs, h, hG, hN, hc, hv => by
    simp only [chkOpds, Bool.and_eq_true] at hc
    have one : ∃ v st2 ws f, RenOk pb f ∧ (∀ t c, N ≤ t → f (.tail ⟨.slot t, c⟩) = .tail ⟨.slot t, c⟩) ∧ FR T st2 a.tmps (m.ren f) ∧ st2.sl.length = N ∧ st2.ob.length = st.ob.length ∧ vs = v :: ws ∧ takeArgs E.gl pb moved (j + 1) ys st2 = some (ws, st1) ∧
        ((∀ s o, v ≠ .laddr s o) → Rep T (m.ren f) v (a.eval x)) ∧ Owns (m.ren f) v (a.eval x) (fun c => .tail ⟨.slot (N + j), c⟩) := by
      simp only [takeArgs] at hv
      split at hv
      · obtain ⟨⟨v, st2⟩, h1, h2⟩ := Option.bind_eq_some_iff.1 hv
        obtain ⟨⟨ws, st3⟩, h3, h4⟩ := Option.map_eq_some_iff.1 h2
        simp only [Prod.mk.injEq] at h4
        obtain ⟨rfl, rfl⟩ := h4
        obtain ⟨f, hf⟩ := take_sound h hG hc.1 h1 (fun c => .tail ⟨.slot (N + j), c⟩)
        have hl := take_len h1
        exact ⟨v, st2, ws, f, hf.ok, fun t c ht => hf.far t c (by rw [hl.1, hN]; exact ht), hf.fr, by rw [hl.1, hN], hl.2, rfl, h3, fun hn => hf.rep.rep hn, hf.owns⟩
      · obtain ⟨v, h1, h2⟩ := Option.bind_eq_some_iff.1 hv
        obtain ⟨⟨ws, st3⟩, h3, h4⟩ := Option.map_eq_some_iff.1 h2
        simp only [Prod.mk.injEq] at h4
        obtain ⟨rfl, rfl⟩ := h4
        exact ⟨v, st, ws, id, RenOk.id _, fun _ _ _ => rfl, h, hN, rfl, rfl, h3, fun hn => (operand_sound h hG hc.1 h1).rep hn, operand_owns hc.1 h1 _⟩
    obtain ⟨v, st2, ws, f, f1, f2, f3, f4, f4', rfl, f5, f6, f7⟩ := one
    obtain ⟨g, g1, g2, g3, g4, g4', g5, g6⟩ := takeArgs_sound xs ys (j + 1) f3 (hG.mono (le_ren m f f1.imm)) f4 hc.2 f5
    refine ⟨fun k => g (f k), ⟨by simp [f1.other, g1.other], fun l => by simp [f1.imm, g1.imm], fun t => by simp [f1.box, g1.box], fun i => by simp [f1.obj, g1.obj], fun id c hi => by simp [f1.low id c hi, g1.low id c hi]⟩,
      fun t c ht => by simp [f2 t c ht, g2 t c ht], g3, g4, by rw [g4', f4'], by simp [g5], fun i lv hi => ?_⟩
    cases i with
    | zero =>
      simp at hi; subst hi
      refine ⟨fun hn => ?_, ?_⟩
      · have := (f6 hn).mono (le_ren _ g g1.imm)
        show Rep T ((m.ren f).ren g) v _
        simpa using this
      · have := f7.ren g
        have e : (fun c => g (.tail ⟨.slot (N + j), c⟩)) = fun c => Kd.tail ⟨.slot (N + (j + 0)), c⟩ := by funext c; exact g2 _ _ (Nat.le_add_right _ _)
        rw [e] at this
        show Owns ((m.ren f).ren g) v _ _
        simpa using this
    | succ i =>
      have := g6 i lv (by simpa using hi)
      rw [show j + 1 + i = j + (i + 1) by omega] at this
      refine ⟨fun hn => ?_, ?_⟩
      · have := this.1 hn
        show Rep T ((m.ren f).ren g) lv _
        simpa using this
      · have := this.2
        show Owns ((m.ren f).ren g) lv _ _
        simpa using this
end
end Tree

set_option autoImplicit false
set_option linter.unusedVariables false
set_option linter.unusedSimpArgs false
namespace Tree
open Go

/-- The caller's classes as the callee sees them. -/
def kap (N : Nat) : Kd → Kd
  | .other => .other
  | .imm l => .imm l
  | .obj i => .obj i
  | .tail ⟨.obj i, c⟩ => .tail ⟨.obj i, c⟩
  | .tail ⟨.slot s, c⟩ => if N ≤ s then .tail ⟨.slot (s - N), c⟩ else .other
  | .box _ => .other
  | .res _ => .other
/-- And back. -/
def back (dst : Option Nat) (n : Nat) : Kd → Kd
  | .imm l => .imm l
  | .obj i => if i < n then .obj i else .other
  | .tail ⟨.obj i, c⟩ => if i < n then .tail ⟨.obj i, c⟩ else .other
  | .res c => match dst with
    | some d => .tail ⟨.slot d, c⟩
    | none => .other
  | _ => .other
def kept (N pb : Nat) (k : Kd) : Prop := kap N k = .other ∨ (∃ l, k = .imm l) ∨ (∃ id, k = .obj id) ∨ ∃ id c, id < pb ∧ k = .tail ⟨.obj id, c⟩
open Classical in
noncomputable def ret (N pb : Nat) (dst : Option Nat) (n : Nat) (m m' : Mem) : Mem :=
  { w := m'.w, k := fun b o => if b < m.w.heap.size ∧ kept N pb (m.k b o) then m.k b o else back dst n (m'.k b o), ob := m'.ob, n := n }

section
variable {T : Tab} {N pb pb0 n : Nat} {dst : Option Nat} {m m' : Mem}

theorem kap_kept {k : Kd} (h : kept N pb0 k) : kap N k = .other ∨ (∃ l, kap N k = .imm l) ∨ (∃ id, kap N k = .obj id) ∨ ∃ id c, id < pb0 ∧ kap N k = .tail ⟨.obj id, c⟩ := by
  rcases h with h | ⟨l, rfl⟩ | ⟨id, rfl⟩ | ⟨id, c, hi, rfl⟩
  · exact .inl h
  · exact .inr (.inl ⟨l, rfl⟩)
  · exact .inr (.inr (.inl ⟨id, rfl⟩))
  · exact .inr (.inr (.inr ⟨id, c, hi, rfl⟩))
theorem ret_old (hP : Post pb0 (m.ren (kap N)) m') {b o : Nat} (hb : b < m.w.heap.size) (hk : kept N pb0 (m.k b o)) : m'.k b o = kap N (m.k b o) :=
  hP.kind b o hb (kap_kept hk)
theorem ret_keeps {b o : Nat} (hb : b < m.w.heap.size) (hk : kept N pb0 (m.k b o)) : (ret N pb0 dst n m m').k b o = m.k b o := if_pos ⟨hb, hk⟩
theorem kap_imm {k : Kd} {l : Nat} (h : kap N k = .imm l) : k = .imm l := by
  unfold kap at h; split at h <;> first | exact h | cases h | skip
  split at h <;> cases h
theorem kap_obj {k : Kd} {i : Nat} (h : kap N k = .obj i) : k = .obj i := by
  unfold kap at h; split at h <;> first | exact h | cases h | skip
  split at h <;> cases h
theorem kap_tail {k : Kd} {i : Nat} {c : Option Nat} (h : kap N k = .tail ⟨.obj i, c⟩) : k = .tail ⟨.obj i, c⟩ := by
  unfold kap at h; split at h <;> first | exact h | cases h | skip
  split at h
  · injection h with h; injection h with h; cases h
  · cases h
theorem kap_res {k : Kd} {c : Option Nat} (h : kap N k = .res c) : False := by
  unfold kap at h; split at h <;> first | cases h | skip
  split at h <;> cases h
theorem ret_imm (hP : Post pb0 (m.ren (kap N)) m') {b o l : Nat} (h : m'.k b o = .imm l) : (ret N pb0 dst n m m').k b o = .imm l := by
  simp only [ret]
  split
  · rename_i hc
    have := ret_old hP hc.1 hc.2
    rw [h] at this; exact kap_imm this.symm
  · rw [h]; rfl
theorem ret_obj (hP : Post pb0 (m.ren (kap N)) m') {b o id : Nat} (hi : id < n) (h : m'.k b o = .obj id) : (ret N pb0 dst n m m').k b o = .obj id := by
  simp only [ret]
  split
  · rename_i hc
    have := ret_old hP hc.1 hc.2
    rw [h] at this; exact kap_obj this.symm
  · rw [h]; simp [back, hi]
theorem ret_tail (hP : Post pb0 (m.ren (kap N)) m') {b o id : Nat} {c : Option Nat} (hi : id < n) (h : m'.k b o = .tail ⟨.obj id, c⟩) : (ret N pb0 dst n m m').k b o = .tail ⟨.obj id, c⟩ := by
  simp only [ret]
  split
  · rename_i hc
    have := ret_old hP hc.1 hc.2
    rw [h] at this; exact kap_tail this.symm
  · rw [h]; simp [back, hi]
theorem ret_res (hP : Post pb0 (m.ren (kap N)) m') {b o d : Nat} {c : Option Nat} (h : m'.k b o = .res c) : (ret N pb0 (some d) n m m').k b o = .tail ⟨.slot d, c⟩ := by
  simp only [ret]
  split
  · rename_i hc
    have := ret_old hP hc.1 hc.2
    rw [h] at this; exact (kap_res this.symm).elim
  · rw [h]; rfl

/-- What of the old memory is as it was. -/
theorem ret_heap (hP : Post pb0 (m.ren (kap N)) m') {b : Nat} {vs : Array Value} {ty : TypeId} (hb : m.w.heap[b]? = some (.cells vs ty (0, 0))) :
    ∃ vs', m'.w.heap[b]? = some (.cells vs' ty (0, 0)) ∧ vs'.size = vs.size ∧ ∀ o, (kap N (m.k b o) = .other ∨ (∃ l, m.k b o = .imm l) ∨ ∃ id, id < pb0 ∧ (m.k b o = .obj id ∨ ∃ c, m.k b o = .tail ⟨.obj id, c⟩)) → vs'[o]? = vs[o]? := by
  rcases hP.keep b (heap_lt hb) with e | ⟨us, us', ty', e1, e2, e3, e4⟩ | ⟨es, es', e1, e2, e5, e3⟩
  · exact ⟨vs, e.trans hb, rfl, fun _ _ => rfl⟩
  · have e1' : m.w.heap[b]? = some (.cells us ty' (0, 0)) := e1
    rw [hb] at e1'
    injection e1' with e1'; injection e1' with e1' e1''; subst e1'; subst e1''
    refine ⟨us', e2, e3, fun o ho => e4 o ?_⟩
    show kap N (m.k b o) = _ ∨ (∃ l, kap N (m.k b o) = _) ∨ ∃ id, id < pb0 ∧ (kap N (m.k b o) = _ ∨ ∃ c, kap N (m.k b o) = _)
    rcases ho with h | ⟨l, h⟩ | ⟨id, hi, h | ⟨c, h⟩⟩
    · exact .inl h
    · exact .inr (.inl ⟨l, by rw [h]; rfl⟩)
    · exact .inr (.inr ⟨id, hi, .inl (by rw [h]; rfl)⟩)
    · exact .inr (.inr ⟨id, hi, .inr ⟨c, by rw [h]; rfl⟩⟩)
  · have e1 : m.w.heap[b]? = some es := e1
    rw [hb] at e1; injection e1 with e1; subst e1; cases e5.1
theorem ret_cell (hP : Post pb0 (m.ren (kap N)) m') {b o : Nat} {v : Value} (hk : kap N (m.k b o) = .other ∨ (∃ l, m.k b o = .imm l) ∨ ∃ id, id < pb0 ∧ (m.k b o = .obj id ∨ ∃ c, m.k b o = .tail ⟨.obj id, c⟩)) (hc : m.w.cell? ⟨b, o, none⟩ = some v) : m'.w.cell? ⟨b, o, none⟩ = some v := by
  rcases hP.keep b (cell_lt hc) with e | ⟨us, us', ty', e1, e2, e3, e4⟩ | ⟨es, es', e1, e2, e5, e3⟩
  · rw [← hc]; exact World.cell?_of_block e
  · obtain ⟨vs', g1, g2, g3⟩ := ret_heap hP e1
    have e1' : m.w.heap[b]? = some (.cells us ty' (0, 0)) := e1
    simp only [World.cell?, e1'] at hc
    simp only [World.cell?, g1, g3 o hk]; exact hc
  · have e1 : m.w.heap[b]? = some es := e1
    rw [nc_cell e1 e5.1] at hc; cases hc

theorem ret_post (hP : Post pb0 (m.ren (kap N)) m') (hpb : pb ≤ pb0) (hn : m.n ≤ n) (hn' : n ≤ m'.n) : Post pb m (ret N pb0 dst n m m') := by
  refine ⟨hP.os, hP.tape, hP.output, hP.size, fun b hb => ?_, fun b o hb hk => ?_, hn, hP.ob, fun id h1 h2 => hP.fresh id h1 (Nat.lt_of_lt_of_le h2 hn')⟩
  · rcases hP.keep b hb with e | ⟨us, us', ty', e1, e2, e3, e4⟩ | ⟨es, es', e1, e2, e5, e3⟩
    · exact .inl e
    · obtain ⟨vs', g1, g2, g3⟩ := ret_heap hP e1
      refine .inr (.inl ⟨us, vs', ty', e1, g1, g2, fun o ho => g3 o ?_⟩)
      rcases ho with h | ⟨l, h⟩ | ⟨id, hi, h⟩
      · exact .inl (by rw [h]; rfl)
      · exact .inr (.inl ⟨l, h⟩)
      · exact .inr (.inr ⟨id, Nat.lt_of_lt_of_le hi hpb, h⟩)
    · refine .inr (.inr ⟨es, es', e1, e2, e5, fun hk => e3 ?_⟩)
      show kap N (m.k b 0) = _ ∨ (∃ l, kap N (m.k b 0) = _) ∨ ∃ id, id < pb0 ∧ kap N (m.k b 0) = _
      rcases hk with h | ⟨l, h⟩ | ⟨id, hi, h⟩
      · exact .inl (by rw [h]; rfl)
      · exact .inr (.inl ⟨l, by rw [h]; rfl⟩)
      · exact .inr (.inr ⟨id, Nat.lt_of_lt_of_le hi hpb, by rw [h]; rfl⟩)
  · refine ret_keeps hb ?_
    rcases hk with h | ⟨l, h⟩ | ⟨id, h⟩ | ⟨id, c, hi, h⟩
    · exact .inl (by rw [h]; rfl)
    · exact .inr (.inl ⟨l, h⟩)
    · exact .inr (.inr (.inl ⟨id, h⟩))
    · exact .inr (.inr (.inr ⟨id, c, Nat.lt_of_lt_of_le hi hpb, h⟩))
/-- What of a frame's facts speaks of no object. -/
theorem ret_block (hP : Post pb0 (m.ren (kap N)) m') (hn : m.n ≤ n) (hn' : n ≤ m'.n) {b t : Nat} {cs : List LV} (h : Block T m b cs (.box t)) : Block T (ret N pb0 dst n m m') b cs (.box t) := by
  obtain ⟨vs, ty, h1, h2, h3, h4⟩ := h
  obtain ⟨vs', g1, g2, g3⟩ := ret_heap hP h1
  have e : vs' = vs := by
    apply Array.ext_getElem?; intro o; exact g3 o (.inl (by rw [h3]; rfl))
  subst e
  refine ⟨vs', ty, g1, h2, fun o => ?_, fun j lv hj => ⟨(h4 j lv hj).1, (h4 j lv hj).2.mono (ret_post hP (Nat.le_refl _) hn hn').le⟩⟩
  rw [ret_keeps (heap_lt h1) (.inl (by rw [h3]; rfl)), h3]
theorem ret_tailS (hP : Post pb0 (m.ren (kap N)) m') {z s : Nat} {c : Option Nat} {v : Value} (hs : s < N) (h : Tail m z v (.tail ⟨.slot s, c⟩)) : Tail (ret N pb0 dst n m m') z v (.tail ⟨.slot s, c⟩) := by
  intro b o ht
  obtain ⟨k1, vs, ty, h1, h2⟩ := h b o ht
  obtain ⟨vs', g1, g2, _⟩ := ret_heap hP h1
  refine ⟨?_, vs', ty, g1, by omega⟩
  rw [ret_keeps (heap_lt h1) (.inl (by rw [k1]; simp [kap]; omega)), k1]
theorem ret_RAtS (hP : Post pb0 (m.ren (kap N)) m') {st : St} {tmps : Array Value} (hfr : FR T st tmps m) {s : Nat} {c : Option Nat} {v : Value} (hp : ∀ i, c = some i → (∃ cs, st.sl[s]? = some (Slot.box cs)) ∨ ∃ cs, st.sl[s]? = some (Slot.val (.agg cs)))
    (h : RAt tmps m ⟨.slot s, c⟩ v) : RAt tmps (ret N pb0 dst n m m') ⟨.slot s, c⟩ v := by
  cases c with
  | none => exact h
  | some i =>
    rcases h with h | ⟨b, h1, h2⟩
    · exact .inl h
    · rcases hp i rfl with ⟨cs, hcs⟩ | ⟨cs, hcs⟩
      · obtain ⟨b', g1, g2⟩ := hfr.box s cs hcs
        rw [h1] at g1; injection g1 with g1; injection g1 with g1; injection g1 with g1; injection g1 with g1; subst g1
        obtain ⟨vs, ty, k1, k2, k3, k4⟩ := g2
        exact .inr ⟨b, h1, ret_cell hP (.inl (by rw [k3]; rfl)) h2⟩
      · exfalso
        obtain ⟨u, g1, g2⟩ := hfr.val s _ hcs
        rw [h1] at g1; injection g1 with g1; subst g1
        cases (show Rep T m (.agg cs) _ from g2)
end
end Tree

set_option autoImplicit false
set_option linter.unusedVariables false
set_option linter.unusedSimpArgs false
namespace Tree
open Go
section
variable {T : Tab} {N pb pb0 n : Nat} {dst : Option Nat} {m m' : Mem} {st : St} {a : Act}

theorem noRefs_get {n : Nat} : ∀ (cs : List LV) (i : Nat) (lv : LV), LV.noRefs n cs = true → cs[i]? = some lv → lv.noRef n = true
  | [], i, lv, _, hi => by simp at hi
  | c :: cs, i, lv, h, hi => by
    simp only [LV.noRefs, Bool.and_eq_true] at h
    cases i with
    | zero => simp at hi; subst hi; exact h.1
    | succ i => exact noRefs_get cs i lv h.2 (by simpa using hi)
theorem noRefss_get {n : Nat} : ∀ (xs : List (List LV)) (i : Nat) (x : List LV), LV.noRefss n xs = true → xs[i]? = some x → LV.noRefs n x = true
  | [], i, lv, _, hi => by simp at hi
  | c :: cs, i, lv, h, hi => by
    simp only [LV.noRefss, Bool.and_eq_true] at h
    cases i with
    | zero => simp at hi; subst hi; exact h.1
    | succ i => exact noRefss_get cs i lv h.2 (by simpa using hi)
theorem rep_noRef {m2 : Mem} (hw : m2.w = m.w) (hob : m2.ob = m.ob) (hk : ∀ b o l, m.k b o = .imm l → m2.k b o = .imm l) {lv : LV} {v : Value} (h : Rep T m lv v) (hn : lv.noRef m2.n = true) : Rep T m2 lv v := by
  induction h with
  | bool b => exact .bool b
  | int k n => exact .int k n
  | str s => exact .str s
  | nil o l z => exact .nil o l z
  | emp o l z a => exact .emp o l z a
  | sl o l z xs sp b off cap val hc hz hm hr hM ih =>
    simp only [LV.noRef, Bool.and_eq_true] at hn
    refine .sl o l z xs sp b off cap val hc hz (fun i x j lv hx hj => ?_) (fun i x j lv hx hj => ?_) hM
    · obtain ⟨h1, h2, h3⟩ := hm i x j lv hx hj
      exact ⟨hk _ _ _ h1, by rw [hw]; exact h2, h3⟩
    · refine ih i x j lv hx hj (noRefs_get x j lv ?_ hj)
      by_cases hi : i < xs.length
      · rw [List.getElem?_append_left hi] at hx; exact noRefss_get xs i x hn.1 hx
      · rw [List.getElem?_append_right (by omega)] at hx; exact noRefss_get sp _ x hn.2 hx
  | agg cs vs hl hr ih => exact .agg cs vs hl (fun i lv hi => ih i lv hi (noRefs_get cs i lv (by simpa [LV.noRef] using hn) hi))
  | tup cs vs hl hr ih => exact .tup cs vs hl (fun i lv hi => ih i lv hi (noRefs_get cs i lv (by simpa [LV.noRef] using hn) hi))
  | iptr l cs off b base val hm hr ih =>
    refine .iptr l cs off b base val (fun j lv hj => ?_) (fun j lv hj => ih j lv hj (noRefs_get cs j lv (by simpa [LV.noRef] using hn) hj))
    obtain ⟨h1, h2, h3⟩ := hm j lv hj
    exact ⟨hk _ _ _ h1, by rw [hw]; exact h2, h3⟩
  | optr id off h =>
    simp only [LV.noRef, decide_eq_true_eq] at hn
    have := Rep.optr (T := T) (m := m2) id off hn
    rwa [hob] at this
  | nilptr => exact .nilptr
  | fn g cap f vs hf hl hr ih => exact .fn g cap f vs hf hl (fun i lv hi => ih i lv hi (noRefs_get cap i lv (by simpa [LV.noRef] using hn) hi))
  | nilfn => exact .nilfn
  | undef v => exact .undef v
  | mref id h =>
    simp only [LV.noRef, decide_eq_true_eq] at hn
    have := Rep.mref (T := T) (m := m2) id hn
    rwa [hob] at this
  | nilmap => exact .nilmap
  | yld id h =>
    simp only [LV.noRef, LV.noRefs, Bool.and_true, decide_eq_true_eq] at hn
    have := Rep.yld (T := T) (m := m2) id hn
    rw [hob] at this; exact this
  | msl id off len cap sz h hM hl =>
    simp only [LV.noRef, decide_eq_true_eq] at hn
    have := Rep.msl (T := T) (m := m2) id off len cap sz hn hM hl
    rwa [hob] at this

theorem ret_owns (hP : Post pb0 (m.ren (kap N)) m') {r : LV} {v : Value} (h : Owns m' r v (fun c => .res c)) (d : Nat) : Owns (ret N pb0 (some d) n m m') r v (fun c => .tail ⟨.slot d, c⟩) := by
  have key : ∀ z u c, Tail m' z u (.res c) → Tail (ret N pb0 (some d) n m m') z u (.tail ⟨.slot d, c⟩) := by
    intro z u c ht b o hb
    obtain ⟨k1, k2⟩ := ht b o hb
    exact ⟨ret_res hP k1, k2⟩
  cases r with
  | sl o l z xs sp => cases o with
    | true => exact key _ _ _ h
    | false => trivial
  | agg cs => intro vs hv i l z xs sp hi; exact key _ _ _ (h vs hv i l z xs sp hi)
  | _ => trivial
theorem at_box {t i : Nat} {v : LV} (h : st.at ⟨.slot t, some i⟩ = some v) : (∃ cs, st.sl[t]? = some (Slot.box cs)) ∨ ∃ cs, st.sl[t]? = some (Slot.val (.agg cs)) := by
  simp only [St.at] at h
  split at h
  · rename_i cs hcs; exact .inr ⟨cs, hcs⟩
  · rename_i cs hcs; exact .inl ⟨cs, hcs⟩
  · cases h

theorem call_rw (hfr : FR T st a.tmps m) (hN : st.sl.length = N) (hP : Post pb (m.ren (kap N)) m') {ob' : Obs} (hO : ObjsOk T ob' m') :
    Post pb m (ret N pb dst m'.n m m') ∧ FR T { st with ob := ob', al := fun t => match st.al t with | some ⟨.slot s, c⟩ => some ⟨.slot s, c⟩ | _ => none } a.tmps (ret N pb dst m'.n m m') ∧ m'.le (ret N pb dst m'.n m m') := by
  have hn : m.n ≤ m'.n := hP.n
  have hpost : Post pb m (ret N pb dst m'.n m m') := ret_post hP (Nat.le_refl _) hn (Nat.le_refl _)
  have hle' : m'.le (ret N pb dst m'.n m m') := ⟨fun b o l v hc hk => ⟨ret_imm hP hk, hc⟩, Nat.le_refl _, fun _ _ => rfl⟩
  have hal : ∀ t p, (match st.al t with | some ⟨.slot s, c⟩ => some ⟨.slot s, c⟩ | _ => none : Option Place) = some p → st.al t = some p ∧ ∃ s c, p = ⟨.slot s, c⟩ := by
    intro t p h
    split at h
    · rename_i s c hs; injection h with h; subst h; exact ⟨hs, s, c, rfl⟩
    · cases h
  refine ⟨hpost, ⟨hfr.size, hO.n, fun t p htp => ?_, fun t lv ht => ?_, fun t cs ht => ?_, fun id cs hi => ?_, fun p l z xs sp hp => ?_, fun t p htp => ?_⟩, hle'⟩
  · obtain ⟨h1, s, c, rfl⟩ := hal t p htp
    exact ⟨fun id e => (by cases e), (hfr.alo t _ h1).2⟩
  · obtain ⟨v, h1, h2⟩ := hfr.val t lv ht
    exact ⟨v, h1, VRep.st (h2.mono hpost.le) (fun t h => h)⟩
  · obtain ⟨b, h1, h2⟩ := hfr.box t cs ht
    exact ⟨b, h1, ret_block hP hn (Nat.le_refl _) h2⟩
  · have hlt : id < m'.n := by rw [hO.n]; exact (List.getElem?_eq_some_iff.1 hi).1
    rcases hO.obj id cs hi with ⟨g, vs, ty, h1, h2, h3, h4⟩ | hb
    · exact .inl ⟨g, vs, ty, h1, h2, fun o => ret_obj hP hlt (h3 o), fun j lv hj => ⟨(h4 j lv hj).1, (h4 j lv hj).2.mono hle'⟩⟩
    · have hcl := OBlock.class (.inr hb)
      exact .inr (hb.mono rfl (fun o => ret_obj hP hlt (hcl o)) hle')
  · obtain ⟨root, c⟩ := p
    cases root with
    | slot s =>
      have hp' : st.at ⟨.slot s, c⟩ = some (.sl true l z xs sp) := by cases c <;> exact hp
      obtain ⟨v, h1, h2⟩ := hfr.own _ l z xs sp hp'
      have hs : s < N := by rw [← hN]; exact at_slot_lt hp'
      exact ⟨v, ret_RAtS hP hfr (fun i e => by subst e; exact at_box hp') h1, ret_tailS hP hs h2⟩
    | obj id =>
      cases c with
      | none => cases hp
      | some i =>
        simp only [St.at] at hp
        split at hp
        · rename_i cs hcs
          obtain ⟨v, h1, h2⟩ := hO.own id i l z xs sp cs hcs hp
          have hlt : id < m'.n := by rw [hO.n]; exact (List.getElem?_eq_some_iff.1 hcs).1
          refine ⟨v, h1, fun b o hb => ?_⟩
          obtain ⟨k1, k2⟩ := h2 b o hb
          exact ⟨ret_tail hP hlt k1, k2⟩
        · cases hp
  · obtain ⟨h1, s, c, rfl⟩ := hal t p htp
    obtain ⟨u, h2, h3⟩ := hfr.al t _ h1
    exact ⟨u, ret_RAtS hP hfr (fun i e => by subst e; exact .inl ((hfr.alo t _ h1).2 s i rfl)) h2, h3⟩

theorem call_ro (hfr : FR T st a.tmps m) (hN : st.sl.length = N) (hpb : pb ≤ pb0) (hob : st.ob.length ≤ pb0) (hP : Post pb0 (m.ren (kap N)) m') :
    Post pb m (ret N pb0 dst m.n m m') ∧ FR T st a.tmps (ret N pb0 dst m.n m m') ∧ ∀ (r : LV) (v : Value), r.noRef st.ob.length = true → Rep T m' r v → Rep T (ret N pb0 dst m.n m m') r v := by
  have hpost : Post pb m (ret N pb0 dst m.n m m') := ret_post hP hpb (Nat.le_refl _) hP.n
  have hobe : ∀ id, id < m.n → m'.ob id = m.ob id := hP.ob
  have hrat : ∀ p u, st.real p → RAt a.tmps m p u → RAt a.tmps (ret N pb0 dst m.n m m') p u := by
    intro p u hr h
    obtain ⟨root, c⟩ := p
    cases root with
    | slot s => exact ret_RAtS hP hfr (fun i e => by subst e; exact .inl (hr.2 s i rfl)) h
    | obj id =>
      cases c with
      | none => exact h
      | some i =>
        have hid := hr.1 id rfl
        have h3 := (hfr.obj id _ (List.getElem?_eq_getElem hid)).class
        show m'.w.cell? ⟨m'.ob id, i, none⟩ = some u
        rw [hobe id (by rw [hfr.n]; exact hid)]
        exact ret_cell hP (.inr (.inr ⟨id, by omega, .inl (h3 i)⟩)) h
  refine ⟨hpost, ⟨hfr.size, hfr.n, hfr.alo, fun t lv ht => ?_, fun t cs ht => ?_, fun id cs hi => ?_, fun p l z xs sp hp => ?_, fun t p htp => ?_⟩, fun r v hr h => ?_⟩
  · obtain ⟨v, h1, h2⟩ := hfr.val t lv ht
    exact ⟨v, h1, h2.mono hpost.le⟩
  · obtain ⟨b, h1, h2⟩ := hfr.box t cs ht
    exact ⟨b, h1, ret_block hP (Nat.le_refl _) hP.n h2⟩
  · have hid := (List.getElem?_eq_some_iff.1 hi).1
    have hob2 := hfr.obj id cs hi
    have hlt2 := hob2.lt
    have hcl := hob2.class
    have hkind : ∀ o, (ret N pb0 dst m.n m m').k (m'.ob id) o = .obj id := fun o => by
      rw [hobe id (by rw [hfr.n]; exact hid), ret_keeps hlt2 (.inr (.inr (.inl ⟨id, hcl o⟩))), hcl]
    rcases hob2 with ⟨g, vs, ty, h1, h2, h3, h4⟩ | hmb
    · obtain ⟨vs', g1, g2, g3⟩ := ret_heap hP h1
      have e : vs' = vs := by
        apply Array.ext_getElem?; intro o; exact g3 o (.inr (.inr ⟨id, by omega, .inl (h3 o)⟩))
      subst e
      refine .inl ⟨g, vs', ty, ?_, h2, hkind, fun j lv hj => ⟨(h4 j lv hj).1, (h4 j lv hj).2.mono hpost.le⟩⟩
      show m'.w.heap[m'.ob id]? = _
      rw [hobe id (by rw [hfr.n]; exact hid)]; exact g1
    · have hh : m'.w.heap[m.ob id]? = m.w.heap[m.ob id]? := by
        rcases hP.keep (m.ob id) hlt2 with e | ⟨us, us', ty', e1, e2, e3, e4⟩ | ⟨es, es', e1, e2, e5, e3⟩
        · exact e
        · obtain ⟨x, q1, q2⟩ := hmb.nc
          have e1 : m.w.heap[m.ob id]? = some (.cells us ty' (0, 0)) := e1
          rw [q1] at e1; injection e1 with e1; subst e1; cases q2
        · exfalso
          apply e3
          refine .inr (.inr ⟨id, by omega, ?_⟩)
          show kap N (m.k (m.ob id) 0) = _
          rw [hcl]; rfl
      refine .inr ?_
      have hob1 := hobe id (by rw [hfr.n]; exact hid)
      show MBlock T _ (m'.ob id) cs _
      rw [hob1]
      exact hmb.mono hh (fun o => hob1 ▸ hkind o) hpost.le
  · obtain ⟨v, h1, h2⟩ := hfr.own p l z xs sp hp
    refine ⟨v, ?_, ?_⟩
    · obtain ⟨root, c⟩ := p
      cases root with
      | slot s => exact ret_RAtS hP hfr (fun i e => by subst e; exact at_box hp) h1
      | obj id =>
        cases c with
        | none => cases hp
        | some i => exact hrat _ _ ⟨fun id' e => St.at_lt hp id' e, fun s i e => by cases e⟩ h1
    · obtain ⟨root, c⟩ := p
      cases root with
      | slot s => exact ret_tailS hP (by rw [← hN]; exact at_slot_lt hp) h2
      | obj id =>
        have hid := St.at_lt hp id rfl
        intro b o hb
        obtain ⟨k1, vs, ty, k2, k3⟩ := h2 b o hb
        obtain ⟨vs', g1, g2, _⟩ := ret_heap hP k2
        refine ⟨?_, vs', ty, g1, by omega⟩
        rw [ret_keeps (heap_lt k2) (.inr (.inr (.inr ⟨id, c, by omega, k1⟩))), k1]
  · obtain ⟨u, h1, h2⟩ := hfr.al t p htp
    exact ⟨u, hrat p u (hfr.alo t p htp) h1, h2⟩
  · exact rep_noRef (m := m') (m2 := ret N pb0 dst m.n m m') rfl rfl (fun b o l hk => ret_imm hP hk) h (by show r.noRef m.n = true; rw [hfr.n]; exact hr)
end
end Tree

set_option autoImplicit false
set_option linter.unusedVariables false
set_option linter.unusedSimpArgs false
namespace Tree
open Go
/-- A call of a known function enters it. -/
def TabOk (T : Tab) : Prop := ∀ f g, T.fn f = some g → ∀ (args : Array Value) (w : World), (callFunc f args).run T.P w = .ok (.enter f args) w
section
variable {T : Tab} {E : Env} {ev : Ev} {pb : Nat} {st st1 : St} {a : Act} {dst : Option Nat} {m : Mem} {lv : LV} {note : Option Place} {o : Oper}

theorem noLs_get : ∀ (cs : List LV) (i : Nat) (lv : LV), LV.noLs cs = true → cs[i]? = some lv → lv.noL = true
  | [], i, lv, _, hi => by simp at hi
  | c :: cs, i, lv, h, hi => by
    simp only [LV.noLs, Bool.and_eq_true] at h
    cases i with
    | zero => simp at hi; subst hi; exact h.1
    | succ i => exact noLs_get cs i lv h.2 (by simpa using hi)
theorem noLs_append : ∀ (xs ys : List LV), LV.noLs (xs ++ ys) = (LV.noLs xs && LV.noLs ys)
  | [], ys => by simp [LV.noLs]
  | x :: xs, ys => by simp [LV.noLs, noLs_append xs ys, Bool.and_assoc]
theorem noL_laddr {v : LV} (h : v.noL = true) : ∀ s o, v ≠ .laddr s o := by
  intro s o e; rw [e] at h; simp [LV.noL] at h

theorem FR.objs {N : Nat} (h : FR T st a.tmps m) : ObjsOk T st.ob (m.ren (kap N)) := by
  refine ⟨h.n, fun id cs hi => (h.obj id cs hi).ren _ (fun _ => rfl) rfl, fun id i l z xs sp cs hi hc => ?_⟩
  obtain ⟨v, h1, h2⟩ := h.own ⟨.obj id, some i⟩ l z xs sp (by simp [St.at, hi, hc])
  exact ⟨v, h1, h2.ren (kap N)⟩

theorem op_call (hT : TabOk T) (hev : EvOk T E ev) (h : FR T st a.tmps m) (hG : Globs T E.gl m) {c : Call} {f : Operand} {ro : Bool} {f' : Opd} {args : List Opd} {moved : List Nat} (ho : o.op = .call c) (hcal : c.callee = .value f) (hf : chkOpd T f f' = true) (hargs : chkOpds T c.args.toList args = true)
    (hv : valOp E ev pb st dst (.call ro f' args moved) = some (lv, st1, note)) :
    note = none ∧ ((∃ fid vals, (execOp a.eval o).run T.P m.w = .ok (.enter fid vals) m.w ∧ Calls T.P fid vals m.w (fun e w' => match e with
      | .returned v => ∃ m2, m2.w = w' ∧ Post pb m m2 ∧ FR T st1 a.tmps m2 ∧ VRep T st1 a.tmps m2 lv v ∧ ∀ d, dst = some d → Owns m2 lv v (fun c => .tail ⟨.slot d, c⟩)
      | _ => False)) ∨ ∃ l fn tmps assign body, (execOp a.eval o).run T.P m.w = .ok (.round l fn tmps assign body) m.w ∧ ∀ k, RoundIn Fence.wide k T.P l fn tmps assign body m.w (fun e w' => match e with
      | .returned v => ∃ m2, m2.w = w' ∧ Post pb m m2 ∧ FR T st1 a.tmps m2 ∧ VRep T st1 a.tmps m2 lv v ∧ ∀ d, dst = some d → Owns m2 lv v (fun c => .tail ⟨.slot d, c⟩)
      | _ => False)) := by
  simp only [valOp] at hv
  split at hv
  · rename_i g cap hfv
    obtain ⟨⟨vs, st2⟩, h1, h2⟩ := Option.bind_eq_some_iff.1 hv
    split at h2
    · rename_i hcond
      simp only [Bool.and_eq_true] at hcond
      obtain ⟨⟨hl1, hl2⟩, hown⟩ := hcond
      simp only at hl1 hl2 h2
      have hfr0 : Rep T m (.fn g cap) (a.eval f) := operand_sound h hG hf hfv
      obtain ⟨r, r1, r2, r3, r4, r4', r5, r6⟩ := takeArgs_sound (N := st.sl.length) c.args.toList args 0 h hG rfl hargs h1
      have hG1 : Globs T E.gl ((m.ren r).ren (kap st.sl.length)) := (hG.mono (le_ren m r r1.imm)).mono (le_ren _ _ (fun _ => rfl))
      have hP1 := Post.of_ren r1 m
      have hAv : ∀ (j : Nat) (lv : LV), vs[j]? = some lv → Rep T ((m.ren r).ren (kap st.sl.length)) lv ((c.args.map a.eval).getD j undef) ∧ Owns ((m.ren r).ren (kap st.sl.length)) lv ((c.args.map a.eval).getD j undef) (fun c => .tail ⟨.slot j, c⟩) := by
        intro j lv hj
        have hlt : j < vs.length := (List.getElem?_eq_some_iff.1 hj).1
        obtain ⟨q1, q2⟩ := r6 j lv hj
        have e : ((c.args.toList.map a.eval).getD j undef) = (c.args.map a.eval).getD j undef := by
          have hlen : vs.length = c.args.size := by simpa using r5
          have hlt' : j < c.args.size := by omega
          simp [List.getD_eq_getElem?_getD, Array.getD_eq_getD_getElem?, hlt']
        rw [e] at q1 q2
        refine ⟨(q1 (noL_laddr (noLs_get _ _ _ hl1 hj))).mono (le_ren _ _ (fun _ => rfl)), ?_⟩
        have := q2.ren (kap st.sl.length)
        have e2 : (fun c => kap st.sl.length (.tail ⟨.slot (st.sl.length + (0 + j)), c⟩)) = fun c => Kd.tail ⟨.slot j, c⟩ := by
          funext c; simp [kap]
        rw [e2] at this; exact this
      -- what stands behind the call, for whatever the call was
      have key : ∃ pb1 rv ob', ev g (vs ++ cap) st2.ob pb1 = some (rv, ob') ∧ note = none ∧ ∀ (e : Ending) (w' : World), (match e with
          | .returned v => ∃ m', m'.w = w' ∧ Post pb1 ((m.ren r).ren (kap st.sl.length)) m' ∧ ObjsOk T ob' m' ∧ Rep T m' rv v ∧ Owns m' rv v (fun c => .res c)
          | _ => False) → (match e with
          | .returned v => ∃ m2, m2.w = w' ∧ Post pb m m2 ∧ FR T st1 a.tmps m2 ∧ VRep T st1 a.tmps m2 lv v ∧ ∀ d, dst = some d → Owns m2 lv v (fun c => .tail ⟨.slot d, c⟩)
          | _ => False) := by
        split at h2
        · -- a call that writes no object
          rename_i hro
          obtain ⟨⟨rv, ob'⟩, h3, h4⟩ := Option.bind_eq_some_iff.1 h2
          split at h4
          · rename_i hnr
            simp only [Option.some.injEq, Prod.mk.injEq] at h4
            obtain ⟨rfl, rfl, rfl⟩ := h4
            refine ⟨_, _, _, h3, rfl, fun e w' he => ?_⟩
            cases e with
            | returned v =>
              obtain ⟨m', rfl, p1, p2, p3, p4⟩ := he
              obtain ⟨q1, q2, q3⟩ := call_ro (dst := dst) (pb := pb) r3 r4 (Nat.le_max_left _ _) (Nat.le_max_right _ _) p1
              refine ⟨ret st.sl.length (max pb st2.ob.length) dst (m.ren r).n (m.ren r) m', rfl, hP1.trans q1, q2, VRep.of_rep (q3 _ _ hnr p3), fun d hd => ?_⟩
              subst hd
              exact ret_owns p1 p4 d
            | panicked ch => exact he
            | outgrown => exact he
          · cases h4
        · obtain ⟨⟨rv, ob'⟩, h3, h4⟩ := Option.map_eq_some_iff.1 h2
          simp only [Prod.mk.injEq] at h4
          obtain ⟨rfl, rfl, rfl⟩ := h4
          refine ⟨_, _, _, h3, rfl, fun e w' he => ?_⟩
          cases e with
          | returned v =>
            obtain ⟨m', rfl, p1, p2, p3, p4⟩ := he
            obtain ⟨q1, q2, q3⟩ := call_rw (dst := dst) r3 r4 p1 p2
            refine ⟨ret st.sl.length pb dst m'.n (m.ren r) m', rfl, hP1.trans q1, q2, VRep.of_rep (p3.mono q3), fun d hd => ?_⟩
            subst hd
            exact ret_owns p1 p4 d
          | panicked ch => exact he
          | outgrown => exact he
      obtain ⟨pb1, rv, ob', hev1, rfl, fin⟩ := key
      refine ⟨rfl, ?_⟩
      generalize hfe : a.eval f = fv at hfr0
      cases hfr0 with
      | fn _ _ fid us hfid hul hur =>
        refine .inl ?_
        have hrun : ∀ w, (execOp a.eval o).run T.P w = .ok (.enter fid (c.args.map a.eval ++ us)) w := by
          intro w
          have := hT fid g hfid (c.args.map a.eval ++ us) w
          simp only [execOp, ho, resolve, hcal, hfe, Deferred.ofValue, Sem.run_bind, Sem.run_pure, Result.andThen_ok, invoke, Array.empty_append, Array.append_empty]
          exact this
        have hA : ArgsOk T ((m.ren r).ren (kap st.sl.length)) (vs ++ cap) (c.args.map a.eval ++ us) := by
          refine ⟨by simp [r5, hul], fun j lv hj => ?_⟩
          by_cases hlt : j < vs.length
          · rw [List.getElem?_append_left hlt] at hj
            have q := hAv j lv hj
            have e : ((c.args.map a.eval).getD j undef) = (c.args.map a.eval ++ us).getD j undef := by
              have hlen : vs.length = c.args.size := by simpa using r5
              have hlt' : j < c.args.size := by omega
              simp [Array.getD_eq_getD_getElem?, Array.getElem?_append, hlt']
            rw [e] at q; exact q
          · rw [List.getElem?_append_right (by omega)] at hj
            have e : (c.args.map a.eval ++ us).getD j undef = us.getD (j - vs.length) undef := by
              have : c.args.size = vs.length := by rw [r5]; simp
              simp only [Array.getD_eq_getD_getElem?, Array.getElem?_append, Array.size_map]
              rw [if_neg (by omega), this]
            rw [e]
            refine ⟨((hur _ lv hj).mono (le_ren m r r1.imm)).mono (le_ren _ _ (fun _ => rfl)), Owns.of_ownless ?_⟩
            rw [List.all_eq_true] at hown
            exact hown _ (List.mem_of_getElem? hj)
        exact ⟨fid, _, hrun _, Calls.mono (hev.call g _ _ _ _ _ hev1 (by rw [noLs_append]; simp [hl1, hl2]) fid ((m.ren r).ren (kap st.sl.length)) _ hfid hG1 hA (FR.objs r3)) fin⟩
      | yld id hid =>
        refine .inr ?_
        have hA : ArgsOk T ((m.ren r).ren (kap st.sl.length)) vs (c.args.map a.eval) := ⟨by simp [r5], hAv⟩
        have hy := hev.yld vs id _ _ _ _ hev1 hl1 ((m.ren r).ren (kap st.sl.length)) (c.args.map a.eval)
        obtain ⟨fn, tmps, assign, body, y1, _⟩ := hy 0 hG1 hA (FR.objs r3)
        refine ⟨m.ob id, fn, tmps, assign, body, ?_, fun k => ?_⟩
        · have y1' : (Instr.yield (m.ob id) (c.args.map a.eval)).run T.P m.w = _ := y1
          simp only [execOp, ho, resolve, hcal, hfe, Deferred.ofValue, Sem.run_bind, Sem.run_pure, Result.andThen_ok, invoke, Array.empty_append, Array.append_empty]
          exact y1'
        · obtain ⟨fn2, tmps2, assign2, body2, y2, y3⟩ := hy k hG1 hA (FR.objs r3)
          rw [y1] at y2
          injection y2 with y2 _
          injection y2 with _ e1 e2 e3 e4
          subst e1; subst e2; subst e3; subst e4
          exact y3.mono fin
    · cases h2
  · cases hv
end
end Tree

set_option autoImplicit false
set_option linter.unusedVariables false
set_option linter.unusedSimpArgs false
namespace Tree
open Go

/-- What holds behind it. -/
def After (T : Tab) (pb : Nat) (st' : St) (a : Act) (m : Mem) (K : Act → World → Prop) : Prop :=
  ∀ (a' : Act) (m' : Mem), Post pb m m' → FR T st' a'.tmps m' → a'.defers = a.defers → K a' m'.w

/-- The fences of which we speak: all is let in; in a round, or not. -/
def FOk (F : Fence) : Prop := F = Fence.wide ∨ ∃ l, F = Fence.wide.inRound l
theorem FOk.fn {F : Fence} (h : FOk F) (f : FuncId) : F.fn f := by
  rcases h with rfl | ⟨l, rfl⟩ <;> exact trivial
theorem FOk.dep {F : Fence} (h : FOk F) : ¬ (F.depth.isSome = true) := by
  rcases h with rfl | ⟨l, rfl⟩ <;> simp [Fence.wide]
theorem FOk.calls {F : Fence} (h : FOk F) {n : Nat} {P : Program} {f : FuncId} {args : Array Value} {w : World} {R : Ending → World → Prop} (hc : Calls P f args w R) : CallsIn F n P f args w R := by
  rcases h with rfl | ⟨l, rfl⟩
  · exact callsIn_wide.2 hc
  · exact CallsIn.inRound l (callsIn_wide.2 hc)
theorem FOk.round {F : Fence} (h : FOk F) {n l : Nat} {P : Program} {f : FuncId} {tmps : Array Value} {x y : Code} {w : World} {R : Ending → World → Prop} (hc : RoundIn Fence.wide n P l f tmps x y w R) : RoundIn F n P l f tmps x y w R := by
  rcases h with rfl | ⟨l, rfl⟩ <;> exact hc
theorem FOk.wpIn {F : Fence} (h : FOk F) {n : Nat} {P : Program} {o : Oper} {a : Act} {w : World} {K : Act → World → Prop} {Q : Exit → Act → World → Prop} (hd : ∀ c, o.op ≠ .defer c)
    (hu : o.uponIn F n P a K Q ((execOp a.eval o).run P w)) : o.wpIn F n P a w K Q :=
  ⟨fun f _ => h.fn f, by rw [Oper.semAt_eq _ _ _ hd]; exact hu⟩
section
variable {T : Tab} {E : Env} {ev : Ev} {pb : Nat} {st st1 : St} {a : Act} {dst : Option Nat} {m : Mem} {lv : LV} {note : Option Place} {o : Oper}

theorem FR.noted {tmps : Array Value} {d : Nat} {p : Place} {v : Value} (hput : FR T (st1.put (some d) lv) (tmps.setIfInBounds d v) m) (hn : NoteOk tmps m st1 p lv v) : FR T ((st1.put (some d) lv).note (some d) p) (tmps.setIfInBounds d v) m := by
  simp only [St.note]
  split
  · exact hput
  · rename_i hne
    obtain ⟨⟨u, h1, h2⟩, h3⟩ := hn
    have hreal : (st1.put (some d) lv).real p := by
      refine ⟨h3.1, fun s i e => ?_⟩
      obtain ⟨cs, hcs⟩ := h3.2 s i e
      have hsd : d ≠ s := fun e' => hne (by rw [e, e'])
      refine ⟨cs, ?_⟩
      simp only [St.put, set_get?, if_neg hsd]
      exact kill_box.2 hcs
    refine ⟨hput.size, hput.n, fun t q htq => ?_, fun t lv' ht => ?_, hput.box, hput.obj, fun q l z xs sp hq => ?_, fun t q htq => ?_⟩
    · simp only at htq
      split at htq
      · injection htq with htq; subst htq; exact hreal
      · exact hput.alo t q htq
    · obtain ⟨w, g1, g2⟩ := hput.val t lv' ht
      exact ⟨w, g1, VRep.st g2 (fun _ h => h)⟩
    · exact hput.own q l z xs sp (by rw [← hq]; obtain ⟨root, c⟩ := q; cases root <;> cases c <;> rfl)
    · simp only at htq
      split at htq
      · rename_i etd; subst etd
        injection htq with htq; subst htq
        refine ⟨u, (RAt_set_other hne).2 h1, fun o l z xs sp w k1 k2 => ?_⟩
        simp only [St.put, set_get?, if_true] at k1
        split at k1
        · injection k1 with k1; injection k1 with k1
          have hlv : lv = .sl o l z xs sp := by
            cases lv <;> simp only [LV.notOf] at k1 <;> first | exact k1 | skip
            split at k1 <;> cases k1
          have hw : w = v := by
            simp only [aset_get?, if_true] at k2
            split at k2
            · injection k2 with k2; exact k2.symm
            · cases k2
          subst hw
          exact h2 o l z xs sp hlv
        · cases k1
      · exact hput.al t q htq

theorem after_value {v : Value} {m' : Mem} {K : Act → World → Prop} (hP : Post pb m m') (hfr : FR T st1 a.tmps m') (hv : VRep T st1 a.tmps m' lv v) (ho : ∀ d, dst = some d → Owns m' lv v (fun c => .tail ⟨.slot d, c⟩)) (hn : ∀ p, note = some p → NoteOk a.tmps m' st1 p lv v)
    (hK : After T pb (match note with | none => st1.put dst lv | some p => (st1.put dst lv).note dst p) a m K) : K (a.put dst v) m'.w := by
  cases dst with
  | none =>
    refine hK _ m' hP ?_ rfl
    cases note <;> exact hfr
  | some d =>
    have hput := hfr.put d hv (ho d rfl)
    refine hK _ m' hP ?_ rfl
    cases note with
    | none => exact hput
    | some p => exact hput.noted (hn p rfl)

theorem storeR_store {r : Option Nat} {sz : Nat} {p x : Opd} {q : LV × St × Option Place} (h : valOp E ev pb st dst (.storeR r sz p x) = some q) : valOp E ev pb st dst (.store sz p x) = some q := by
  simp only [valOp] at h ⊢
  obtain ⟨v, h1, h2⟩ := Option.bind_eq_some_iff.1 h
  rw [h1]; simp only [Option.bind_some]
  split at h2
  · exact h2
  · cases h2
theorem chkOp_defer {o : Oper} {t : TOp} (h : chkOp T o t = true) (hf : t ≠ .fail) (c : Call) : o.op ≠ .defer c := by
  intro e
  unfold chkOp at h
  rw [Bool.or_eq_true] at h
  rcases h with h | h
  · cases t <;> simp [TOp.isFail] at h
    exact hf rfl
  · unfold chkOp0 at h
    rw [e] at h
    cases t <;> simp at h
theorem step_sound {F : Fence} {k : Nat} (hF : FOk F) {Q : Exit → Act → World → Prop} {K : Act → World → Prop} {ops : Array Oper} {t : TOper} {st' : St} (hT : TabOk T) (hE : EqOk T) (hev : EvOk T E ev) (h : FR T st a.tmps m) (hG : Globs T E.gl m) (hc : chkOper T ops o t = true) (hs : stepOp E ev pb t st = some st') (hK : After T pb st' a m K) :
    if Region.wanted o (yielded ops a.tmps) then o.wpIn F k T.P a m.w K Q else (∀ f, o.about T.P m.w a.eval = some f → F.fn f) ∧ K (a.put o.dst undef) m.w := by
  obtain ⟨dst', top, guard⟩ := t
  simp only [chkOper, Bool.and_eq_true, beq_iff_eq] at hc
  obtain ⟨⟨hd, hg⟩, hop⟩ := hc
  subst hd
  -- the guard
  have hguard : ∀ b : Bool, guardE st guard = some b → Region.wanted o (yielded ops a.tmps) = b := by
    intro b hb
    cases hog : o.guard with
    | none =>
      cases guard with
      | none => simp only [guardE, Option.some.injEq] at hb; simp [Region.wanted, hog, ← hb]
      | some g => rw [hog] at hg; simp [chkGuard] at hg
    | some jw =>
      obtain ⟨j, want⟩ := jw
      cases guard with
      | none => rw [hog] at hg; simp [chkGuard] at hg
      | some g =>
        obtain ⟨t, b'⟩ := g
        rw [hog] at hg
        simp only [chkGuard, Bool.and_eq_true, beq_iff_eq] at hg
        obtain ⟨rfl, hj⟩ := hg
        simp only [guardE] at hb
        split at hb
        · rename_i c hsl
          injection hb with hb
          obtain ⟨v, h1, h2⟩ := h.val t _ hsl
          cases (show Rep T m (.bool c) v from h2)
          simp [Region.wanted, hog, yielded, hj, h1, hb]
        · rename_i hsl
          injection hb with hb
          obtain ⟨v, h1, h2⟩ := h.val t _ hsl
          cases (show Rep T m (.tup []) v from h2) with
          | tup _ vs hl _ => simp [Region.wanted, hog, yielded, hj, h1, ← hb]
        · cases hb
  unfold stepOp at hs
  simp only at hs
  split at hs
  · -- wanted
    rename_i hw
    rw [hguard true hw, if_pos rfl]
    obtain ⟨⟨lv, st1, note⟩, hv, hst⟩ := Option.map_eq_some_iff.1 hs
    have hnd : ∀ c, o.op ≠ .defer c := chkOp_defer hop (fun e => by rw [e] at hv; cases hv)
    simp only [doneE] at hst
    cases hpl : top.isPlain with
    | true =>
      have hbox : top.isBox = false := by cases top <;> simp [TOp.isPlain] at hpl <;> rfl
      rw [hbox] at hst
      obtain ⟨v, m', p1, p2, p3, p4, p5, p6⟩ := chkOp_sound hE h hG hop hpl hv
      refine hF.wpIn hnd ?_
      rw [p2, Oper.uponIn_value]
      refine after_value p1 p3 p4 p5 p6 ?_
      cases note <;> (simp only at hst ⊢; rw [hst]; exact hK)
    | false =>
      unfold chkOp at hop
      rw [Bool.or_eq_true] at hop
      rcases hop with hop | hop
      · cases top <;> simp [TOp.isFail] at hop
        simp [TOp.isPlain] at hpl
      unfold chkOp0 at hop
      dsimp only at hop
      split at hop <;> rename_i hoo <;> try (simp [TOp.isPlain] at hpl; done)
      · -- alloc, box
        simp only [Bool.and_eq_true] at hop
        obtain ⟨h1, h2⟩ := hop
        obtain ⟨d, hd⟩ := Option.isSome_iff_exists.1 h2
        rw [hd] at hv hst
        obtain ⟨u, g1, g2⟩ := run_alloc (T := T) (a := a) hoo h1
        obtain ⟨m', p1, p2, p3⟩ := op_box h hG g2 ⟨_, g1, rfl⟩ hv
        refine hF.wpIn hnd ?_
        rw [p2, Oper.uponIn_value, hd]
        refine hK _ m' p1 ?_ rfl
        simp only [TOp.isBox] at hst
        rw [← hst]; exact p3
      · simp only [Bool.and_eq_true] at hop
        obtain ⟨⟨h1, _⟩, h2⟩ := hop
        obtain ⟨d, hd⟩ := Option.isSome_iff_exists.1 h2
        rw [hd] at hv hst
        obtain ⟨m', p1, p2, p3⟩ := op_box h hG (run_box (T := T) (a := a) hoo) ⟨_, h1, rfl⟩ hv
        refine hF.wpIn hnd ?_
        rw [p2, Oper.uponIn_value, hd]
        refine hK _ m' p1 ?_ rfl
        simp only [TOp.isBox] at hst
        rw [← hst]; exact p3
      · simp only [Bool.and_eq_true, beq_iff_eq, Option.isNone_iff_eq_none] at hop
        obtain ⟨⟨⟨h1, h2⟩, h3⟩, h4⟩ := hop
        rw [h4] at hv hst
        obtain ⟨rfl, rfl, m', p1, p2, p3⟩ := op_store h hG hoo h1 h2 h3 (storeR_store hv)
        refine hF.wpIn hnd ?_
        rw [p2, Oper.uponIn_skip, h4]
        refine hK _ m' p1 ?_ rfl
        simp only [TOp.isBox, St.put] at hst
        rw [← hst]; exact p3
      · simp only [Bool.and_eq_true, beq_iff_eq, Option.isNone_iff_eq_none] at hop
        obtain ⟨⟨⟨h1, h2⟩, h3⟩, h4⟩ := hop
        rw [h4] at hv hst
        obtain ⟨rfl, rfl, m', p1, p2, p3⟩ := op_store h hG hoo h1 h2 h3 hv
        refine hF.wpIn hnd ?_
        rw [p2, Oper.uponIn_skip, h4]
        refine hK _ m' p1 ?_ rfl
        simp only [TOp.isBox, St.put] at hst
        rw [← hst]; exact p3
      · simp only [Bool.and_eq_true, Option.isNone_iff_eq_none] at hop
        obtain ⟨⟨⟨⟨h4, h1⟩, h2⟩, h3⟩, h5⟩ := hop
        rw [h4] at hv hst
        split at h5
        · rename_i k e e1
          obtain ⟨rfl, rfl, m', p1, p2, p3⟩ := op_mapSet hE h hG (.inl hoo) h1 h2 h3 e1 h5 hv
          refine hF.wpIn hnd ?_
          rw [p2, Oper.uponIn_skip, h4]
          refine hK _ m' p1 ?_ rfl
          simp only [TOp.isBox, St.put] at hst
          rw [← hst]; exact p3
        · cases h5
      · simp only [Bool.and_eq_true, Option.isNone_iff_eq_none] at hop
        obtain ⟨⟨⟨⟨h4, h1⟩, h2⟩, h3⟩, h5⟩ := hop
        rw [h4] at hv hst
        split at h5
        · rename_i k e e1
          obtain ⟨rfl, rfl, m', p1, p2, p3⟩ := op_mapSet hE h hG (.inr hoo) h1 h2 h3 e1 h5 hv
          refine hF.wpIn hnd ?_
          rw [p2, Oper.uponIn_skip, h4]
          refine hK _ m' p1 ?_ rfl
          simp only [TOp.isBox, St.put] at hst
          rw [← hst]; exact p3
        · cases h5
      · simp only [Bool.and_eq_true, Option.isNone_iff_eq_none] at hop
        obtain ⟨⟨⟨h4, h1⟩, h2⟩, h3⟩ := hop
        rw [h4] at hv hst
        obtain ⟨rfl, rfl, m', p1, p2, p3⟩ := op_entPut h hG hoo h1 h2 h3 hv
        refine hF.wpIn hnd ?_
        rw [p2, Oper.uponIn_skip, h4]
        refine hK _ m' p1 ?_ rfl
        simp only [TOp.isBox, St.put] at hst
        rw [← hst]; exact p3
      · split at hop <;> try (simp [TOp.isPlain] at hpl; done)
        · rename_i hcal
          simp only [Bool.and_eq_true] at hop
          obtain ⟨rfl, ⟨fid, vals, p1, p2⟩ | ⟨l, fn, tmps, assign, body, p1, p2⟩⟩ := op_call hT hev h hG hoo hcal hop.1 hop.2 hv
          · refine hF.wpIn hnd ?_
            rw [p1, Oper.uponIn_enter]
            refine ⟨fun e => absurd e hF.dep, hF.calls (Calls.mono p2 (fun e w' he => ?_))⟩
            cases e with
            | returned v =>
              obtain ⟨m2, rfl, q1, q2, q3, q4⟩ := he
              refine after_value (note := none) q1 q2 q3 q4 (fun p hp => by cases hp) ?_
              simp only [TOp.isBox] at hst
              simp only
              rw [hst]; exact hK
            | panicked ch => exact he.elim
            | outgrown => exact he.elim
          · refine hF.wpIn hnd ?_
            rw [p1, Oper.uponIn_round]
            refine ⟨fun e => absurd e hF.dep, hF.round ((p2 (k - 1)).mono (fun e w' he => ?_))⟩
            cases e with
            | returned v =>
              obtain ⟨m2, rfl, q1, q2, q3, q4⟩ := he
              refine after_value (note := none) q1 q2 q3 q4 (fun p hp => by cases hp) ?_
              simp only [TOp.isBox] at hst
              simp only
              rw [hst]; exact hK
            | panicked ch => exact he.elim
            | outgrown => exact he.elim
        · cases hop
      · cases hop
  · rename_i hw
    rw [hguard false hw, if_neg (by simp)]
    injection hs with hs
    refine ⟨fun f _ => hF.fn f, ?_⟩
    refine after_value (pb := pb) (note := none) (lv := .tup []) (v := undef) (Post.refl _ _) h (Rep.tup [] #[] rfl (fun i lv hi => by simp at hi)) (fun _ _ => trivial) (fun p hp => by cases hp) ?_
    simp only
    rw [hs]; exact hK
  · cases hs
end
end Tree

set_option autoImplicit false
set_option linter.unusedVariables false
set_option linter.unusedSimpArgs false
namespace Tree
open Go
section
variable {T : Tab} {E : Env} {ev : Ev} {pb : Nat} {st st1 : St} {a : Act} {m : Mem}

theorem keepGo_get (live : List Nat) : ∀ (l : List Slot) (k t : Nat), (keepGo live k l)[t]? = (l[t]?).map fun x => if live.contains (k + t) then (match x with | .val (.laddr _ _) => .val .undef | _ => x) else .val .undef
  | [], k, t => by simp [keepGo]
  | x :: r, k, t => by
    cases t with
    | zero =>
      cases x with
      | box cs => simp [keepGo]
      | val v => cases v <;> simp [keepGo]
    | succ t =>
      simp only [keepGo, List.getElem?_cons_succ]
      rw [keepGo_get live r (k + 1) t, show k + 1 + t = k + (t + 1) by omega]
theorem keepGo_length (live : List Nat) : ∀ (l : List Slot) (k : Nat), (keepGo live k l).length = l.length
  | [], k => rfl
  | x :: r, k => by simp [keepGo, keepGo_length live r]
theorem keep_box {live : List Nat} {t : Nat} {cs : List LV} (h : (st.keep live).sl[t]? = some (Slot.box cs)) : st.sl[t]? = some (Slot.box cs) := by
  simp only [St.keep, keepGo_get] at h
  obtain ⟨x, h1, h2⟩ := Option.map_eq_some_iff.1 h
  split at h2
  · split at h2
    · cases h2
    · rw [h1, h2]
  · cases h2
theorem keep_val {live : List Nat} {t : Nat} {lv : LV} (h : (st.keep live).sl[t]? = some (Slot.val lv)) : (lv = .undef ∧ t < st.sl.length) ∨ (st.sl[t]? = some (Slot.val lv) ∧ ∀ s o, lv ≠ .laddr s o) := by
  simp only [St.keep, keepGo_get] at h
  obtain ⟨x, h1, h2⟩ := Option.map_eq_some_iff.1 h
  have hlt := (List.getElem?_eq_some_iff.1 h1).1
  split at h2
  · split at h2
    · injection h2 with h2; exact .inl ⟨h2.symm, hlt⟩
    · rename_i hn
      subst h2
      exact .inr ⟨h1, fun s o e => hn s o (by rw [e])⟩
  · injection h2 with h2; exact .inl ⟨h2.symm, hlt⟩
theorem FR.keep (h : FR T st a.tmps m) (live : List Nat) : FR T (st.keep live) a.tmps m := by
  refine ⟨by rw [h.size]; exact (keepGo_length live st.sl 0).symm, h.n, fun t p htp => (by cases htp), fun t lv ht => ?_, fun t cs ht => h.box t cs (keep_box ht), h.obj, fun p l z xs sp hp => ?_, fun t p htp => (by cases htp)⟩
  · rcases keep_val ht with ⟨rfl, hlt⟩ | ⟨h1, h2⟩
    · exact ⟨_, tmps_get h hlt, Rep.undef _⟩
    · obtain ⟨v, g1, g2⟩ := h.val t lv h1
      exact ⟨v, g1, VRep.of_rep (g2.rep h2)⟩
  · refine h.own p l z xs sp ?_
    obtain ⟨root, c⟩ := p
    cases root with
    | obj id => cases c <;> exact hp
    | slot t =>
      cases c with
      | none =>
        simp only [St.at] at hp ⊢
        split at hp
        · rename_i v hv
          injection hp with hp; subst hp
          rcases keep_val hv with ⟨e, _⟩ | ⟨h1, _⟩
          · cases e
          · rw [h1]
        · cases hp
      | some i =>
        simp only [St.at] at hp ⊢
        split at hp
        · rename_i cs hv
          rcases keep_val hv with ⟨e, _⟩ | ⟨h1, _⟩
          · cases e
          · rw [h1]; exact hp
        · rename_i cs hv
          rw [keep_box hv]; exact hp
        · cases hp
theorem FR.noAl (h : FR T st a.tmps m) : FR T { st with al := fun _ => none } a.tmps m := by
  refine ⟨h.size, h.n, fun t p htp => (by cases htp), fun t lv ht => ?_, h.box, h.obj, fun p l z xs sp hp => h.own p l z xs sp ?_, fun t p htp => (by cases htp)⟩
  · obtain ⟨v, g1, g2⟩ := h.val t lv ht
    exact ⟨v, g1, VRep.st g2 (fun _ h => h)⟩
  · rw [← hp]; obtain ⟨root, c⟩ := p; cases root <;> cases c <;> rfl


theorem ops_sound {F : Fence} {k : Nat} (hF : FOk F) {Q : Exit → Act → World → Prop} {ops : Array Oper} (hT : TabOk T) (hE : EqOk T) (hev : EvOk T E ev) : ∀ (os : List Oper) (ts : List TOper) {st st' : St} {a : Act} {m : Mem}, FR T st a.tmps m → Globs T E.gl m → chkOps T ops os ts = true → runOps E ev pb ts st = some st' →
    (∀ (a' : Act) (m' : Mem), Post pb m m' → FR T st' a'.tmps m' → a'.defers = a.defers → Q .normal a' m'.w) → wpListIn F k T.P ops Q os a m.w
  | [], [], st, st', a, m, h, hG, hc, hr, hQ => by
    simp only [runOps, Option.some.injEq] at hr; subst hr
    exact wpListIn_nil (hQ a m (Post.refl _ _) h rfl)
  | [], _ :: _, st, st', a, m, h, hG, hc, hr, hQ => by simp [chkOps] at hc
  | _ :: _, [], st, st', a, m, h, hG, hc, hr, hQ => by simp [chkOps] at hc
  | o :: os, t :: ts, st, st', a, m, h, hG, hc, hr, hQ => by
    simp only [chkOps, Bool.and_eq_true] at hc
    simp only [runOps] at hr
    obtain ⟨st2, h1, h2⟩ := Option.bind_eq_some_iff.1 hr
    refine wpListIn_step fun K hK => ?_
    refine step_sound hF hT hE hev h hG hc.1 h1 (fun a' m' hp hf hd => hK a' m'.w ?_)
    exact ops_sound hF hT hE hev os ts hf (hG.mono hp.le) hc.2 h2 (fun a'' m'' hp' hf' hd' => hQ a'' m'' (hp.trans hp') hf' (hd'.trans hd))
end
end Tree

set_option autoImplicit false
set_option linter.unusedVariables false
set_option linter.unusedSimpArgs false
namespace Tree
open Go

def chkRes (P : Program) : ResultVar → RVar → Bool
  | .tmp t, .tmp u => t == u
  | .cell t ty, .cell u agg sz => t == u && isAggB P ty == some agg && sizeB P ty == some sz
  | _, _ => false
def chkRess (P : Program) : List ResultVar → List RVar → Bool
  | [], [] => true
  | x :: xs, y :: ys => chkRes P x y && chkRess P xs ys
  | _, _ => false
/-- Where a single result's right goes. -/
def retRen : RVar → Kd → Kd
  | .tmp t, .tail ⟨.slot s, c⟩ => if s = t then .res c else .tail ⟨.slot s, c⟩
  | .cell t _ _, .tail ⟨.slot s, some i⟩ => if s = t ∧ i = 0 then .res none else .tail ⟨.slot s, some i⟩
  | _, k => k

section
variable {T : Tab} {E : Env} {ev : Ev} {pb : Nat} {st st1 : St} {a : Act} {m : Mem}

def resSem (tmps : Array Value) : ResultVar → Sem Value
  | .tmp t => pure (tmps.getD t undef)
  | .cell a t => do loadVar t (← asAddr (tmps.getD a undef))
theorem tmps_at (h : FR T st a.tmps m) {t : Nat} {v : Value} (ht : a.tmps[t]? = some v) : a.tmps.getD t undef = v := by simp [Array.getD_eq_getD_getElem?, ht]

theorem retRen_ok (x : RVar) : RenOk pb (retRen x) := by
  cases x <;> exact ⟨rfl, fun _ => rfl, fun _ => rfl, fun _ => rfl, fun _ _ _ => rfl⟩

theorem result_sound (h : FR T st a.tmps m) {x : ResultVar} {y : RVar} {lv : LV} (hc : chkRes T.P x y = true) (hr : resultE st y = some lv) :
    ∃ u, (resSem a.tmps x).run T.P m.w = .ok u m.w ∧ (lv.noL = true → Rep T m lv u) ∧ Owns (m.ren (retRen y)) lv u (fun c => .res c) := by
  cases y with
  | tmp t =>
    cases x with
    | cell t' ty => simp [chkRes] at hc
    | tmp t' =>
      simp only [chkRes, beq_iff_eq] at hc; subst hc
      simp only [resultE] at hr
      split at hr
      · rename_i v hv
        injection hr with hr; subst hr
        obtain ⟨u, h1, h2⟩ := h.val _ _ hv
        refine ⟨u, by simp [resSem, tmps_at h h1], fun hn => h2.rep (noL_laddr hn), ?_⟩
        cases v with
        | sl o l z xs sp => cases o with
          | false => trivial
          | true =>
            obtain ⟨w, g1, g2⟩ := h.own ⟨.slot t', none⟩ l z xs sp (by simp [St.at, hv])
            simp only [RAt] at g1
            rw [h1] at g1; injection g1 with g1; subst g1
            have := g2.ren (retRen (.tmp t'))
            simp only [retRen, if_true] at this
            exact this
        | agg cs =>
          intro vs hvs i l z xs sp hi
          subst hvs
          obtain ⟨w, g1, g2⟩ := h.own ⟨.slot t', some i⟩ l z xs sp (by simp [St.at, hv, hi])
          have e : w = vs.getD i undef := by
            rcases g1 with ⟨vs', k1, k2⟩ | ⟨b, k1, k2⟩
            · rw [h1] at k1; injection k1 with k1; injection k1 with k1; subst k1
              simp [Array.getD_eq_getD_getElem?, k2]
            · rw [h1] at k1; injection k1 with k1; cases k1
          subst e
          have := g2.ren (retRen (.tmp t'))
          simp only [retRen, if_true] at this
          exact this
        | _ => trivial
      · cases hr
  | cell t agg sz =>
    cases x with
    | tmp t' => simp [chkRes] at hc
    | cell t' ty =>
      simp only [chkRes, Bool.and_eq_true, beq_iff_eq] at hc
      obtain ⟨⟨rfl, ha⟩, hs⟩ := hc
      simp only [resultE] at hr
      split at hr
      · rename_i cs hv
        obtain ⟨b, h1, h2⟩ := h.box _ _ hv
        have hrun : ∀ u, (loadVar ty ⟨b, 0, none⟩).run T.P m.w = .ok u m.w → (resSem a.tmps (.cell t' ty)).run T.P m.w = .ok u m.w := by
          intro u hu; simp [resSem, tmps_at h h1, asAddr, hu]
        cases agg with
        | true =>
          simp only [if_true] at hr
          obtain ⟨v, h3, rfl⟩ := Option.map_eq_some_iff.1 hr
          obtain ⟨u, k1, k2⟩ := read_sound (m := m) (b := b) (base := 0) ha hs (block_cells h2) h3
          exact ⟨u, hrun u (by simpa using k1), fun _ => k2.bare, Owns.of_ownless (bare_ownless _)⟩
        | false =>
          simp only [Bool.false_eq_true, if_false] at hr
          obtain ⟨u, k1, k2⟩ := read_sound (m := m) (b := b) (base := 0) ha hs (block_cells h2) hr
          refine ⟨u, hrun u (by simpa using k1), fun _ => k2, ?_⟩
          simp only [partE, Bool.false_eq_true, if_false] at hr
          cases lv with
          | sl o l z xs sp => cases o with
            | false => trivial
            | true =>
              obtain ⟨w, g1, g2⟩ := h.own ⟨.slot t', some 0⟩ l z xs sp (by simp only [St.at, hv]; exact hr)
              rcases g1 with ⟨vs', q1, q2⟩ | ⟨b', q1, q2⟩
              · rw [h1] at q1; injection q1 with q1; cases q1
              · rw [h1] at q1; injection q1 with q1; injection q1 with q1; injection q1 with q1; injection q1 with q1; subst q1
                have h0 : (loadVar ty ⟨b, 0, none⟩).run T.P m.w = .ok w m.w := by
                  unfold loadVar; simp only [Sem.run_bind, runA ha, Result.andThen_ok]; simp [q2]
                have k1' : (loadVar ty ⟨b, 0, none⟩).run T.P m.w = .ok u m.w := by simpa using k1
                rw [k1'] at h0; injection h0 with h0; subst h0
                have := g2.ren (retRen (.cell t' false sz))
                simp only [retRen, true_and, if_true] at this
                exact this
          | agg cs' =>
            -- a cell holds no struct
            exfalso
            obtain ⟨vs, ty', k3, k4, k5, k6⟩ := h2
            obtain ⟨c1, c2⟩ := k6 0 _ hr
            generalize vs.getD 0 undef = z at c1 c2
            cases c2; simp [Value.oneCell'] at c1
          | _ => trivial
      · rename_i l cs hv
        obtain ⟨v, h3, rfl⟩ := Option.map_eq_some_iff.1 hr
        obtain ⟨u0, h1, h2⟩ := h.val _ _ hv
        have h2' : Rep T m (.iptr l cs 0) u0 := h2
        cases h2' with
        | iptr _ _ _ b base val hm hr' =>
          obtain ⟨u, k1, k2⟩ := read_sound (m := m) (b := b) (base := base) ha hs (fun j lv hj => ⟨val j, (hm j lv hj).2.1, hr' j lv hj⟩) h3
          refine ⟨u, ?_, fun _ => k2.bare, Owns.of_ownless (bare_ownless _)⟩
          simp [resSem, tmps_at h h1, asAddr]
          simpa using k1
      · rename_i id hv
        obtain ⟨cs, hcs, h3⟩ := Option.bind_eq_some_iff.1 hr
        split at h3
        · cases h3
        · rename_i hmc
          obtain ⟨v, h4, rfl⟩ := Option.map_eq_some_iff.1 h3
          obtain ⟨u0, h1, h2⟩ := h.val _ _ hv
          have h2' : Rep T m (.optr id 0) u0 := h2
          have hb := (h.obj id cs hcs).cells (by simpa using hmc)
          cases h2' with
          | optr _ _ hid =>
            obtain ⟨u, k1, k2⟩ := read_sound (m := m) (b := m.ob id) (base := 0) ha hs (block_cells hb) h4
            refine ⟨u, ?_, fun _ => k2.bare, Owns.of_ownless (bare_ownless _)⟩
            simp [resSem, tmps_at h h1, asAddr]
            simpa using k1
      · cases hr

theorem results_sound (h : FR T st a.tmps m) : ∀ (xs : List ResultVar) (ys : List RVar) (vs : List LV), chkRess T.P xs ys = true → resultsE st ys = some vs → LV.noLs vs = true →
    ∃ us : List Value, (xs.mapM (resSem a.tmps)).run T.P m.w = .ok us m.w ∧ us.length = vs.length ∧ vs.length = ys.length ∧ (∀ (i : Nat) (lv : LV), vs[i]? = some lv → Rep T m lv (us.getD i undef)) ∧
      ∀ y, ys = [y] → ∀ lv, vs = [lv] → Owns (m.ren (retRen y)) lv (us.getD 0 undef) (fun c => .res c)
  | [], [], vs, hc, hr, hn => by
    simp only [resultsE, Option.some.injEq] at hr; subst hr
    exact ⟨[], by simp [List.mapM_nil], rfl, rfl, fun i lv hi => by simp at hi, fun y hy => by cases hy⟩
  | [], _ :: _, vs, hc, hr, hn => by simp [chkRess] at hc
  | _ :: _, [], vs, hc, hr, hn => by simp [chkRess] at hc
  | x :: xs, y :: ys, vs, hc, hr, hn => by
    simp only [chkRess, Bool.and_eq_true] at hc
    simp only [resultsE] at hr
    obtain ⟨v, h1, h2⟩ := Option.bind_eq_some_iff.1 hr
    obtain ⟨ws, h3, rfl⟩ := Option.map_eq_some_iff.1 h2
    simp only [LV.noLs, Bool.and_eq_true] at hn
    obtain ⟨u, g1, g2, g3⟩ := result_sound h hc.1 h1
    obtain ⟨us, k1, k2, k2', k3, _⟩ := results_sound h xs ys ws hc.2 h3 hn.2
    refine ⟨u :: us, by simp [List.mapM_cons, g1, k1], by simp [k2], by simp [k2'], fun i lv hi => ?_, fun y' hy lv hl => ?_⟩
    · cases i with
      | zero => simp at hi; subst hi; simpa using g2 hn.1
      | succ i => simpa using k3 i lv (by simpa using hi)
    · injection hy with hy _; injection hl with hl _
      subst hy; subst hl
      simpa using g3
end
end Tree
