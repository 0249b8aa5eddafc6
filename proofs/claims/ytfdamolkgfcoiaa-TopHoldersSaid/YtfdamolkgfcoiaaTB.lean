/- A part of the interpreter over trees and of its proof. -/
import Derived.Test.YtfdamolkgfcoiaaTA
import Derived.Laws.Tables
set_option autoImplicit false
set_option linter.unusedVariables false
set_option linter.unusedSimpArgs false
namespace Tree
open Go

section
variable {P : Program} {w : World}
theorem runU {t : TypeId} {d : TypeDesc} (h : P.underlying t = some d) : (underlying t).run P w = .ok d w := by simp [underlying, h]
theorem runA {t : TypeId} {b : Bool} (h : isAggB P t = some b) : (isAgg t).run P w = .ok b w := by
  unfold isAggB at h
  cases hu : P.underlying t with
  | none => rw [hu] at h; cases h
  | some d =>
    rw [hu] at h
    unfold isAgg
    simp only [Sem.run_bind, runU hu, Result.andThen_ok]
    cases d <;> simp at h <;> subst h <;> rfl
theorem runS {t : TypeId} {n : Nat} (h : sizeB P t = some n) : (Go.sizeOf t).run P w = .ok n w := by
  unfold sizeB at h
  obtain ⟨i, hi, rfl⟩ := Option.map_eq_some_iff.1 h
  simp [Go.sizeOf, typeInfo, hi]
theorem runI {t : TypeId} {i : TypeInfo} (h : P.info? t = some i) : (typeInfo t).run P w = .ok i w := by simp [typeInfo, h]
theorem runZ {t : TypeId} {i : TypeInfo} {v : Value} (h : P.info? t = some i) (hz : i.zero = some v) : (zeroValue t).run P w = .ok v w := by simp [zeroValue, typeInfo, h, hz]
end

theorem Post.le {pb : Nat} {m m' : Mem} (h : Post pb m m') : m.le m' := by
  refine ⟨fun b o l v hc hk => ?_, h.n, h.ob⟩
  have hlt := cell_lt hc
  refine ⟨(h.kind b o hlt (.inr (.inl ⟨l, hk⟩))).trans hk, ?_⟩
  rcases h.keep b hlt with e | ⟨vs, vs', ty, e1, e2, e3, e4⟩ | ⟨es, es', e1, e2, e5, e3⟩
  · rw [← hc]; exact World.cell?_of_block e
  · have := e4 o (.inr (.inl ⟨l, hk⟩))
    simp only [World.cell?, e1] at hc
    simp only [World.cell?, e2, this]
    exact hc
  · rw [nc_cell e1 e5.1] at hc; cases hc

/-- Where a value was read: what its right leans on. -/
def NoteOk (tmps : Array Value) (m : Mem) (st : St) (p : Place) (lv : LV) (v : Value) : Prop :=
  (∃ u, RAt tmps m p u ∧ ∀ (o : Bool) (l z : Nat) (xs sp : List (List LV)), lv = .sl o l z xs sp → ∀ b i, tail z v b i → tail z u b i) ∧ st.real p

/-- What is to be shown of an operation that gives a value. -/
def OpOk (T : Tab) (pb : Nat) (st1 : St) (a : Act) (dst : Option Nat) (m : Mem) (lv : LV) (note : Option Place) (s : Sem Next) : Prop :=
  ∃ v m', Post pb m m' ∧ s.run T.P m.w = .ok (.value v) m'.w ∧ FR T st1 a.tmps m' ∧ VRep T st1 a.tmps m' lv v ∧
    (∀ d, dst = some d → Owns m' lv v (fun c => .tail ⟨.slot d, c⟩)) ∧ ∀ p, note = some p → NoteOk a.tmps m' st1 p lv v
theorem OpOk.pure {T : Tab} {pb : Nat} {st : St} {a : Act} {dst : Option Nat} {m : Mem} {lv : LV} {v : Value} {s : Sem Next} (h : FR T st a.tmps m) (hr : s.run T.P m.w = .ok (.value v) m.w) (hv : VRep T st a.tmps m lv v) (ho : lv.ownless = true) :
    OpOk T pb st a dst m lv none s :=
  ⟨v, m, Post.refl _ _, hr, h, hv, fun _ _ => Owns.of_ownless ho, fun p hp => by cases hp⟩

section
variable {T : Tab} {E : Env} {ev : Ev} {pb : Nat} {st st1 : St} {a : Act} {dst : Option Nat} {m : Mem} {lv : LV} {note : Option Place} {o : Oper}

theorem tmps_get (h : FR T st a.tmps m) {t : Nat} (ht : t < st.sl.length) : a.tmps[t]? = some (a.eval (.tmp t)) := by
  have hlt : t < a.tmps.size := by rw [h.size]; exact ht
  simp [Act.eval, Array.getD_eq_getD_getElem?, hlt]
theorem opd_tmp {x : Operand} {t : Nat} (hc : chkOpd T x (.tmp t) = true) : x = .tmp t := by
  cases x <;> simp [chkOpd] at hc; subst hc; rfl

theorem op_move (h : FR T st a.tmps m) (hG : Globs T E.gl m) {x : Operand} {y : Opd} (ho : o.op = .move x) (hc : chkOpd T x y = true) (hv : valOp E ev pb st dst (.move y) = some (lv, st1, note)) :
    OpOk T pb st1 a dst m lv note (execOp a.eval o) := by
  simp only [valOp] at hv
  obtain ⟨v, h1, h2⟩ := Option.map_eq_some_iff.1 hv
  simp only [Prod.mk.injEq] at h2
  obtain ⟨rfl, rfl, rfl⟩ := h2
  refine ⟨a.eval x, m, Post.refl _ _, by simp [execOp, ho], h, operand_sound h hG hc h1, fun d _ => operand_owns hc h1 _, fun p hp => ?_⟩
  have hp := noteOf_some hp
  cases y with
  | tmp t =>
    injection hp with hp; subst hp
    obtain rfl := opd_tmp hc
    have hlt : t < st.sl.length := by
      simp only [St.operand] at h1
      cases e : st.sl[t]? with
      | none => simp [e] at h1
      | some _ => exact (List.getElem?_eq_some_iff.1 e).1
    exact ⟨⟨a.eval (.tmp t), tmps_get h hlt, fun _ _ _ _ _ _ _ _ ht => ht⟩, (fun id e => by cases e), (fun s i e => by cases e)⟩
  | const c => cases hp
  | glob g => cases hp

theorem op_assign (h : FR T st a.tmps m) (hG : Globs T E.gl m) {x : Operand} {y : Opd} (ho : o.op = .assign x) (hc : chkOpd T x y = true) (hv : valOp E ev pb st dst (.assign y) = some (lv, st1, note)) :
    OpOk T pb st1 a dst m lv note (execOp a.eval o) := by
  simp only [valOp] at hv
  obtain ⟨⟨v, s⟩, h1, h2⟩ := Option.map_eq_some_iff.1 hv
  simp only [Prod.mk.injEq] at h2
  obtain ⟨rfl, rfl, rfl⟩ := h2
  obtain ⟨f, hf⟩ := take_sound h hG hc h1 (fun c => match dst with | some d => .tail ⟨.slot d, c⟩ | none => .res c)
  refine ⟨a.eval x, m.ren f, Post.of_ren hf.ok m, by simp [execOp, ho]; rfl, hf.fr, hf.rep, fun d hd => ?_, fun p hp => by cases hp⟩
  subst hd; exact hf.owns

theorem op_pick (h : FR T st a.tmps m) (hG : Globs T E.gl m) {c x x' : Operand} {c' y y' : Opd} (ho : o.op = .pick c x x') (hc : (chkOpd T c c' && chkOpd T x y && chkOpd T x' y') = true) (hv : valOp E ev pb st dst (.pick c' y y') = some (lv, st1, note)) :
    OpOk T pb st1 a dst m lv note (execOp a.eval o) := by
  simp only [Bool.and_eq_true] at hc
  simp only [valOp] at hv
  split at hv
  · rename_i hb
    obtain ⟨v, h1, h2⟩ := Option.map_eq_some_iff.1 hv
    simp only [Prod.mk.injEq] at h2
    obtain ⟨rfl, rfl, rfl⟩ := h2
    have hb' := operand_sound h hG hc.1.1 hb
    cases hcv : a.eval c <;> rw [hcv] at hb' <;> cases hb'
    exact ⟨a.eval x, m, Post.refl _ _, by simp [execOp, ho, hcv, asBool], h, operand_sound h hG hc.1.2 h1, fun d _ => operand_owns hc.1.2 h1 _, fun p hp => by cases hp⟩
  · rename_i hb
    obtain ⟨v, h1, h2⟩ := Option.map_eq_some_iff.1 hv
    simp only [Prod.mk.injEq] at h2
    obtain ⟨rfl, rfl, rfl⟩ := h2
    have hb' := operand_sound h hG hc.1.1 hb
    cases hcv : a.eval c <;> rw [hcv] at hb' <;> cases hb'
    exact ⟨a.eval x', m, Post.refl _ _, by simp [execOp, ho, hcv, asBool], h, operand_sound h hG hc.2 h1, fun d _ => operand_owns hc.2 h1 _, fun p hp => by cases hp⟩
  · cases hv

theorem read_sound {t : TypeId} {b base off sz : Nat} {agg : Bool} {cs : List LV} {lv : LV} (ha : isAggB T.P t = some agg) (hs : sizeB T.P t = some sz)
    (hcells : ∀ (j : Nat) (lv : LV), cs[j]? = some lv → ∃ v, m.w.cell? ⟨b, base + j, none⟩ = some v ∧ Rep T m lv v) (hp : partE agg off sz cs = some lv) :
    ∃ v, (loadVar t ⟨b, base + off, none⟩).run T.P m.w = .ok v m.w ∧ Rep T m lv v := by
  unfold loadVar
  simp only [Sem.run_bind, runA ha, Result.andThen_ok]
  cases agg with
  | true =>
    simp only [partE, if_true] at hp
    split at hp
    · rename_i hle
      injection hp with hp; subst hp
      have hv : ∀ j, j < sz → ∃ v, m.w.cell? ⟨b, base + off + j, none⟩ = some v ∧ ∀ lv, ((cs.drop off).take sz)[j]? = some lv → Rep T m lv v := by
        intro j hj
        have hlt : off + j < cs.length := by omega
        obtain ⟨v, h1, h2⟩ := hcells (off + j) cs[off + j] (List.getElem?_eq_getElem hlt)
        refine ⟨v, by rw [Nat.add_assoc]; exact h1, fun lv hl => ?_⟩
        rw [List.getElem?_take, if_pos hj, List.getElem?_drop, List.getElem?_eq_getElem hlt] at hl
        injection hl with hl; subst hl; exact h2
      let f : Nat → Value := fun j => if hj : j < sz then Classical.choose (hv j hj) else undef
      have hf : ∀ j, j < sz → m.w.cell? ((⟨b, base + off, none⟩ : Addr).add j) = some (f j) := by
        intro j hj
        have := (Classical.choose_spec (hv j hj)).1
        simp only [f, dif_pos hj]
        rw [Addr.add_lit]; exact this
      refine ⟨.agg ((List.range sz).map f).toArray, ?_, .agg _ _ (by simp; omega) fun i lv hi => ?_⟩
      · simp only [if_true, Sem.run_bind, runS hs, Result.andThen_ok, run_loadCells m.w _ sz f hf]; rfl
      · have hi' : i < sz := by
          have := (List.getElem?_eq_some_iff.1 hi).1
          simp at this; omega
        have := (Classical.choose_spec (hv i hi')).2 lv hi
        simpa [Array.getD_eq_getD_getElem?, hi', f] using this
    · cases hp
  | false =>
    simp only [partE, Bool.false_eq_true, if_false] at hp
    obtain ⟨v, h1, h2⟩ := hcells off lv hp
    exact ⟨v, by simp [h1], h2⟩
theorem block_cells {b : Nat} {cs : List LV} {k : Kd} (h : Block T m b cs k) : ∀ (j : Nat) (lv : LV), cs[j]? = some lv → ∃ v, m.w.cell? ⟨b, 0 + j, none⟩ = some v ∧ Rep T m lv v := by
  obtain ⟨vs, ty, h1, h2, h3, h4⟩ := h
  intro j lv hj
  have hlt : j < vs.size := by rw [h2]; exact (List.getElem?_eq_some_iff.1 hj).1
  refine ⟨vs[j], by simp [World.cell?, h1, hlt], ?_⟩
  have := (h4 j lv hj).2
  simpa [Array.getD_eq_getD_getElem?, hlt] using this

/-- What an address's tree reads as, and where. -/
theorem addr_sound (h : FR T st a.tmps m) {t : TypeId} {agg : Bool} {sz : Nat} {p : LV} {pv : Value} (hp : VRep T st a.tmps m p pv) (ha : isAggB T.P t = some agg) (hs : sizeB T.P t = some sz) (hr : readAt st agg sz p = some lv) :
    ∃ v, (Instr.loadAt t pv).run T.P m.w = .ok v m.w ∧ Rep T m lv v ∧ (agg = false → ∀ q, placeAt p = some q → RAt a.tmps m q v ∧ st.real q) := by
  cases p <;> simp only [readAt] at hr <;> try cases hr
  · rename_i l cs off
    cases hp with
    | iptr _ _ _ b base val hm hr' =>
      obtain ⟨v, h1, h2⟩ := read_sound (m := m) (b := b) (base := base) ha hs (fun j lv hj => ⟨val j, (hm j lv hj).2.1, hr' j lv hj⟩) hr
      exact ⟨v, by simpa [Instr.loadAt, Instr.sureAddr] using h1, h2, fun _ q hq => by cases hq⟩
  · rename_i s off
    split at hr
    · rename_i cs hcs
      obtain ⟨b, h1, h2, cs', h3⟩ := hp
      obtain ⟨b', g1, g2⟩ := h.box _ _ hcs
      rw [h1] at g1; injection g1 with g1; injection g1 with g1; injection g1 with g1; injection g1 with g1; subst g1
      obtain ⟨v, k1, k2⟩ := read_sound (m := m) (b := b) (base := 0) ha hs (block_cells g2) hr
      subst h2
      refine ⟨v, by simpa [Instr.loadAt, Instr.sureAddr] using k1, k2, fun hagg q hq => ?_⟩
      simp only [placeAt, Option.some.injEq] at hq; subst hq
      subst hagg
      simp only [partE, Bool.false_eq_true, if_false] at hr
      obtain ⟨v', c1, c2⟩ := block_cells g2 off lv hr
      have : v = v' := by
        have h0 : (loadVar t ⟨b, 0 + off, none⟩).run T.P m.w = .ok v' m.w := by
          unfold loadVar; simp only [Sem.run_bind, runA ha, Result.andThen_ok]; simp at c1; simp [c1]
        rw [k1] at h0; injection h0
      subst this
      exact ⟨.inr ⟨b, h1, by simpa using c1⟩, (fun id e => by cases e), (fun s' i e => by injection e with e _; injection e with e; subst e; exact ⟨cs, hcs⟩)⟩
    · cases hr
  · rename_i id off
    split at hr
    · rename_i cs hcs
      split at hr
      · cases hr
      rename_i hnm
      cases hp with
      | optr _ _ hlt =>
        have hb := (h.obj _ _ hcs).cells (by simpa using hnm)
        obtain ⟨v, k1, k2⟩ := read_sound (m := m) (b := m.ob id) (base := 0) ha hs (block_cells hb) hr
        refine ⟨v, by simpa [Instr.loadAt, Instr.sureAddr] using k1, k2, fun hagg q hq => ?_⟩
        simp only [placeAt, Option.some.injEq] at hq; subst hq
        subst hagg
        simp only [partE, Bool.false_eq_true, if_false] at hr
        obtain ⟨v', c1, c2⟩ := block_cells hb off lv hr
        have : v = v' := by
          have h0 : (loadVar t ⟨m.ob id, 0 + off, none⟩).run T.P m.w = .ok v' m.w := by
            unfold loadVar; simp only [Sem.run_bind, runA ha, Result.andThen_ok]; simp at c1; simp [c1]
          rw [k1] at h0; injection h0
        subst this
        exact ⟨by simpa [RAt] using c1, (fun id' e => by injection e with e; subst e; exact (List.getElem?_eq_some_iff.1 hcs).1), (fun s' i e => by cases e)⟩
    · cases hr

theorem op_load (h : FR T st a.tmps m) (hG : Globs T E.gl m) {t : TypeId} {x : Operand} {agg : Bool} {sz : Nat} {y : Opd} (ho : o.op = .load t x) (hc : chkOpd T x y = true) (ha : isAggB T.P t = some agg) (hs : sizeB T.P t = some sz)
    (hv : valOp E ev pb st dst (.load agg sz y) = some (lv, st1, note)) : OpOk T pb st1 a dst m lv note (execOp a.eval o) := by
  simp only [valOp] at hv
  obtain ⟨p, h1, h2⟩ := Option.bind_eq_some_iff.1 hv
  obtain ⟨v0, h3, h4⟩ := Option.map_eq_some_iff.1 h2
  simp only [Prod.mk.injEq] at h4
  obtain ⟨rfl, rfl, rfl⟩ := h4
  obtain ⟨v, k1, k2, k3⟩ := addr_sound h (operand_sound h hG hc h1) ha hs h3
  refine ⟨v, m, Post.refl _ _, by simp [execOp, ho, k1], h, VRep.of_rep k2.bare, fun d _ => Owns.of_ownless (bare_ownless _), fun q hq => ?_⟩
  have hq := noteOf_some hq
  split at hq
  · cases hq
  · rename_i hagg
    obtain ⟨r1, r2⟩ := k3 (by simpa using hagg) q hq
    exact ⟨⟨v, r1, fun _ _ _ _ _ _ _ _ ht => ht⟩, r2⟩

theorem op_nilCheck (h : FR T st a.tmps m) (hG : Globs T E.gl m) {x : Operand} {y : Opd} (ho : o.op = .nilCheck x) (hc : chkOpd T x y = true) (hv : valOp E ev pb st dst (.nilCheck y) = some (lv, st1, note)) :
    OpOk T pb st1 a dst m lv note (execOp a.eval o) := by
  simp only [valOp] at hv
  split at hv
  · cases hv
  · cases hv
  · cases hv
  · rename_i v hn1 hn2 hn3 h1
    simp only [Option.some.injEq, Prod.mk.injEq] at hv
    obtain ⟨rfl, rfl, rfl⟩ := hv
    have hr := operand_sound h hG hc h1
    refine ⟨a.eval x, m, Post.refl _ _, ?_, h, hr, fun d _ => operand_owns hc h1 _, fun p hp => by cases hp⟩
    simp only [execOp, ho]
    cases v <;> simp only [VRep] at hr
    all_goals first
      | (obtain ⟨b, _, e, _⟩ := hr; rw [e]; rfl)
      | (exact (hn1 rfl).elim)
      | (exact (hn2 rfl).elim)
      | (exact (hn3 rfl).elim)
      | (generalize a.eval x = u at hr ⊢; cases hr <;> rfl)
  · cases hv
end
end Tree

set_option autoImplicit false
set_option linter.unusedVariables false
set_option linter.unusedSimpArgs false
namespace Tree
open Go
section
variable {T : Tab} {E : Env} {ev : Ev} {pb : Nat} {st st1 : St} {a : Act} {dst : Option Nat} {m : Mem} {lv : LV} {note : Option Place} {o : Oper}

theorem equalIn_ptr {d : Nat} {t e : TypeId} {w : World} (hu : T.P.underlying t = some (.pointer e)) (p q : Option Addr) (h : p = none ∨ q = none) :
    (Op.equalIn (d + 1) t (.pointer p) (.pointer q)).run T.P w = .ok (p.isNone && q.isNone) w := by
  unfold Op.equalIn
  simp only [Sem.run_bind, runU hu, Result.andThen_ok]
  cases p <;> cases q <;> simp_all
theorem equalIn_bool {d : Nat} {t : TypeId} {w : World} (hu : T.P.underlying t = some .bool) (x y : Bool) : (Op.equalIn (d + 1) t (.bool x) (.bool y)).run T.P w = .ok (x == y) w := by
  unfold Op.equalIn
  simp only [Sem.run_bind, runU hu, Result.andThen_ok]; rfl
theorem equal_in (t : TypeId) (x y : Value) : Op.equal t x y = Op.equalIn (9999 + 1) t x y := rfl

theorem run_shift {w : World} {op : BinOp} {k k' : IntKind} {x y : Int} {t : TypeId} {r : LV} (h : shiftE op k x y = some r) : ∃ v, (binOp op t (.int k x) (.int k' y)).run T.P w = .ok v w ∧ Rep T m r v ∧ r.ownless = true := by
  unfold shiftE at h
  split at h
  · cases h
  · rename_i hy
    cases op <;> simp only [] at h <;> first | (cases h; done) | skip
    · injection h with h; subst h
      refine ⟨.int _ _, ?_, .int _ _, rfl⟩
      simp only [binOp, Op.shift, if_neg hy]; rfl
    · injection h with h; subst h
      refine ⟨.int _ _, ?_, .int _ _, rfl⟩
      simp only [binOp, Op.shift, if_neg hy]; rfl
theorem run_int_bin {w : World} {ty : Nat} {op : BinOp} {k : IntKind} {x y : Int} {t : TypeId} {r : LV} (h : binE ty op (.int k x) (.int k y) = some r) : ∃ v, (binOp op t (.int k x) (.int k y)).run T.P w = .ok v w ∧ Rep T m r v ∧ r.ownless = true := by
  simp only [binE, if_true] at h
  unfold intE at h
  cases op <;> simp only [] at h
  case quo =>
    split at h
    · cases h
    · rename_i hne
      injection h with h; subst h
      refine ⟨_, ?_, .int _ _, rfl⟩
      simp only [binOp, Op.intDiv, if_neg hne, ne_eq, not_true_eq_false, if_false]; rfl
  case rem =>
    split at h
    · cases h
    · rename_i hne
      injection h with h; subst h
      refine ⟨_, ?_, .int _ _, rfl⟩
      simp only [binOp, Op.intDiv, if_neg hne, ne_eq, not_true_eq_false, if_false]; rfl
  case and =>
    injection h with h; subst h
    refine ⟨_, ?_, .int _ _, rfl⟩
    simp only [binOp, ne_eq, not_true_eq_false, if_false]; rfl
  case or =>
    injection h with h; subst h
    refine ⟨_, ?_, .int _ _, rfl⟩
    simp only [binOp, ne_eq, not_true_eq_false, if_false]; rfl
  case xor =>
    injection h with h; subst h
    refine ⟨_, ?_, .int _ _, rfl⟩
    simp only [binOp, ne_eq, not_true_eq_false, if_false]; rfl
  case shl => exact run_shift h
  case shr => exact run_shift h
  all_goals first
    | (cases h; done)
    | (injection h with h; subst h; refine ⟨.int _ _, ?_, .int _ _, rfl⟩; simp only [binOp, ne_eq, not_true_eq_false, if_false]; rfl)
    | (injection h with h; subst h; refine ⟨.bool _, ?_, .bool _, rfl⟩; simp only [binOp, ne_eq, not_true_eq_false, if_false]; rfl)

theorem nilptr_val {p : LV} {b : Bool} {v : Value} (h : VRep T st a.tmps m p v) (hb : p.isNilptr = some b) : ∃ q, v = .pointer q ∧ q.isNone = b := by
  cases p <;> simp [LV.isNilptr] at hb <;> subst hb
  · cases h; exact ⟨_, rfl, rfl⟩
  · obtain ⟨b, _, e, _⟩ := h; exact ⟨_, e, rfl⟩
  · cases h; exact ⟨_, rfl, rfl⟩
  · cases h; exact ⟨_, rfl, rfl⟩

theorem eqGuard_plain {op : BinOp} {t : TypeId} {x x' : Operand} {xv yv : Value} {w : World} (hn : ∀ c c', xv = .agg c → yv = .agg c' → False) (hn' : xv = .nilIface → False) : (eqGuard op t x x' xv yv).run T.P w = .ok () w := by
  unfold eqGuard
  cases op <;> first | rfl | skip
  all_goals (cases xv <;> first | rfl | skip)
  all_goals first
    | (exfalso; exact hn' rfl)
    | (cases yv <;> first | rfl | (exfalso; exact hn _ _ rfl rfl))

theorem run_bin {ty : Nat} {op : BinOp} {t : TypeId} {p q r : LV} {xv yv : Value} (hb : binT T.P t ty = true) (hp : VRep T st a.tmps m p xv) (hq : VRep T st a.tmps m q yv) (h5 : binE ty op p q = some r) :
    (∃ v, (binOp op t xv yv).run T.P m.w = .ok v m.w ∧ Rep T m r v ∧ r.ownless = true) ∧ (∀ c c', xv = .agg c → yv = .agg c' → False) ∧ (xv = .nilIface → False) := by
  unfold binE at h5
  split at h5
  · rename_i k n k' n'
    cases hp; cases hq
    split at h5
    · rename_i hk
      subst hk
      exact ⟨run_int_bin (ty := ty) (by simp only [binE, if_true]; exact h5), (by intro c c' e; cases e), (by intro e; cases e)⟩
    · by_cases hop : op = .shl ∨ op = .shr
      rotate_left
      · exfalso
        unfold shiftE at h5
        split at h5
        · cases h5
        · cases op <;> simp at hop h5
      · rcases hop with rfl | rfl
        all_goals exact ⟨run_shift h5, (by intro c c' e; cases e), (by intro e; cases e)⟩
  · rename_i s s'
    cases hp; cases hq
    refine ⟨?_, (by intro c c' e; cases e), (by intro e; cases e)⟩
    cases op <;> simp only [] at h5 <;> first
      | (cases h5; done)
      | (injection h5 with h5; subst h5; exact ⟨_, rfl, .bool _, rfl⟩)
      | (split at h5
         · rename_i hle
           injection h5 with h5; subst h5
           refine ⟨.string (s ++ s'), ?_, .str _, rfl⟩
           have : ¬ (((s.size + s'.size : Nat) : Int) > IntKind.i64.max) := by simp [IntKind.max, IntKind.signed, IntKind.bits]; omega
           simp only [binOp, Op.stringOp, Sem.run_ite, if_neg this]; rfl
         · cases h5)
  · rename_i s s'
    cases hp; cases hq
    refine ⟨?_, (by intro c c' e; cases e), (by intro e; cases e)⟩
    split at h5
    · rename_i hty
      subst hty
      have hu : T.P.underlying t = some .bool := by
        simp only [binT] at hb; split at hb
        · assumption
        · cases hb
      cases op <;> simp only [] at h5 <;> first
        | (cases h5; done)
        | (injection h5 with h5; subst h5; refine ⟨_, ?_, .bool _, rfl⟩; simp only [binOp, equal_in, Sem.run_bind, equalIn_bool hu, Result.andThen_ok]; rfl)
    · cases h5
  · split at h5
    · rename_i hty
      subst hty
      obtain ⟨e, hu⟩ : ∃ e, T.P.underlying t = some (.pointer e) := by
        simp only [binT] at hb; split at hb
        · exact ⟨_, by assumption⟩
        · cases hb
      split at h5
      · rename_i b1 b2 e1 e2
        obtain ⟨p1, rfl, hp1⟩ := nilptr_val hp e1
        obtain ⟨q1, rfl, hq1⟩ := nilptr_val hq e2
        refine ⟨?_, (by intro c c' e; cases e), (by intro e; cases e)⟩
        split at h5
        · rename_i hor
          have hh : p1 = none ∨ q1 = none := by
            rcases Bool.or_eq_true _ _ ▸ hor with h | h
            · exact .inl (by simpa [h] using hp1)
            · exact .inr (by simpa [h] using hq1)
          cases op <;> simp only [] at h5 <;> first
            | (cases h5; done)
            | (injection h5 with h5; subst h5; refine ⟨_, ?_, .bool _, rfl⟩; simp only [binOp, equal_in, Sem.run_bind, equalIn_ptr hu _ _ hh, Result.andThen_ok, hp1, hq1]; rfl)
        · cases h5
      · cases h5
    · cases h5

theorem op_bin (h : FR T st a.tmps m) (hG : Globs T E.gl m) {ty : Nat} {op : BinOp} {t t' : TypeId} {x x' : Operand} {y y' : Opd} (ho : o.op = .binOp op t x x' t') (hb : binT T.P t ty = true) (hc : chkOpd T x y = true) (hc' : chkOpd T x' y' = true)
    (hv : valOp E ev pb st dst (.bin ty op y y') = some (lv, st1, note)) : OpOk T pb st1 a dst m lv note (execOp a.eval o) := by
  simp only [valOp] at hv
  obtain ⟨p, h1, h2⟩ := Option.bind_eq_some_iff.1 hv
  obtain ⟨q, h3, h4⟩ := Option.bind_eq_some_iff.1 h2
  obtain ⟨r, h5, h6⟩ := Option.map_eq_some_iff.1 h4
  simp only [Prod.mk.injEq] at h6
  obtain ⟨rfl, rfl, rfl⟩ := h6
  obtain ⟨⟨v, k1, k2, k3⟩, n1, n2⟩ := run_bin hb (operand_sound h hG hc h1) (operand_sound h hG hc' h3) h5
  refine OpOk.pure h ?_ (VRep.of_rep k2) k3
  simp only [execOp, ho, Sem.run_bind, eqGuard_plain n1 n2, Result.andThen_ok, k1]; rfl

theorem op_un (h : FR T st a.tmps m) (hG : Globs T E.gl m) {op : UnOp} {t : TypeId} {x : Operand} {y : Opd} (ho : o.op = .unOp op t x) (hc : chkOpd T x y = true)
    (hv : valOp E ev pb st dst (.un op y) = some (lv, st1, note)) : OpOk T pb st1 a dst m lv note (execOp a.eval o) := by
  simp only [valOp] at hv
  obtain ⟨p, h1, h2⟩ := Option.bind_eq_some_iff.1 hv
  obtain ⟨r, h5, h6⟩ := Option.map_eq_some_iff.1 h2
  simp only [Prod.mk.injEq] at h6
  obtain ⟨rfl, rfl, rfl⟩ := h6
  have hp := operand_sound h hG hc h1
  generalize hxv : a.eval x = xv at hp
  cases p <;> simp only [unE] at h5 <;> try cases h5
  · cases hp
    cases op <;> simp only [] at h5 <;> cases h5
    exact OpOk.pure h (by simp only [execOp, ho, hxv]; rfl) (Rep.bool _) rfl
  · cases hp
    cases op <;> simp only [] at h5 <;> cases h5
    exact OpOk.pure h (by simp only [execOp, ho, hxv]; rfl) (Rep.int _ _) rfl

theorem op_conv (h : FR T st a.tmps m) (hG : Globs T E.gl m) {t t' : TypeId} {k : IntKind} {x : Operand} {y : Opd} (ho : o.op = .convert t t' x) (hc : chkOpd T x y = true)
    (hu : ∃ j, T.P.underlying t = some (.int j)) (hu' : T.P.underlying t' = some (.int k))
    (hv : valOp E ev pb st dst (.conv k y) = some (lv, st1, note)) : OpOk T pb st1 a dst m lv note (execOp a.eval o) := by
  obtain ⟨j, hu⟩ := hu
  simp only [valOp] at hv
  split at hv
  · rename_i k0 n h1
    simp only [Option.some.injEq, Prod.mk.injEq] at hv
    obtain ⟨rfl, rfl, rfl⟩ := hv
    have hp := operand_sound h hG hc h1
    generalize hxv : a.eval x = xv at hp
    cases hp
    refine OpOk.pure h ?_ (Rep.int _ _) rfl
    simp only [execOp, ho, hxv, convert, Sem.run_bind, runU hu, runU hu', Result.andThen_ok]; rfl
  · cases hv
theorem op_convStr (h : FR T st a.tmps m) (hG : Globs T E.gl m) {t t' : TypeId} {x : Operand} {y : Opd} (ho : o.op = .convert t t' x) (hc : chkOpd T x y = true)
    (hu : T.P.underlying t = some .string) (hu' : T.P.underlying t' = some .string) (hk : ∃ s, a.eval x = .string s)
    (hv : valOp E ev pb st dst (.move y) = some (lv, st1, note)) : OpOk T pb st1 a dst m lv note (execOp a.eval o) := by
  obtain ⟨s, hs⟩ := hk
  obtain ⟨v, m', h1, h2, r⟩ := op_move (o := { o with op := .move x }) h hG rfl hc hv
  refine ⟨v, m', h1, ?_, r⟩
  simp only [execOp, hs] at h2
  simp only [execOp, ho, hs, convert, Sem.run_bind, runU hu, runU hu', Result.andThen_ok]
  exact h2

theorem addr_shift {p q : LV} {pv : Value} {off : Nat} (hp : VRep T st a.tmps m p pv) (hq : addrE p off = some q) : ∃ b o', pv = .pointer (some ⟨b, o', none⟩) ∧ VRep T st a.tmps m q (.pointer (some ⟨b, o' + off, none⟩)) := by
  cases p <;> simp only [addrE] at hq <;> cases hq
  · rename_i l cs off'
    cases hp with
    | iptr _ _ _ b base val hm hr =>
      refine ⟨b, _, rfl, ?_⟩
      have := Rep.iptr (T := T) (m := m) l cs (off' + off) b base val hm hr
      rw [← Nat.add_assoc] at this; exact this
  · obtain ⟨b, h1, e, h3⟩ := hp
    exact ⟨b, _, e, b, h1, rfl, h3⟩
  · rename_i id off'
    cases hp with
    | optr _ _ hlt => exact ⟨_, _, rfl, Rep.optr id (off' + off) hlt⟩
theorem add_off {b o n : Nat} : (⟨b, o, none⟩ : Addr).add n = ⟨b, o + n, none⟩ := Addr.add_lit b o n
theorem addr_ownless {p q : LV} {off : Nat} (hq : addrE p off = some q) : q.ownless = true := by cases p <;> simp only [addrE] at hq <;> cases hq <;> rfl

theorem op_faddr (h : FR T st a.tmps m) (hG : Globs T E.gl m) {s : TypeId} {f off n : Nat} {fs : Array Field} {fd : Field} {x : Operand} {y : Opd} (ho : o.op = .fieldAddr s x f) (hc : chkOpd T x y = true)
    (hu : T.P.underlying s = some (.struct fs)) (hf : fs[f]? = some fd) (hoff : fd.offset = off) (hs : sizeB T.P fd.type = some n) (hn : n ≠ 0)
    (hv : valOp E ev pb st dst (.faddr y off) = some (lv, st1, note)) : OpOk T pb st1 a dst m lv note (execOp a.eval o) := by
  simp only [valOp] at hv
  obtain ⟨p, h1, h2⟩ := Option.bind_eq_some_iff.1 hv
  obtain ⟨r, h5, h6⟩ := Option.map_eq_some_iff.1 h2
  simp only [Prod.mk.injEq] at h6
  obtain ⟨rfl, rfl, rfl⟩ := h6
  obtain ⟨b, o', e, hq⟩ := addr_shift (operand_sound h hG hc h1) h5
  refine OpOk.pure h ?_ hq (addr_ownless h5)
  have e2 := add_off (b := b) (o := o') (n := off)
  simp only [execOp, ho, e, Instr.fieldAt, Sem.run_bind, runU hu, Result.andThen_ok, hf, Instr.sureAddr, fieldPlace, Sem.run_pure, runS hs, Sem.run_ite, if_neg hn, hoff, e2]
end
end Tree

set_option autoImplicit false
set_option linter.unusedVariables false
set_option linter.unusedSimpArgs false
namespace Tree
open Go
section
variable {T : Tab} {E : Env} {ev : Ev} {pb : Nat} {st st1 : St} {a : Act} {dst : Option Nat} {m : Mem} {lv : LV} {note : Option Place} {o : Oper}

/-- A part of a struct. -/
theorem part_sound {t : TypeId} {cs : List LV} {vs : Array Value} {agg : Bool} {off sz : Nat} {w : World} (hr : Rep T m (.agg cs) (.agg vs)) (ha : isAggB T.P t = some agg) (hs : sizeB T.P t = some sz) (hp : partE agg off sz cs = some lv) :
    ∃ v, (part t vs off).run T.P w = .ok v w ∧ Rep T m lv v := by
  cases hr with
  | agg _ _ hl hr =>
    unfold part
    simp only [Sem.run_bind, runA ha, Result.andThen_ok]
    cases agg with
    | true =>
      simp only [partE, if_true] at hp
      split at hp
      · rename_i hle
        injection hp with hp; subst hp
        refine ⟨.agg (vs.extract off (off + sz)), by simp only [if_true, Sem.run_bind, runS hs, Result.andThen_ok]; rfl, .agg _ _ ?_ fun i lv hi => ?_⟩
        · simp; omega
        · rw [List.getElem?_take] at hi
          split at hi
          · rename_i hlt
            rw [List.getElem?_drop] at hi
            have := hr (off + i) lv hi
            have hlt2 : off + i < vs.size := by rw [← hl]; exact (List.getElem?_eq_some_iff.1 hi).1
            have e : (vs.extract off (off + sz)).getD i undef = vs.getD (off + i) undef := by
              rw [Array.getD_eq_getD_getElem?, Array.getD_eq_getD_getElem?, Array.getElem?_extract, if_pos (by omega)]
            rw [e]; exact this
          · cases hi
      · cases hp
    | false =>
      simp only [partE, Bool.false_eq_true, if_false] at hp
      have hlt : off < vs.size := by rw [← hl]; exact (List.getElem?_eq_some_iff.1 hp).1
      have := hr off lv hp
      refine ⟨vs[off], by simp [hlt], ?_⟩
      simpa [Array.getD_eq_getD_getElem?, hlt] using this

theorem op_field (h : FR T st a.tmps m) (hG : Globs T E.gl m) {s : TypeId} {f off sz : Nat} {agg : Bool} {fs : Array Field} {fd : Field} {x : Operand} {y : Opd} (ho : o.op = .field s x f) (hc : chkOpd T x y = true)
    (hu : T.P.underlying s = some (.struct fs)) (hf : fs[f]? = some fd) (hoff : fd.offset = off) (ha : isAggB T.P fd.type = some agg) (hs : sizeB T.P fd.type = some sz)
    (hv : valOp E ev pb st dst (.field y agg off sz) = some (lv, st1, note)) : OpOk T pb st1 a dst m lv note (execOp a.eval o) := by
  simp only [valOp] at hv
  split at hv
  · rename_i cs h1
    obtain ⟨r, h5, h6⟩ := Option.map_eq_some_iff.1 hv
    simp only [Prod.mk.injEq] at h6
    obtain ⟨rfl, rfl, rfl⟩ := h6
    have hp := operand_sound h hG hc h1
    generalize hxv : a.eval x = xv at hp
    have hp' : Rep T m (.agg cs) xv := hp
    cases hp' with
    | agg _ vs hl hr =>
      obtain ⟨v, k1, k2⟩ := part_sound (w := m.w) hp ha hs h5
      refine OpOk.pure h ?_ (VRep.of_rep k2.bare) (bare_ownless _)
      simp only [execOp, ho, hxv, Instr.field, Sem.run_bind, runU hu, Result.andThen_ok, hf, asAgg, Sem.run_pure, hoff, k1]
  · cases hv

theorem op_idxAddr (h : FR T st a.tmps m) (hG : Globs T E.gl m) {s e : TypeId} {sz : Nat} {x i : Operand} {y j : Opd} (ho : o.op = .indexAddr s x i) (hc : chkOpd T x y = true) (hc' : chkOpd T i j = true)
    (hu : T.P.underlying s = some (.slice e)) (hs : sizeB T.P e = some sz)
    (hv : valOp E ev pb st dst (.idxAddr y j sz) = some (lv, st1, note)) : OpOk T pb st1 a dst m lv note (execOp a.eval o) := by
  simp only [valOp] at hv
  split at hv
  · rename_i o' l z xs sp k n h1 h2
    split at hv
    · rename_i hcond
      obtain ⟨rfl, hn⟩ := hcond
      obtain ⟨cs, h5, h6⟩ := Option.map_eq_some_iff.1 hv
      simp only [Prod.mk.injEq] at h6
      obtain ⟨rfl, rfl, rfl⟩ := h6
      have hp := operand_sound h hG hc h1
      have hq := operand_sound h hG hc' h2
      generalize hxv : a.eval x = xv at hp
      generalize hiv : a.eval i = iv at hq
      have hp' : Rep T m (.sl o' l z xs sp) xv := hp
      cases hq
      have hlt : n.toNat < xs.length := (List.getElem?_eq_some_iff.1 h5).1
      cases hp' with
      | nil => simp at hlt
      | emp => simp at hlt
      | sl _ _ _ _ _ b off cap val hcap hz hm hr =>
        have hx : (xs ++ sp)[n.toNat]? = some cs := by rw [List.getElem?_append_left hlt]; exact h5
        refine OpOk.pure h (v := .pointer (some ⟨b, off + n.toNat * z, none⟩)) ?_ ?_ rfl
        · have e2 := add_off (b := b) (o := off) (n := n.toNat * z)
          have c1 : 0 ≤ n ∧ n < (xs.length : Int) := ⟨hn, by omega⟩
          simp only [execOp, ho, hxv, hiv, Instr.indexAt, asIntOf, Sem.run_bind, Sem.run_pure, runU hu, Result.andThen_ok, Sem.run_ite, if_pos c1, runS hs, e2]
        · have := Rep.iptr (T := T) (m := m) l cs 0 b (off + n.toNat * z) (val n.toNat) (fun j lv hj => hm _ _ _ _ hx hj) (fun j lv hj => hr _ _ _ _ hx hj)
          exact this
    · cases hv
  · rename_i id off len cap z k n h1 h2
    split at hv
    · rename_i hcond
      obtain ⟨rfl, hn, hlt⟩ := hcond
      simp only [Option.some.injEq, Prod.mk.injEq] at hv
      obtain ⟨rfl, rfl, rfl⟩ := hv
      have hp := operand_sound h hG hc h1
      have hq := operand_sound h hG hc' h2
      generalize hxv : a.eval x = xv at hp
      generalize hiv : a.eval i = iv at hq
      have hp' : Rep T m (.msl id off len cap z) xv := hp
      cases hq
      cases hp' with
      | msl _ _ _ _ _ hid hM hl =>
        refine OpOk.pure h (v := .pointer (some ⟨m.ob id, off + n.toNat * z, none⟩)) ?_ ?_ rfl
        · have e2 := add_off (b := m.ob id) (o := off) (n := n.toNat * z)
          have c1 : 0 ≤ n ∧ n < (len : Int) := ⟨hn, hlt⟩
          simp only [execOp, ho, hxv, hiv, Instr.indexAt, asIntOf, Sem.run_bind, Sem.run_pure, runU hu, Result.andThen_ok, Sem.run_ite, if_pos c1, runS hs, e2]
        · exact Rep.optr id (off + n.toNat * z) hid
    · cases hv
  · cases hv

theorem op_idxArr (h : FR T st a.tmps m) (hG : Globs T E.gl m) {s e : TypeId} {len sz : Nat} {x i : Operand} {y j : Opd} (ho : o.op = .indexAddr s x i) (hc : chkOpd T x y = true) (hc' : chkOpd T i j = true)
    (hu : T.P.underlying s = some (.array len e)) (hs : sizeB T.P e = some sz)
    (hv : valOp E ev pb st dst (.idxArr y j len sz) = some (lv, st1, note)) : OpOk T pb st1 a dst m lv note (execOp a.eval o) := by
  simp only [valOp] at hv
  obtain ⟨p, h1, h2⟩ := Option.bind_eq_some_iff.1 hv
  split at h2
  · rename_i k n h3
    split at h2
    · rename_i hcond
      obtain ⟨r, h5, h6⟩ := Option.map_eq_some_iff.1 h2
      simp only [Prod.mk.injEq] at h6
      obtain ⟨rfl, rfl, rfl⟩ := h6
      have hq := operand_sound h hG hc' h3
      generalize hiv : a.eval i = iv at hq
      cases hq
      obtain ⟨b, o', e, hq⟩ := addr_shift (operand_sound h hG hc h1) h5
      refine OpOk.pure h ?_ hq (addr_ownless h5)
      have e2 := add_off (b := b) (o := o') (n := n.toNat * sz)
      simp only [execOp, ho, e, hiv, Instr.indexAt, asIntOf, Instr.sureAddr, Sem.run_bind, Sem.run_pure, runU hu, Result.andThen_ok, Sem.run_ite, if_pos hcond, runS hs, e2]
    · cases h2
  · cases h2

theorem op_idxStr (h : FR T st a.tmps m) (hG : Globs T E.gl m) {s : TypeId} {x i : Operand} {y j : Opd} (ho : o.op = .index s x i) (hc : chkOpd T x y = true) (hc' : chkOpd T i j = true)
    (hu : T.P.underlying s = some .string)
    (hv : valOp E ev pb st dst (.idxStr y j) = some (lv, st1, note)) : OpOk T pb st1 a dst m lv note (execOp a.eval o) := by
  simp only [valOp] at hv
  split at hv
  · rename_i s' k n h1 h2
    split at hv
    · rename_i hn
      obtain ⟨c, h5, h6⟩ := Option.map_eq_some_iff.1 hv
      simp only [Prod.mk.injEq] at h6
      obtain ⟨rfl, rfl, rfl⟩ := h6
      have hp := operand_sound h hG hc h1
      have hq := operand_sound h hG hc' h2
      generalize hxv : a.eval x = xv at hp
      generalize hiv : a.eval i = iv at hq
      cases hp; cases hq
      refine OpOk.pure h ?_ (Rep.int _ _) rfl
      obtain ⟨hlt, hget⟩ := List.getElem?_eq_some_iff.1 h5
      have e1 : s'[n.toNat]? = some c := by
        have hlt' : n.toNat < s'.size := by simpa using hlt
        rw [getElem?_pos s' n.toNat hlt']
        exact congrArg some hget
      simp only [execOp, ho, hxv, hiv, Instr.index, asIntOf, Sem.run_bind, Sem.run_pure, runU hu, Result.andThen_ok, if_pos hn, e1]
    · cases hv
  · cases hv

theorem run_builtin {c : Call} {b : Builtin} {w : World} (ho : o.op = .call c) (hb : c.callee = .builtin b) :
    ∃ cs, (execOp a.eval o).run T.P w = (builtin b c.argTypes o.type cs (c.args.map a.eval)).run T.P w := by
  refine ⟨c.args.map (fun | .const _ => true | _ => false), ?_⟩
  simp only [execOp, ho, resolve, hb, Sem.run_bind, Sem.run_pure, Result.andThen_ok, invoke]
  rfl

theorem op_len (h : FR T st a.tmps m) (hG : Globs T E.gl m) {c : Call} {e : TypeId} {str : Bool} {x : Operand} {y : Opd} (ho : o.op = .call c) (hb : c.callee = .builtin .len) (hargs : c.args.toList = [x]) (hty : c.argTypes.toList = [e]) (hc : chkOpd T x y = true)
    (hu : (str = true ∧ T.P.underlying e = some .string) ∨ (str = false ∧ ∃ el, T.P.underlying e = some (.slice el)))
    (hv : valOp E ev pb st dst (.len str y) = some (lv, st1, note)) : OpOk T pb st1 a dst m lv note (execOp a.eval o) := by
  have ha : c.args = #[x] := by apply Array.toList_inj.1; simpa using hargs
  have ht : c.argTypes = #[e] := by apply Array.toList_inj.1; simpa using hty
  obtain ⟨cs, hrun⟩ := run_builtin (T := T) (a := a) (w := m.w) ho hb
  simp only [valOp] at hv
  split at hv
  · rename_i o' l z xs sp h1
    split at hv
    · cases hv
    · rename_i hstr
      simp only [Option.some.injEq, Prod.mk.injEq] at hv
      obtain ⟨rfl, rfl, rfl⟩ := hv
      obtain ⟨el, hu⟩ : ∃ el, T.P.underlying e = some (.slice el) := by
        rcases hu with ⟨h, _⟩ | ⟨_, h⟩
        · exact absurd h hstr
        · exact h
      have hp := operand_sound h hG hc h1
      generalize hxv : a.eval x = xv at hp
      have hp' : Rep T m (.sl o' l z xs sp) xv := hp
      refine OpOk.pure h (v := .int .i64 (xs.length : Int)) (hrun.trans ?_) (Rep.int _ _) rfl
      cases hp' with
      | nil => simp only [builtin, Builtin.len_, ha, ht, List.map_toArray, List.map_cons, List.map_nil, hxv, Sem.run_bind, Sem.run_pure, List.getElem?_toArray, List.getElem?_cons_zero, runU hu, Result.andThen_ok]; rfl
      | emp => simp only [builtin, Builtin.len_, ha, ht, List.map_toArray, List.map_cons, List.map_nil, hxv, Sem.run_bind, Sem.run_pure, List.getElem?_toArray, List.getElem?_cons_zero, runU hu, Result.andThen_ok]; rfl
      | sl _ _ _ _ _ b off cap val hcap hz hm hr => simp only [builtin, Builtin.len_, ha, ht, List.map_toArray, List.map_cons, List.map_nil, hxv, Sem.run_bind, Sem.run_pure, List.getElem?_toArray, List.getElem?_cons_zero, runU hu, Result.andThen_ok]; rfl
  · rename_i id off n cap z h1
    split at hv
    · cases hv
    · rename_i hstr
      simp only [Option.some.injEq, Prod.mk.injEq] at hv
      obtain ⟨rfl, rfl, rfl⟩ := hv
      obtain ⟨el, hu⟩ : ∃ el, T.P.underlying e = some (.slice el) := by
        rcases hu with ⟨h, _⟩ | ⟨_, h⟩
        · exact absurd h hstr
        · exact h
      have hp := operand_sound h hG hc h1
      generalize hxv : a.eval x = xv at hp
      have hp' : Rep T m (.msl id off n cap z) xv := hp
      refine OpOk.pure h (v := .int .i64 (n : Int)) (hrun.trans ?_) (Rep.int _ _) rfl
      cases hp' with
      | msl _ _ _ _ _ hid hM hl => simp only [builtin, Builtin.len_, ha, ht, List.map_toArray, List.map_cons, List.map_nil, hxv, Sem.run_bind, Sem.run_pure, List.getElem?_toArray, List.getElem?_cons_zero, runU hu, Result.andThen_ok]; rfl
  · rename_i s h1
    split at hv
    · rename_i hstr
      simp only [Option.some.injEq, Prod.mk.injEq] at hv
      obtain ⟨rfl, rfl, rfl⟩ := hv
      have hu : T.P.underlying e = some .string := by
        rcases hu with ⟨_, h⟩ | ⟨h, _⟩
        · exact h
        · rw [h] at hstr; cases hstr
      have hp := operand_sound h hG hc h1
      generalize hxv : a.eval x = xv at hp
      cases hp
      refine OpOk.pure h (v := .int .i64 (s.size : Int)) (hrun.trans ?_) (Rep.int _ _) rfl
      simp only [builtin, Builtin.len_, ha, ht, List.map_toArray, List.map_cons, List.map_nil, hxv, Sem.run_bind, Sem.run_pure, List.getElem?_toArray, List.getElem?_cons_zero, runU hu, Result.andThen_ok]; rfl
    · cases hv
  · cases hv

theorem op_minmax (h : FR T st a.tmps m) (hG : Globs T E.gl m) {c : Call} {mx : Bool} {x x' : Operand} {y y' : Opd} (ho : o.op = .call c) (hb : c.callee = .builtin (if mx then .max else .min)) (hargs : c.args.toList = [x, x']) (hc : chkOpd T x y = true) (hc' : chkOpd T x' y' = true)
    (hv : valOp E ev pb st dst (.minmax mx y y') = some (lv, st1, note)) : OpOk T pb st1 a dst m lv note (execOp a.eval o) := by
  have ha : c.args = #[x, x'] := by apply Array.toList_inj.1; simpa using hargs
  obtain ⟨cs, hrun⟩ := run_builtin (T := T) (a := a) (w := m.w) ho hb
  simp only [valOp] at hv
  obtain ⟨p, h1, h2⟩ := Option.bind_eq_some_iff.1 hv
  obtain ⟨q, h3, h4⟩ := Option.bind_eq_some_iff.1 h2
  obtain ⟨r, h5, h6⟩ := Option.map_eq_some_iff.1 h4
  simp only [Prod.mk.injEq] at h6
  obtain ⟨rfl, rfl, rfl⟩ := h6
  have hp := operand_sound h hG hc h1
  have hq := operand_sound h hG hc' h3
  generalize hxv : a.eval x = xv at hp
  generalize hyv : a.eval x' = yv at hq
  cases p <;> simp only [minmaxE] at h5 <;> try cases h5
  cases q <;> simp only [] at h5 <;> try cases h5
  cases hp; cases hq
  split at h5
  · rename_i hk
    subst hk
    injection h5 with h5; subst h5
    cases mx with
    | true =>
      refine OpOk.pure h (hrun.trans ?_) (Rep.int _ _) rfl
      simp only [if_true, builtin, Builtin.max_, ha, List.map_toArray, List.map_cons, List.map_nil, hxv, hyv, Sem.run_bind]
      rfl
    | false =>
      refine OpOk.pure h (hrun.trans ?_) (Rep.int _ _) rfl
      simp only [Bool.false_eq_true, if_false, builtin, Builtin.min_, ha, List.map_toArray, List.map_cons, List.map_nil, hxv, hyv, Sem.run_bind]
      rfl
  · cases h5

theorem op_extract (h : FR T st a.tmps m) (hG : Globs T E.gl m) {i j : Nat} {x : Operand} {y : Opd} (ho : o.op = .extract x i) (hij : i = j) (hc : chkOpd T x y = true)
    (hv : valOp E ev pb st dst (.extract y j) = some (lv, st1, note)) : OpOk T pb st1 a dst m lv note (execOp a.eval o) := by
  subst hij
  simp only [valOp] at hv
  split at hv
  · rename_i t
    split at hv
    · rename_i vs hs
      obtain ⟨v, h5, h6⟩ := Option.map_eq_some_iff.1 hv
      simp only [Prod.mk.injEq] at h6
      obtain ⟨rfl, rfl, rfl⟩ := h6
      obtain rfl := opd_tmp hc
      obtain ⟨u, g1, g2⟩ := h.val _ _ hs
      have hu : a.eval (.tmp t) = u := by simp [Act.eval, Array.getD_eq_getD_getElem?, g1]
      have g2' : Rep T m (.tup vs) u := g2
      cases g2' with
      | tup _ us hl hr =>
        have hlt : i < us.size := by rw [← hl]; exact (List.getElem?_eq_some_iff.1 h5).1
        have hri := hr i v h5
        have e1 : us[i]? = some (us.getD i undef) := by simp [Array.getD_eq_getD_getElem?, hlt]
        refine OpOk.pure h (v := us.getD i undef) ?_ (VRep.of_rep hri.bare) (bare_ownless _)
        simp only [execOp, ho, hu, Instr.extract, e1, Sem.run_bind, Sem.run_pure, Result.andThen_ok]
    · cases hv
  · cases hv

theorem operandO_sound (h : FR T st a.tmps m) (hG : Globs T E.gl m) {x : Option Operand} {y : Option Opd} {l : Option LV} (hc : chkOpdO T x y = true) (he : operandO E.gl st y = some l) :
    (x = none ∧ l = none) ∨ ∃ x' lv, x = some x' ∧ l = some lv ∧ VRep T st a.tmps m lv (a.eval x') := by
  cases x with
  | none => cases y with
    | none => simp only [operandO, Option.some.injEq] at he; exact .inl ⟨rfl, he.symm⟩
    | some y => simp [chkOpdO] at hc
  | some x => cases y with
    | none => simp [chkOpdO] at hc
    | some y =>
      simp only [operandO] at he
      obtain ⟨lv, h1, h2⟩ := Option.map_eq_some_iff.1 he
      exact .inr ⟨x, lv, rfl, h2.symm, operand_sound h hG hc h1⟩
theorem run_bound {P : Program} {w : World} {k : IntKind} {n : Int} {y : Nat} {code : BoundsCode} (h0 : 0 ≤ n) (h1 : n ≤ y) : (Instr.sliceBound (.int k n) y code).run P w = .ok n.toNat w := by
  have hc : 0 ≤ n ∧ n ≤ (y : Int) := ⟨h0, h1⟩
  simp only [Instr.sliceBound, asIntOf, Sem.run_bind, Sem.run_pure, Result.andThen_ok, Sem.run_ite, if_pos hc]
theorem bound_val {lv : LV} {v : Value} {d n : Int} (hr : VRep T st a.tmps m lv v) (hb : boundE (some lv) d = some n) : ∃ k, v = .int k n := by
  cases lv <;> simp [boundE, intOf] at hb
  subst hb
  cases hr; exact ⟨_, rfl⟩
theorem run_bounds {w : World} {isS : Bool} {len cap : Nat} {lo hi : Option Operand} {l hh : Option LV} {x y : Int}
    (hl : (lo = none ∧ l = none) ∨ ∃ x' lv, lo = some x' ∧ l = some lv ∧ VRep T st a.tmps m lv (a.eval x')) (hhi : (hi = none ∧ hh = none) ∨ ∃ x' lv, hi = some x' ∧ hh = some lv ∧ VRep T st a.tmps m lv (a.eval x'))
    (hx : boundE l 0 = some x) (hy : boundE hh len = some y) (h0 : 0 ≤ x) (h1 : x ≤ y) (h2 : y ≤ cap) :
    (Instr.sliceBounds isS len cap (lo.map a.eval) (hi.map a.eval) none).run T.P w = .ok (x.toNat, y.toNat, cap) w := by
  unfold Instr.sliceBounds
  have hhr : ∃ f : Sem Nat, f.run T.P w = .ok y.toNat w ∧ (match hi.map a.eval, (none : Option Value) with
    | some v, some _ => Instr.sliceBound v cap .slice3B
    | some v, none => Instr.sliceBound v cap (if isS then .sliceAcap else .sliceAlen)
    | none, none => pure len
    | none, some _ => stuck "Slice: max without high") = f := by
    rcases hhi with ⟨rfl, rfl⟩ | ⟨x', lv, rfl, rfl, hr⟩
    · simp only [boundE, Option.some.injEq] at hy; subst hy
      exact ⟨_, by simp, rfl⟩
    · obtain ⟨k, e⟩ := bound_val hr hy
      simp only [Option.map_some, e]
      exact ⟨_, run_bound (by omega) h2, rfl⟩
  obtain ⟨f, hf1, hf2⟩ := hhr
  simp only [Sem.run_bind, Sem.run_pure, Result.andThen_ok]
  rcases hl with ⟨rfl, rfl⟩ | ⟨x', lv, rfl, rfl, hr⟩
  · simp only [boundE, Option.some.injEq] at hx; subst hx
    rcases hhi with ⟨rfl, rfl⟩ | ⟨x', lv, rfl, rfl, hr⟩
    · simp only [boundE, Option.some.injEq] at hy; subst hy
      simp [Sem.run_bind]
    · obtain ⟨k, e⟩ := bound_val hr hy
      simp only [Option.map_some, Option.map_none, e, Sem.run_bind, run_bound (show 0 ≤ y by omega) h2, Result.andThen_ok, Sem.run_pure]; rfl
  · obtain ⟨k, e⟩ := bound_val hr hx
    rcases hhi with ⟨rfl, rfl⟩ | ⟨x'', lv', rfl, rfl, hr'⟩
    · simp only [boundE, Option.some.injEq] at hy; subst hy
      simp only [Option.map_some, Option.map_none, e, Sem.run_pure, Result.andThen_ok, Sem.run_bind, run_bound h0 h1]; rfl
    · obtain ⟨k', e'⟩ := bound_val hr' hy
      have h1' : x ≤ (y.toNat : Int) := by omega
      simp only [Option.map_some, Option.map_none, e, e', run_bound (show 0 ≤ y by omega) h2, Result.andThen_ok, Sem.run_bind, Sem.run_pure, run_bound h0 h1']

theorem run_bounds3 {w : World} {isS : Bool} {len cap : Nat} {lo hi mx : Operand} {lo0 : Option Operand} {l : Option LV} {hh u : LV} {x y c : Int}
    (hl : (lo0 = none ∧ l = none) ∨ ∃ x' lv, lo0 = some x' ∧ l = some lv ∧ VRep T st a.tmps m lv (a.eval x')) (hhi : VRep T st a.tmps m hh (a.eval hi)) (hmx : VRep T st a.tmps m u (a.eval mx))
    (hx : boundE l 0 = some x) (hy : intOf hh = some y) (hc : intOf u = some c) (h0 : 0 ≤ x) (h1 : x ≤ y) (h2 : y ≤ c) (h3 : c ≤ cap) :
    (Instr.sliceBounds isS len cap (lo0.map a.eval) (some (a.eval hi)) (some (a.eval mx))).run T.P w = .ok (x.toNat, y.toNat, c.toNat) w := by
  obtain ⟨k1, e1⟩ := bound_val (d := 0) hhi hy
  obtain ⟨k2, e2⟩ := bound_val (d := 0) hmx hc
  unfold Instr.sliceBounds
  have g2 : y ≤ (c.toNat : Int) := by omega
  rcases hl with ⟨rfl, rfl⟩ | ⟨x', lv, rfl, rfl, hr⟩
  · simp only [boundE, Option.some.injEq] at hx; subst hx
    simp only [Option.map_none, e1, e2, Sem.run_bind, run_bound (show 0 ≤ c by omega) h3, run_bound (show 0 ≤ y by omega) g2, Result.andThen_ok, Sem.run_pure]; rfl
  · obtain ⟨k, e⟩ := bound_val hr hx
    have g1 : x ≤ (y.toNat : Int) := by omega
    simp only [Option.map_some, e, e1, e2, Sem.run_bind, run_bound (show 0 ≤ c by omega) h3, run_bound (show 0 ≤ y by omega) g2, run_bound h0 g1, Result.andThen_ok, Sem.run_pure]
theorem op_slice3 (h : FR T st a.tmps m) (hG : Globs T E.gl m) {t e : TypeId} {sz : Nat} {x hi mx : Operand} {y hi' mx' : Opd} {lo : Option Operand} {lo' : Option Opd} (ho : o.op = .slice t x lo (some hi) (some mx)) (hc : chkOpd T x y = true) (hl : chkOpdO T lo lo' = true) (hh : chkOpd T hi hi' = true) (hm : chkOpd T mx mx' = true)
    (hu : T.P.underlying t = some (.slice e)) (hs : sizeB T.P e = some sz)
    (hv : valOp E ev pb st dst (.slice3 sz y lo' hi' mx') = some (lv, st1, note)) : OpOk T pb st1 a dst m lv note (execOp a.eval o) := by
  obtain ⟨l, h1, hv⟩ := Option.bind_eq_some_iff.1 hv
  obtain ⟨hhv, h2, hv⟩ := Option.bind_eq_some_iff.1 hv
  obtain ⟨uv, h3, hv⟩ := Option.bind_eq_some_iff.1 hv
  obtain ⟨xlv, h4, hv⟩ := Option.bind_eq_some_iff.1 hv
  obtain ⟨r, h5, h6⟩ := Option.map_eq_some_iff.1 hv
  simp only [Prod.mk.injEq] at h6
  obtain ⟨rfl, rfl, rfl⟩ := h6
  cases xlv <;> simp only [slice3E] at h5 <;> try (cases h5; done)
  rename_i o' lab z xs sp
  obtain ⟨p, g1, h5⟩ := Option.bind_eq_some_iff.1 h5
  obtain ⟨q, g2, h5⟩ := Option.bind_eq_some_iff.1 h5
  obtain ⟨c, g3, h5⟩ := Option.bind_eq_some_iff.1 h5
  split at h5
  · rename_i hcond
    obtain ⟨rfl, hp0, hpq, hqc, hcl⟩ := hcond
    injection h5 with h5; subst h5
    have hp := operand_sound h hG hc h4
    have sl := operandO_sound h hG hl h1
    have sh := operand_sound h hG hh h2
    have sm := operand_sound h hG hm h3
    obtain ⟨xv, hxv⟩ : ∃ xv, a.eval x = xv := ⟨_, rfl⟩
    have hp' : Rep T m (.sl o' lab z xs sp) xv := hxv ▸ hp
    have key : ∃ v, (execOp a.eval o).run T.P m.w = .ok (.value v) m.w ∧ Rep T m (.sl false lab z (((xs ++ sp).take q.toNat).drop p.toNat) (((xs ++ sp).take c.toNat).drop q.toNat)) v := by
      cases hp' with
      | nil =>
        have hc0 : c = 0 := by simp at hcl; omega
        have hq0 : q = 0 := by omega
        have hp00 : p = 0 := by omega
        subst hc0; subst hq0; subst hp00
        have hb := run_bounds3 (T := T) (w := m.w) (isS := true) (len := 0) (cap := 0) (lo := hi) sl sh sm g1 g2 g3 (by omega) (by omega) (by omega) (by omega)
        refine ⟨.slice none 0 0, ?_, by simpa using Rep.nil _ _ _⟩
        simp only [execOp, ho, hxv, Instr.sliceAt, Sem.run_bind, runU hu, Result.andThen_ok, Instr.slice, Option.map_none, Option.map_some, hb, Sem.run_pure, runS hs]
        rfl
      | emp _ _ _ a0 =>
        have hc0 : c = 0 := by simp at hcl; omega
        have hq0 : q = 0 := by omega
        have hp00 : p = 0 := by omega
        subst hc0; subst hq0; subst hp00
        have hb := run_bounds3 (T := T) (w := m.w) (isS := true) (len := 0) (cap := 0) (lo := hi) sl sh sm g1 g2 g3 (by omega) (by omega) (by omega) (by omega)
        refine ⟨.slice (some a0) 0 0, ?_, by simpa using Rep.emp _ _ _ a0⟩
        simp only [execOp, ho, hxv, Instr.sliceAt, Sem.run_bind, runU hu, Result.andThen_ok, Instr.slice, Option.map_none, Option.map_some, hb, Sem.run_pure, runS hs]
        rfl
      | sl _ _ _ _ _ b off cap val hcap hz hmm hr hM =>
        have hcc : c ≤ (cap : Int) := by omega
        have hb := run_bounds3 (T := T) (w := m.w) (isS := true) (len := xs.length) (cap := cap) (lo := hi) sl sh sm g1 g2 g3 hp0 hpq hqc hcc
        have e2 := add_off (b := b) (o := off) (n := p.toNat * z)
        refine ⟨.slice (if c.toNat = p.toNat then some ⟨b, off, none⟩ else some ⟨b, off + p.toNat * z, none⟩) (q.toNat - p.toNat) (c.toNat - p.toNat), ?_, ?_⟩
        · simp only [execOp, ho, hxv, Instr.sliceAt, Sem.run_bind, runU hu, Result.andThen_ok, Instr.slice, Option.map_none, hb, Sem.run_pure, runS hs, Option.map_some, e2]
        · have hlen : (((xs ++ sp).take q.toNat).drop p.toNat).length = q.toNat - p.toNat := by simp at hcl ⊢; omega
          have hall : (((xs ++ sp).take q.toNat).drop p.toNat) ++ (((xs ++ sp).take c.toNat).drop q.toNat) = ((xs ++ sp).take c.toNat).drop p.toNat := by
            have e1 : (xs ++ sp).take q.toNat = ((xs ++ sp).take c.toNat).take q.toNat := by rw [List.take_take, Nat.min_eq_left (by omega)]
            rw [e1, ← List.drop_append_of_le_length (by simp at hcl ⊢; omega), List.take_append_drop]
          by_cases hcp : c.toNat = p.toNat
          · rw [if_pos hcp, ← hlen]
            have hnil : ((xs ++ sp).take c.toNat).drop p.toNat = [] := List.drop_eq_nil_of_le (by rw [List.length_take]; omega)
            refine Rep.sl _ _ _ _ _ b off _ val ?_ ?_ ?_ ?_ (by omega)
            · rw [hall, hnil]; simp
            · rw [hall, hnil]; intro x hx; cases hx
            · rw [hall, hnil]; intro i x j lv hx; simp at hx
            · rw [hall, hnil]; intro i x j lv hx; simp at hx
          · rw [if_neg hcp, ← hlen]
            have hget : ∀ (i : Nat) (y : List LV), (((xs ++ sp).take c.toNat).drop p.toNat)[i]? = some y → (xs ++ sp)[p.toNat + i]? = some y := by
              intro i y hy
              rw [List.getElem?_drop, List.getElem?_take] at hy
              split at hy
              · exact hy
              · cases hy
            refine Rep.sl _ _ _ _ _ b (off + p.toNat * z) _ (fun i j => val (p.toNat + i) j) ?_ ?_ ?_ ?_ (by omega)
            · rw [hall]; simp at hcap hcl ⊢; omega
            · rw [hall]; intro x hx; exact hz x (List.mem_of_mem_take (List.mem_of_mem_drop hx))
            · rw [hall]; intro i x j lv hx hj
              have := hmm _ x j lv (hget i x hx) hj
              rw [show off + (p.toNat + i) * z + j = off + p.toNat * z + i * z + j by rw [Nat.add_mul]; omega] at this
              exact this
            · rw [hall]; intro i x j lv hx hj
              exact hr _ x j lv (hget i x hx) hj
    obtain ⟨v, k1, k2⟩ := key
    exact OpOk.pure h k1 (VRep.of_rep k2) rfl
  · cases h5

theorem op_sliceStr (h : FR T st a.tmps m) (hG : Globs T E.gl m) {t : TypeId} {x : Operand} {y : Opd} {lo hi : Option Operand} {lo' hi' : Option Opd} (ho : o.op = .slice t x lo hi none) (hc : chkOpd T x y = true) (hl : chkOpdO T lo lo' = true) (hh : chkOpdO T hi hi' = true)
    (hu : T.P.underlying t = some .string)
    (hv : valOp E ev pb st dst (.sliceStr y lo' hi') = some (lv, st1, note)) : OpOk T pb st1 a dst m lv note (execOp a.eval o) := by
  simp only [valOp] at hv
  obtain ⟨l, h1, hv⟩ := Option.bind_eq_some_iff.1 hv
  obtain ⟨hhv, h2, hv⟩ := Option.bind_eq_some_iff.1 hv
  split at hv
  · rename_i s h3
    obtain ⟨p, h4, hv⟩ := Option.bind_eq_some_iff.1 hv
    obtain ⟨q, h5, hv⟩ := Option.bind_eq_some_iff.1 hv
    split at hv
    · rename_i hcond
      simp only [Option.some.injEq, Prod.mk.injEq] at hv
      obtain ⟨rfl, rfl, rfl⟩ := hv
      have hp := operand_sound h hG hc h3
      generalize hxv : a.eval x = xv at hp
      cases hp
      refine OpOk.pure h ?_ (Rep.str _) rfl
      have hb := run_bounds (T := T) (w := m.w) (isS := false) (len := s.size) (cap := s.size) (operandO_sound h hG hl h1) (operandO_sound h hG hh h2) h4 h5 hcond.1 hcond.2.1 hcond.2.2
      simp only [execOp, ho, hxv, Instr.sliceAt, Sem.run_bind, runU hu, Result.andThen_ok, Instr.slice, Option.map_none, Option.isSome_none, Bool.false_eq_true, if_false, hb, Sem.run_pure]
    · cases hv
  · cases hv

theorem op_slice (h : FR T st a.tmps m) (hG : Globs T E.gl m) {t e : TypeId} {sz : Nat} {x : Operand} {y : Opd} {lo hi : Option Operand} {lo' hi' : Option Opd} (ho : o.op = .slice t x lo hi none) (hc : chkOpd T x y = true) (hl : chkOpdO T lo lo' = true) (hh : chkOpdO T hi hi' = true)
    (hu : T.P.underlying t = some (.slice e)) (hs : sizeB T.P e = some sz)
    (hv : valOp E ev pb st dst (.slice sz y lo' hi') = some (lv, st1, note)) : OpOk T pb st1 a dst m lv note (execOp a.eval o) := by
  simp only [valOp] at hv
  obtain ⟨l, h1, hv⟩ := Option.bind_eq_some_iff.1 hv
  obtain ⟨hhv, h2, hv⟩ := Option.bind_eq_some_iff.1 hv
  split at hv
  · rename_i o' lab z xs sp h3
    obtain ⟨p, h4, hv⟩ := Option.bind_eq_some_iff.1 hv
    obtain ⟨q, h5, hv⟩ := Option.bind_eq_some_iff.1 hv
    split at hv
    · rename_i hcond
      obtain ⟨rfl, hp0, hpq, hq⟩ := hcond
      simp only [Option.some.injEq, Prod.mk.injEq] at hv
      obtain ⟨rfl, rfl, rfl⟩ := hv
      have hp := operand_sound h hG hc h3
      have hxv : ∃ xv, a.eval x = xv := ⟨_, rfl⟩
      obtain ⟨xv, hxv⟩ := hxv
      have hp' : Rep T m (.sl o' lab z xs sp) xv := hxv ▸ hp
      -- the new slice
      have key : ∃ v, (execOp a.eval o).run T.P m.w = .ok (.value v) m.w ∧ Rep T m (.sl false lab z (((xs ++ sp).take q.toNat).drop p.toNat) ((xs ++ sp).drop q.toNat)) v ∧ (hi = none → ∀ b i, tail z v b i → tail z xv b i) := by
        cases hp' with
        | nil =>
          have hq0 : q = 0 := by simp at hq; omega
          have hp00 : p = 0 := by omega
          subst hq0; subst hp00
          have hb := run_bounds (T := T) (w := m.w) (isS := true) (len := 0) (cap := 0) (operandO_sound h hG hl h1) (operandO_sound h hG hh h2) h4 (by simpa using h5) (by omega) (by omega) (by simp)
          refine ⟨.slice none 0 0, ?_, by simpa using Rep.nil _ _ _, fun _ b i ht => ht⟩
          simp only [execOp, ho, hxv, Instr.sliceAt, Sem.run_bind, runU hu, Result.andThen_ok, Instr.slice, Option.map_none, hb, Sem.run_pure, runS hs]
          rfl
        | emp _ _ _ a0 =>
          have hq0 : q = 0 := by simp at hq; omega
          have hp00 : p = 0 := by omega
          subst hq0; subst hp00
          have hb := run_bounds (T := T) (w := m.w) (isS := true) (len := 0) (cap := 0) (operandO_sound h hG hl h1) (operandO_sound h hG hh h2) h4 (by simpa using h5) (by omega) (by omega) (by simp)
          refine ⟨.slice (some a0) 0 0, ?_, by simpa using Rep.emp _ _ _ a0, fun _ b i ht => ht⟩
          simp only [execOp, ho, hxv, Instr.sliceAt, Sem.run_bind, runU hu, Result.andThen_ok, Instr.slice, Option.map_none, Option.map_some, hb, Sem.run_pure, runS hs]
          rfl
        | sl _ _ _ _ _ b off cap val hcap hz hm hr hM =>
          have hqc : q ≤ (cap : Int) := by omega
          have hb := run_bounds (T := T) (w := m.w) (isS := true) (len := xs.length) (cap := cap) (operandO_sound h hG hl h1) (operandO_sound h hG hh h2) h4 h5 hp0 hpq hqc
          have e2 := add_off (b := b) (o := off) (n := p.toNat * z)
          refine ⟨.slice (if cap = p.toNat then some ⟨b, off, none⟩ else some ⟨b, off + p.toNat * z, none⟩) (q.toNat - p.toNat) (cap - p.toNat), ?_, ?_, ?_⟩
          · simp only [execOp, ho, hxv, Instr.sliceAt, Sem.run_bind, runU hu, Result.andThen_ok, Instr.slice, Option.map_none, hb, Sem.run_pure, runS hs, Option.map_some, e2]
          · have hlen : (((xs ++ sp).take q.toNat).drop p.toNat).length = q.toNat - p.toNat := by simp at hq ⊢; omega
            have hall : (((xs ++ sp).take q.toNat).drop p.toNat) ++ ((xs ++ sp).drop q.toNat) = (xs ++ sp).drop p.toNat := by
              rw [← List.drop_append_of_le_length (by simp at hq ⊢; omega), List.take_append_drop]
            by_cases hcp : cap = p.toNat
            · rw [if_pos hcp, ← hlen]
              have hnil : (xs ++ sp).drop p.toNat = [] := List.drop_eq_nil_of_le (by omega)
              refine Rep.sl _ _ _ _ _ b off _ val ?_ ?_ ?_ ?_ (by omega)
              · rw [hall, hnil]; simp
              · rw [hall, hnil]; intro x hx; cases hx
              · rw [hall, hnil]; intro i x j lv hx; simp at hx
              · rw [hall, hnil]; intro i x j lv hx; simp at hx
            · rw [if_neg hcp, ← hlen]
              refine Rep.sl _ _ _ _ _ b (off + p.toNat * z) _ (fun i j => val (p.toNat + i) j) ?_ ?_ ?_ ?_ (by omega)
              · rw [hall]; simp at hcap ⊢; omega
              · rw [hall]; intro x hx; exact hz x (List.mem_of_mem_drop hx)
              · rw [hall]; intro i x j lv hx hj
                rw [List.getElem?_drop] at hx
                have := hm _ x j lv hx hj
                rw [show off + (p.toNat + i) * z + j = off + p.toNat * z + i * z + j by rw [Nat.add_mul]; omega] at this
                exact this
              · rw [hall]; intro i x j lv hx hj
                rw [List.getElem?_drop] at hx
                exact hr _ x j lv hx hj
          · intro hnone b' i ht
            subst hnone
            have hqe : q = (xs.length : Int) := by
              rcases operandO_sound h hG hh h2 with ⟨_, rfl⟩ | ⟨x', lv, e, _⟩
              · simpa [boundE] using h5.symm
              · cases e
            subst hqe
            by_cases hcp : cap = p.toNat
            · rw [if_pos hcp] at ht
              simp only [tail] at ht
              exfalso
              obtain ⟨_, t1, t2⟩ := ht
              have : (cap - p.toNat) * z = 0 := by rw [hcp]; simp
              omega
            · rw [if_neg hcp] at ht
              simp only [tail] at ht ⊢
              obtain ⟨t0, t1, t2⟩ := ht
              have hple : p.toNat ≤ xs.length := by omega
              have hlc : xs.length ≤ cap := by simp at hcap; omega
              refine ⟨t0, ?_, ?_⟩
              · have : p.toNat * z + (((xs.length : Int)).toNat - p.toNat) * z = xs.length * z := by rw [← Nat.add_mul]; congr 1; omega
                omega
              · have : p.toNat * z + (cap - p.toNat) * z = cap * z := by rw [← Nat.add_mul]; congr 1; omega
                omega
      obtain ⟨v, k1, k2, k3⟩ := key
      refine ⟨v, m, Post.refl _ _, k1, h, VRep.of_rep k2, fun _ _ => trivial, fun pl hpl => ?_⟩
      split at hpl
      · rename_i t
        have hmem := hpl
        obtain rfl := opd_tmp hc
        have hi0' : hi = none := by
          cases hi with
          | none => rfl
          | some _ => simp [chkOpdO] at hh
        obtain ⟨u, g1, g2⟩ := h.al _ _ hmem
        refine ⟨⟨u, g1, fun o2 l2 z2 xs2 sp2 e b i ht => ?_⟩, h.alo _ _ hmem⟩
        injection e with _ _ ez _ _; subst ez
        have ht2 := k3 hi0' b i ht
        -- what slot t holds
        simp only [St.operand] at h3
        split at h3
        · rename_i w hw
          injection h3 with h3
          obtain ⟨u2, q1, q2⟩ := h.val _ _ hw
          have hu2 : xv = u2 := by rw [← hxv]; simp [Act.eval, Array.getD_eq_getD_getElem?, q1]
          subst hu2
          cases w <;> simp only [LV.bare] at h3 <;> cases h3
          exact g2 _ _ _ _ _ _ hw q1 b i ht2
        · injection h3 with h3; cases h3
        · cases h3
      · cases hpl
    · cases hv
  · rename_i id off len cap z h3
    obtain ⟨p, h4, hv⟩ := Option.bind_eq_some_iff.1 hv
    obtain ⟨q, h5, hv⟩ := Option.bind_eq_some_iff.1 hv
    split at hv
    · rename_i hcond
      obtain ⟨rfl, hp0, hpq, hq⟩ := hcond
      simp only [Option.some.injEq, Prod.mk.injEq] at hv
      obtain ⟨rfl, rfl, rfl⟩ := hv
      have hp := operand_sound h hG hc h3
      generalize hxv : a.eval x = xv at hp
      have hp' : Rep T m (.msl id off len cap z) xv := hp
      cases hp' with
      | msl _ _ _ _ _ hid hM hl' =>
        have hb := run_bounds (T := T) (w := m.w) (isS := true) (len := len) (cap := cap) (operandO_sound h hG hl h1) (operandO_sound h hG hh h2) h4 h5 hp0 hpq hq
        have e2 := add_off (b := m.ob id) (o := off) (n := p.toNat * z)
        refine OpOk.pure h (v := .slice (if cap = p.toNat then some ⟨m.ob id, off, none⟩ else some ⟨m.ob id, off + p.toNat * z, none⟩) (q.toNat - p.toNat) (cap - p.toNat)) ?_ ?_ rfl
        · simp only [execOp, ho, hxv, Instr.sliceAt, Sem.run_bind, runU hu, Result.andThen_ok, Instr.slice, Option.map_none, hb, Sem.run_pure, runS hs, Option.map_some, e2]
        · have e3 : (if cap = p.toNat then some (Addr.mk (m.ob id) off none) else some ⟨m.ob id, off + p.toNat * z, none⟩) = some ⟨m.ob id, if cap = p.toNat then off else off + p.toNat * z, none⟩ := by
            split <;> rfl
          rw [e3]
          exact Rep.msl id _ _ _ z hid (by omega) (by omega)
    · cases hv
  · cases hv
end
end Tree

set_option autoImplicit false
set_option linter.unusedVariables false
set_option linter.unusedSimpArgs false
namespace Tree
open Go
section
variable {T : Tab} {E : Env} {ev : Ev} {pb : Nat} {st st1 : St} {a : Act} {dst : Option Nat} {m : Mem} {lv : LV} {note : Option Place} {o : Oper}

/-- Cells that read as told, and may lie in memory. -/
def CellsRep (T : Tab) (m : Mem) (cs : List LV) (vs : List Value) : Prop :=
  cs.length = vs.length ∧ ∀ (i : Nat) (c : LV), cs[i]? = some c → (vs.getD i undef).oneCell' = true ∧ Rep T m c (vs.getD i undef)
theorem rep_oneCell {c : LV} {v : Value} (h : Rep T m c v) (hc : c.isCell = true) : v.oneCell' = true := by
  cases h <;> first | rfl | simp [LV.isCell] at hc
theorem cells_sound {v : Value} (h : VRep T st a.tmps m lv v) (hc : lv.cells.all LV.isCell = true) : CellsRep T m lv.cells v.cells.toList := by
  cases lv with
  | agg cs =>
    have h' : Rep T m (.agg cs) v := h
    cases h' with
    | agg _ vs hl hr =>
      simp only [LV.cells, List.all_eq_true] at hc
      refine ⟨by simpa [LV.cells, Value.cells] using hl, fun i c hi => ?_⟩
      have e : (Value.cells (.agg vs)).toList.getD i undef = vs.getD i undef := by simp [Value.cells, Array.getD_eq_getD_getElem?, List.getD_eq_getElem?_getD]
      rw [e]
      exact ⟨rep_oneCell (hr i c hi) (hc c (List.mem_of_getElem? hi)), hr i c hi⟩
  | _ =>
    first
    | (simp [LV.cells, LV.isCell] at hc; done)
    | (have h' := VRep.rep h (by intro s o e; cases e)
       have h1 := rep_oneCell h' (by simpa [LV.cells] using hc)
       have e : v.cells.toList = [v] := by cases v <;> first | rfl | (simp [Value.oneCell'] at h1)
       rw [e]
       refine ⟨rfl, fun i c hi => ?_⟩
       cases i with
       | zero => simp [LV.cells] at hi; subst hi; exact ⟨h1, h'⟩
       | succ i => simp [LV.cells] at hi)
theorem CellsRep.mono {m' : Mem} {cs : List LV} {vs : List Value} (h : CellsRep T m cs vs) (hle : m.le m') : CellsRep T m' cs vs :=
  ⟨h.1, fun i c hi => ⟨(h.2 i c hi).1, (h.2 i c hi).2.mono hle⟩⟩

/-- Its right, if it has one, lies nowhere. -/
def Free (m : Mem) (c : LV) (v : Value) : Prop := ∀ l z xs sp, c = .sl true l z xs sp → ∀ k, Tail m z v k
def RF (T : Tab) (m : Mem) (c : LV) (v : Value) : Prop := Rep T m c v ∧ Free m c v
/-- Cells that read as told, whatever they are. -/
def AnyRep (T : Tab) (m : Mem) (cs : List LV) (vs : List Value) : Prop :=
  cs.length = vs.length ∧ ∀ (i : Nat) (c : LV), cs[i]? = some c → RF T m c (vs.getD i undef)
theorem cells_free {v : Value} (hv : VRep T st a.tmps m lv v) (ho : ∀ dst, Owns m lv v dst) (hc : lv.cells.all LV.isCell = true) : ∀ (i : Nat) (c : LV), lv.cells[i]? = some c → Free m c (v.cells.toList.getD i undef) := by
  intro i c hi l z xs sp e k
  subst e
  cases lv with
  | agg cs =>
    have h' : Rep T m (.agg cs) v := hv
    cases h' with
    | agg _ vs hl hr =>
      have e : (Value.cells (.agg vs)).toList.getD i undef = vs.getD i undef := by simp [Value.cells, Array.getD_eq_getD_getElem?, List.getD_eq_getElem?_getD]
      rw [e]
      exact ho (fun _ => k) vs rfl i l z xs sp hi
  | sl o l' z' xs' sp' =>
    have h1 := rep_oneCell hv rfl
    have e : v.cells.toList = [v] := by cases v <;> first | rfl | (simp [Value.oneCell'] at h1)
    rw [e]
    cases i with
    | succ i => simp [LV.cells] at hi
    | zero =>
      simp [LV.cells] at hi
      obtain ⟨rfl, rfl, rfl, rfl, rfl⟩ := hi
      exact ho (fun _ => k)
  | _ => (cases i with
    | zero => simp [LV.cells] at hi
    | succ i => simp [LV.cells] at hi)
theorem fold_set (off : Nat) : ∀ (l : List Value) (k : Nat) (cs : Array Value),
    ((l.zipIdx k).foldl (fun (cs : Array Value) (x : Value × Nat) => cs.setIfInBounds (off + x.2) x.1) cs).size = cs.size ∧
    ∀ i, ((l.zipIdx k).foldl (fun (cs : Array Value) (x : Value × Nat) => cs.setIfInBounds (off + x.2) x.1) cs)[i]? =
      if off + k ≤ i ∧ i < off + k + l.length ∧ i < cs.size then l[i - (off + k)]? else cs[i]?
  | [], k, cs => by
    refine ⟨rfl, fun i => ?_⟩
    rw [if_neg (by simp; omega)]; rfl
  | v :: l, k, cs => by
    obtain ⟨h1, h2⟩ := fold_set off l (k + 1) (cs.setIfInBounds (off + k) v)
    simp only [List.zipIdx_cons, List.foldl_cons]
    refine ⟨by rw [h1]; simp, fun i => ?_⟩
    rw [h2 i, aset_get?]
    simp only [Array.size_setIfInBounds, List.length_cons]
    by_cases hi : i = off + k
    · subst hi
      rw [if_neg (by omega), if_pos rfl]
      by_cases hs : off + k < cs.size
      · rw [if_pos hs, if_pos (by omega)]; simp
      · rw [if_neg hs, if_neg (by omega)]
        rw [Array.getElem?_eq_none (by omega)]
    · have e2 : (if off + k = i then (if off + k < cs.size then some v else none) else cs[i]?) = cs[i]? := if_neg (fun e => hi e.symm)
      rw [e2]
      by_cases hc : off + (k + 1) ≤ i ∧ i < off + (k + 1) + l.length ∧ i < cs.size
      · rw [if_pos hc, if_pos (by omega)]
        rw [show i - (off + k) = (i - (off + (k + 1))) + 1 by omega]; simp
      · rw [if_neg hc, if_neg (by omega)]
theorem splice_rep {zs ws : List LV} {cells : Array Value} {v : Value} {off : Nat} (hz : AnyRep T m zs cells.toList) (hw : AnyRep T m ws v.cells.toList) (hle : off + ws.length ≤ zs.length) :
    AnyRep T m (zs.take off ++ ws ++ zs.drop (off + ws.length)) (v.cells.zipIdx.foldl (fun cs (x : Value × Nat) => cs.setIfInBounds (off + x.2) x.1) cells).toList := by
  have hfold : v.cells.zipIdx.foldl (fun cs (x : Value × Nat) => cs.setIfInBounds (off + x.2) x.1) cells =
      (v.cells.toList.zipIdx 0).foldl (fun cs (x : Value × Nat) => cs.setIfInBounds (off + x.2) x.1) cells := by
    rw [← Array.foldl_toList, Array.toList_zipIdx]
  obtain ⟨h1, h2⟩ := fold_set off v.cells.toList 0 cells
  rw [hfold]
  have hzl := hz.1; have hwl := hw.1
  simp only [Array.length_toList] at hzl hwl
  refine ⟨?_, fun i c hi => ?_⟩
  · simp only [Array.length_toList]
    rw [h1]; simp; omega
  · have hget : ∀ u, ((v.cells.toList.zipIdx 0).foldl (fun cs (x : Value × Nat) => cs.setIfInBounds (off + x.2) x.1) cells)[i]? = some u → RF T m c u → RF T m c (((v.cells.toList.zipIdx 0).foldl (fun cs (x : Value × Nat) => cs.setIfInBounds (off + x.2) x.1) cells).toList.getD i undef) := by
      intro u hu hr
      have : (((v.cells.toList.zipIdx 0).foldl (fun cs (x : Value × Nat) => cs.setIfInBounds (off + x.2) x.1) cells).toList.getD i undef) = u := by
        rw [List.getD_eq_getElem?_getD, Array.getElem?_toList, hu]; rfl
      rw [this]; exact hr
    have hv := h2 i
    rw [List.append_assoc] at hi
    by_cases hc1 : i < off
    · rw [List.getElem?_append_left (by simp; omega), List.getElem?_take, if_pos hc1] at hi
      rw [if_neg (by omega)] at hv
      have hlt : i < cells.size := by omega
      rw [Array.getElem?_eq_getElem hlt] at hv
      have := hz.2 i c hi
      rw [List.getD_eq_getElem?_getD, Array.getElem?_toList, Array.getElem?_eq_getElem hlt] at this
      exact hget _ hv this
    · rw [List.getElem?_append_right (by simp; omega)] at hi
      have hmin : (zs.take off).length = off := by simp; omega
      rw [hmin] at hi
      by_cases hc2 : i < off + ws.length
      · rw [List.getElem?_append_left (by omega)] at hi
        rw [if_pos (by simp; omega)] at hv
        have hlt : i - off < v.cells.toList.length := by simp; omega
        rw [Nat.add_zero, List.getElem?_eq_getElem hlt] at hv
        have := hw.2 (i - off) c hi
        rw [List.getD_eq_getElem?_getD, List.getElem?_eq_getElem hlt] at this
        exact hget _ hv this
      · rw [List.getElem?_append_right (by omega), List.getElem?_drop] at hi
        rw [show off + ws.length + (i - off - ws.length) = i by omega] at hi
        rw [if_neg (by simp; omega)] at hv
        have hlt : i < cells.size := by have := (List.getElem?_eq_some_iff.1 hi).1; omega
        rw [Array.getElem?_eq_getElem hlt] at hv
        have := hz.2 i c hi
        rw [List.getD_eq_getElem?_getD, Array.getElem?_toList, Array.getElem?_eq_getElem hlt] at this
        exact hget _ hv this

/-- The parts of a literal, one behind the other. -/
inductive PartsRep (T : Tab) (st : St) (tmps : Array Value) (m : Mem) (place : Nat → Option (Nat × Nat)) : List (Nat × Value) → List (Nat × Nat × LV) → Prop
  | nil : PartsRep T st tmps m place [] []
  | cons {i off sz : Nat} {v : Value} {lv : LV} {r : List (Nat × Value)} {q : List (Nat × Nat × LV)} (hp : place i = some (off, sz)) (hv : VRep T st tmps m lv v) (ho : ∀ dst, Owns m lv v dst) (h : PartsRep T st tmps m place r q) : PartsRep T st tmps m place ((i, v) :: r) ((off, sz, lv) :: q)
theorem fill_sound {place : Nat → Option (Nat × Nat)} {ps : List (Nat × Value)} {qs : List (Nat × Nat × LV)} (h : PartsRep T st a.tmps m place ps qs) : ∀ {zs zs' : List LV} {cells : Array Value}, AnyRep T m zs cells.toList → fillE zs qs = some zs' →
    ∃ cells', Instr.fill place cells ps = some cells' ∧ AnyRep T m zs' cells'.toList := by
  induction h with
  | nil => intro zs zs' cells hz hf; simp only [fillE, Option.some.injEq] at hf; subst hf; exact ⟨cells, rfl, hz⟩
  | @cons i off sz v lv r q hp hv ho h ih =>
    intro zs zs' cells hz hf
    simp only [fillE] at hf
    split at hf
    · rename_i hc
      obtain ⟨hc1, hc2, hc3⟩ := hc
      have hcs := cells_sound hv hc3
      have hl := hcs.1
      simp only [Array.length_toList] at hl
      have hzl := hz.1
      simp only [Array.length_toList] at hzl
      have hsp := splice_rep (off := off) hz ⟨hcs.1, fun i c hi => ⟨(hcs.2 i c hi).2, cells_free hv ho hc3 i c hi⟩⟩ (by omega)
      rw [hc1] at hsp
      obtain ⟨cells', k1, k2⟩ := ih hsp hf
      refine ⟨cells', ?_, k2⟩
      simp only [Instr.fill, hp]
      rw [if_neg]
      · exact k1
      · simp only [ne_eq, Bool.or_eq_true, decide_eq_true_eq, not_or]
        omega
    · cases hf
end
end Tree

set_option autoImplicit false
set_option linter.unusedVariables false
set_option linter.unusedSimpArgs false
namespace Tree
open Go
section
variable {T : Tab} {E : Env} {ev : Ev} {pb : Nat} {st st1 : St} {a : Act} {dst : Option Nat} {m : Mem} {lv : LV} {note : Option Place} {o : Oper}

theorem runPlaces {P : Program} {w : World} : ∀ fs : List Field, (∀ f ∈ fs, (sizeB P f.type).isSome = true) →
    (fs.mapM fun f => do pure (f.offset, ← Go.sizeOf f.type) : Sem (List (Nat × Nat))).run P w = .ok (fs.map fun f => (f.offset, (sizeB P f.type).getD 0)) w
  | [], _ => by simp
  | f :: fs, h => by
    obtain ⟨n, hn⟩ := Option.isSome_iff_exists.1 (h f (by simp))
    have ih := runPlaces (P := P) (w := w) fs (fun g hg => h g (by simp [hg]))
    simp only [List.mapM_cons, Sem.run_bind, runS hn, Result.andThen_ok, Sem.run_pure, ih, List.map_cons, hn, Option.getD_some]

theorem parts_sound (h : FR T st a.tmps m) (hG : Globs T E.gl m) {fs : Array Field} : ∀ (ps : List (Nat × Operand)) (qs : List (Nat × Nat × Opd)) (vs : List LV),
    chkParts T.P T fs ps qs = true → st.operands E.gl (qs.map (·.2.2)) = some vs →
    PartsRep T st a.tmps m (fun i => (fs.map fun f => (f.offset, (sizeB T.P f.type).getD 0))[i]?) (ps.map fun p => (p.1, a.eval p.2)) ((qs.map fun p => (p.1, p.2.1)).zipWith (fun p v => (p.1, p.2, v)) vs)
  | [], [], vs, _, hv => by simp [St.operands] at hv; subst hv; exact .nil
  | [], _ :: _, _, hc, _ => by simp [chkParts] at hc
  | _ :: _, [], _, hc, _ => by simp [chkParts] at hc
  | (i, x) :: ps, (off, sz, y) :: qs, vs, hc, hv => by
    simp only [chkParts, Bool.and_eq_true] at hc
    obtain ⟨⟨hf, hx⟩, hr⟩ := hc
    simp only [List.map_cons, St.operands] at hv
    obtain ⟨v, h1, h2⟩ := Option.bind_eq_some_iff.1 hv
    obtain ⟨ws, h3, rfl⟩ := Option.map_eq_some_iff.1 h2
    simp only [List.map_cons, List.zipWith_cons_cons]
    refine .cons ?_ (operand_sound h hG hx h1) (fun dst => operand_owns hx h1 dst) (parts_sound h hG ps qs ws hr h3)
    split at hf
    · rename_i f hfi
      simp only [Bool.and_eq_true, beq_iff_eq] at hf
      simp [hfi, hf.1, hf.2]
    · cases hf
theorem partsA_sound (h : FR T st a.tmps m) (hG : Globs T E.gl m) {es : Nat} : ∀ (ps : List (Nat × Operand)) (qs : List (Nat × Nat × Opd)) (vs : List LV),
    chkPartsA T es ps qs = true → st.operands E.gl (qs.map (·.2.2)) = some vs →
    PartsRep T st a.tmps m (fun i => some (i * es, es)) (ps.map fun p => (p.1, a.eval p.2)) ((qs.map fun p => (p.1, p.2.1)).zipWith (fun p v => (p.1, p.2, v)) vs)
  | [], [], vs, _, hv => by simp [St.operands] at hv; subst hv; exact .nil
  | [], _ :: _, _, hc, _ => by simp [chkPartsA] at hc
  | _ :: _, [], _, hc, _ => by simp [chkPartsA] at hc
  | (i, x) :: ps, (off, sz, y) :: qs, vs, hc, hv => by
    simp only [chkPartsA, Bool.and_eq_true, beq_iff_eq] at hc
    obtain ⟨⟨⟨rfl, rfl⟩, hx⟩, hr⟩ := hc
    simp only [List.map_cons, St.operands] at hv
    obtain ⟨v, h1, h2⟩ := Option.bind_eq_some_iff.1 hv
    obtain ⟨ws, h3, rfl⟩ := Option.map_eq_some_iff.1 h2
    simp only [List.map_cons, List.zipWith_cons_cons]
    exact .cons rfl (operand_sound h hG hx h1) (fun dst => operand_owns hx h1 dst) (partsA_sound h hG ps qs ws hr h3)

theorem zero_sound {t : TypeId} {z : List LV} (hz : chkZero T.P t z = true) : ∃ i v, T.P.info? t = some i ∧ i.zero = some v ∧ z.length = i.size ∧ constsOk z v.cells.toList = true ∧ AnyRep T m z v.cells.toList := by
  unfold chkZero at hz
  split at hz
  · rename_i i hi
    split at hz
    · rename_i v hv
      simp only [Bool.and_eq_true, beq_iff_eq] at hz
      obtain ⟨h1, h2⟩ := constsRep (T := T) (m := m) _ _ hz.1
      refine ⟨i, v, hi, hv, hz.2, hz.1, h1, fun j c hj => ⟨h2 j c hj, fun l z' xs sp e k => ?_⟩⟩
      subst e
      exact constOwns1 (constsOk_get _ _ hz.1 j _ hj) k
    · cases hz
  · cases hz
theorem any_agg {cs : List LV} {vs : Array Value} (h : AnyRep T m cs vs.toList) : Rep T m (.agg cs) (.agg vs) := by
  refine .agg _ _ (by simpa using h.1) fun i lv hi => ?_
  have := (h.2 i lv hi).1
  simpa [Array.getD_eq_getD_getElem?, List.getD_eq_getElem?_getD] using this
theorem any_owns {cs : List LV} {vs : Array Value} (h : AnyRep T m cs vs.toList) (dst : Option Nat → Kd) : Owns m (.agg cs) (.agg vs) dst := by
  intro vs' e i l z xs sp hi
  injection e with e; subst e
  have := (h.2 i _ hi).2 l z xs sp rfl (dst (some i))
  simpa [Array.getD_eq_getD_getElem?, List.getD_eq_getElem?_getD] using this

theorem op_build (h : FR T st a.tmps m) (hG : Globs T E.gl m) {s : TypeId} {parts : Array (Nat × Operand)} {zero : List LV} {parts' : List (Nat × Nat × Opd)} (ho : o.op = .build s parts) (hz : chkZero T.P s zero = true)
    (hu : (∃ fs, T.P.underlying s = some (.struct fs) ∧ (fs.all fun f => (sizeB T.P f.type).isSome) = true ∧ chkParts T.P T fs parts.toList parts' = true) ∨
      (∃ n e es, T.P.underlying s = some (.array n e) ∧ sizeB T.P e = some es ∧ chkPartsA T es parts.toList parts' = true))
    (hv : valOp E ev pb st dst (.build zero parts') = some (lv, st1, note)) : OpOk T pb st1 a dst m lv note (execOp a.eval o) := by
  simp only [valOp] at hv
  obtain ⟨vs, h1, hv⟩ := Option.bind_eq_some_iff.1 hv
  obtain ⟨cs, h2, hv⟩ := Option.bind_eq_some_iff.1 hv
  split at hv
  · simp only [Option.some.injEq, Prod.mk.injEq] at hv
    obtain ⟨rfl, rfl, rfl⟩ := hv
    obtain ⟨i, v, z1, z2, z3, z4, z5⟩ := zero_sound (m := m) hz
    have hmap : (parts.map fun p => (p.1, a.eval p.2)).toList = parts.toList.map fun p => (p.1, a.eval p.2) := by simp
    rcases hu with ⟨fs, hu, hall, hc⟩ | ⟨n, e, es, hu, hes, hc⟩
    · obtain ⟨cells, k1, k2⟩ := fill_sound (parts_sound h hG _ _ _ hc h1) z5 h2
      refine ⟨.agg cells, m, Post.refl _ _, ?_, h, VRep.of_rep (any_agg k2), fun d _ => any_owns k2 _, fun p hp => by cases hp⟩
      have hpl := runPlaces (P := T.P) (w := m.w) fs.toList (fun f hf => (Array.all_eq_true_iff_forall_mem.1 hall) f (by simpa using hf))
      simp only [execOp, ho, Instr.build, Sem.run_bind, runZ z1 z2, Result.andThen_ok, runU hu, Array.mapM_eq_mapM_toList, Sem.run_map]
      rw [hpl]
      simp only [Result.andThen_ok, hmap]
      have e : (fun x : Nat => (fs.toList.map fun f => (f.offset, (sizeB T.P f.type).getD 0)).toArray[x]?) = fun x : Nat => (fs.map fun f => (f.offset, (sizeB T.P f.type).getD 0))[x]? := by
        funext x; simp
      rw [e, k1]; rfl
    · obtain ⟨cells, k1, k2⟩ := fill_sound (partsA_sound h hG _ _ _ hc h1) z5 h2
      refine ⟨.agg cells, m, Post.refl _ _, ?_, h, VRep.of_rep (any_agg k2), fun d _ => any_owns k2 _, fun p hp => by cases hp⟩
      simp only [execOp, ho, Instr.build, Sem.run_bind, runZ z1 z2, Result.andThen_ok, runU hu, runS hes, hmap, k1]; rfl
  · cases hv
theorem op_buildM (h : FR T st a.tmps m) (hG : Globs T E.gl m) {s : TypeId} {parts : Array (Nat × Operand)} {i off : Nat} {zero : List LV} {x : Operand} {y : Opd} {fs : Array Field} {f : Field} (ho : o.op = .build s parts) (hp : parts.toList = [(i, x)]) (hz : chkZero T.P s zero = true)
    (hu : T.P.underlying s = some (.struct fs)) (hall : (fs.all fun f => (sizeB T.P f.type).isSome) = true) (hfi : fs[i]? = some f) (hoff : f.offset = off) (hs : sizeB T.P f.type = some 1) (hc : chkOpd T x y = true)
    (hv : valOp E ev pb st dst (.buildM zero off y) = some (lv, st1, note)) : OpOk T pb st1 a dst m lv note (execOp a.eval o) := by
  simp only [valOp] at hv
  obtain ⟨⟨p, s1⟩, h1, hv⟩ := Option.bind_eq_some_iff.1 hv
  obtain ⟨v, h2, h3⟩ := Option.map_eq_some_iff.1 hv
  simp only [Prod.mk.injEq] at h3
  obtain ⟨rfl, rfl, rfl⟩ := h3
  cases p <;> simp only [wrapE] at h2 <;> try (cases h2; done)
  rename_i o' l z xs sp
  split at h2
  · rename_i hlt
    injection h2 with h2; subst h2
    obtain ⟨g, hg⟩ := take_sound h hG hc h1 (fun _ => match dst with | some d => .tail ⟨.slot d, some off⟩ | none => .res none)
    obtain ⟨iz, v0, z1, z2, z3, z4, z5⟩ := zero_sound (m := m.ren g) hz
    have hrep : Rep T (m.ren g) (.sl o' l z xs sp) (a.eval x) := hg.rep
    obtain ⟨b0, n0, c0, hx⟩ : ∃ b n c, a.eval x = .slice b n c := by
      generalize a.eval x = xv at hrep
      cases hrep <;> exact ⟨_, _, _, rfl⟩
    have hsz : v0.cells.size = zero.length := by rw [← Array.length_toList, ← z5.1]
    have hget : ∀ j, (v0.cells.setIfInBounds off (a.eval x)).getD j undef = if j = off then a.eval x else v0.cells.getD j undef := by
      intro j
      simp only [Array.getD_eq_getD_getElem?, Array.getElem?_setIfInBounds]
      by_cases e : off = j
      · subst e; rw [if_pos rfl, if_pos (by omega), if_pos rfl]; rfl
      · rw [if_neg e, if_neg (fun h => e h.symm)]
    have hmap : (parts.map fun p => (p.1, a.eval p.2)).toList = [(i, a.eval x)] := by simp [hp]
    refine ⟨.agg (v0.cells.setIfInBounds off (a.eval x)), m.ren g, Post.of_ren hg.ok m, ?_, hg.fr, ?_, fun d hd => ?_, fun p hp => by cases hp⟩
    · have hpl := runPlaces (P := T.P) (w := m.w) fs.toList (fun f hf => (Array.all_eq_true_iff_forall_mem.1 hall) f (by simpa using hf))
      simp only [execOp, ho, Instr.build, Sem.run_bind, runZ z1 z2, Result.andThen_ok, runU hu, Array.mapM_eq_mapM_toList, Sem.run_map]
      rw [hpl]
      simp only [Result.andThen_ok, hmap]
      have e : (fun x : Nat => (fs.toList.map fun f => (f.offset, (sizeB T.P f.type).getD 0)).toArray[x]?) = fun x : Nat => (fs.map fun f => (f.offset, (sizeB T.P f.type).getD 0))[x]? := by
        funext x; simp
      rw [e]
      have hplace : (fs.map fun f => (f.offset, (sizeB T.P f.type).getD 0))[i]? = some (off, 1) := by simp [hfi, hoff, hs]
      have hfill : Instr.fill (fun x : Nat => (fs.map fun f => (f.offset, (sizeB T.P f.type).getD 0))[x]?) v0.cells [(i, a.eval x)] = some (v0.cells.setIfInBounds off (a.eval x)) := by
        simp only [Instr.fill, hplace]
        have hc1 : (a.eval x).cells = #[a.eval x] := by rw [hx]; rfl
        rw [hc1, if_neg]
        · rfl
        · simp; omega
      rw [hfill]; rfl
    · show Rep T (m.ren g) (.agg (zero.set off (.sl o' l z xs sp))) _
      refine .agg _ _ (by simp; omega) fun j c hj => ?_
      rw [hget]
      rw [List.getElem?_set] at hj
      by_cases e : off = j
      · subst e
        rw [if_pos rfl, if_pos hlt] at hj
        injection hj with hj; subst hj
        rw [if_pos rfl]; exact hrep
      · rw [if_neg e] at hj
        rw [if_neg (fun h => e h.symm)]
        have := (z5.2 j c hj).1
        simpa [Array.getD_eq_getD_getElem?, List.getD_eq_getElem?_getD] using this
    · subst hd
      intro vs' e j l' z' xs' sp' hj
      injection e with e; subst e
      rw [hget]
      rw [List.getElem?_set] at hj
      by_cases e : off = j
      · subst e
        rw [if_pos rfl, if_pos hlt] at hj
        injection hj with hj
        rw [if_pos rfl]
        have how := hg.owns
        rw [hj] at how
        exact how
      · rw [if_neg e] at hj
        rw [if_neg (fun h => e h.symm)]
        have := (z5.2 j _ hj).2 _ _ _ _ rfl (.tail ⟨.slot d, some j⟩)
        simpa [Array.getD_eq_getD_getElem?, List.getD_eq_getElem?_getD] using this
  · cases h2
end
end Tree

set_option autoImplicit false
set_option linter.unusedVariables false
set_option linter.unusedSimpArgs false
namespace Tree
open Go

theorem flat_get {α : Type} {sz : Nat} : ∀ (xs : List (List α)), (∀ x ∈ xs, x.length = sz) → ∀ (i j : Nat), j < sz → xs.flatten[i * sz + j]? = (xs[i]?).bind (·[j]?)
  | [], _, i, j, _ => by simp
  | x :: xs, h, i, j, hj => by
    have hx := h x (by simp)
    cases i with
    | zero => simp only [Nat.zero_mul, Nat.zero_add, List.flatten_cons, List.getElem?_cons_zero, Option.bind_some]; rw [List.getElem?_append_left (by omega)]
    | succ i =>
      have ih := flat_get xs (fun y hy => h y (by simp [hy])) i j hj
      rw [List.flatten_cons, List.getElem?_append_right (by rw [hx, Nat.succ_mul]; omega), hx]
      rw [show (i + 1) * sz + j - sz = i * sz + j by rw [Nat.succ_mul]; omega, ih]; simp
theorem flat_len {α : Type} {sz : Nat} : ∀ (xs : List (List α)), (∀ x ∈ xs, x.length = sz) → xs.flatten.length = xs.length * sz
  | [], _ => by simp
  | x :: xs, h => by
    rw [List.flatten_cons, List.length_append, flat_len xs (fun y hy => h y (by simp [hy])), h x (by simp), List.length_cons, Nat.succ_mul]; omega
theorem flat_split {sz k : Nat} (h : 0 < sz) : k = (k / sz) * sz + k % sz := by
  have := Nat.div_add_mod k sz; rw [Nat.mul_comm] at this; exact this.symm
theorem flat_set {α : Type} {sz : Nat} (xs : List (List α)) (hx : ∀ x ∈ xs, x.length = sz) (i : Nat) (hi : i < xs.length) (r : List α) (hr : r.length = sz) :
    (xs.set i r).flatten = xs.flatten.take (i * sz) ++ r ++ xs.flatten.drop (i * sz + sz) := by
  induction xs generalizing i with
  | nil => simp at hi
  | cons x xs ih =>
    have h0 := hx x (by simp)
    cases i with
    | zero => simp [h0, List.drop_append, List.drop_eq_nil_of_le]
    | succ i =>
      have := ih (fun y hy => hx y (by simp [hy])) i (by simpa using hi)
      simp only [List.set_cons_succ, List.flatten_cons, this]
      rw [Nat.succ_mul, Nat.add_comm (i * sz) sz, ← h0, List.take_length_add_append, Nat.add_assoc, List.drop_length_add_append]
      simp only [List.append_assoc]
      rw [Nat.add_comm x.length (i * x.length)]

section
variable {T : Tab} {E : Env} {ev : Ev} {pb : Nat} {st st1 : St} {a : Act} {dst : Option Nat} {m : Mem} {lv : LV} {note : Option Place} {o : Oper}

theorem AnyRep.bare1 {cs : List LV} {vs : List Value} (h : AnyRep T m cs vs) : AnyRep T m (cs.map LV.bare1) vs := by
  refine ⟨by simpa using h.1, fun i c hi => ?_⟩
  rw [List.getElem?_map] at hi
  obtain ⟨x, hx, rfl⟩ := Option.map_eq_some_iff.1 hi
  refine ⟨(h.2 i x hx).1.bare1, fun l z xs sp e => absurd e bare1_true⟩
theorem fillRows_len {sz : Nat} : ∀ (ps : List (Nat × LV)) (rows rows' : List (List LV)), (∀ x ∈ rows, x.length = sz) → fillRows sz rows ps = some rows' → rows'.length = rows.length ∧ ∀ x ∈ rows', x.length = sz
  | [], rows, rows', hx, h => by simp [fillRows] at h; subst h; exact ⟨rfl, hx⟩
  | (i, v) :: ps, rows, rows', hx, h => by
    simp only [fillRows] at h
    split at h
    · rename_i hc
      obtain ⟨h1, h2⟩ := fillRows_len ps _ _ (fun x hm => by
        rcases List.mem_or_eq_of_mem_set hm with hm | rfl
        · exact hx x hm
        · simpa using hc.1) h
      exact ⟨by simpa using h1, h2⟩
    · cases h

theorem fillRows_sound {sz : Nat} {ps : List (Nat × Value)} {qs : List (Nat × LV)} (hp : PartsRep T st a.tmps m (fun i => some (i * sz, sz)) ps (qs.map fun q => (q.1 * sz, sz, q.2))) :
    ∀ {rows rows' : List (List LV)} {cells : Array Value}, (∀ x ∈ rows, x.length = sz) → AnyRep T m rows.flatten cells.toList → fillRows sz rows qs = some rows' →
    ∃ cells', Instr.fill (fun i => some (i * sz, sz)) cells ps = some cells' ∧ AnyRep T m rows'.flatten cells'.toList := by
  generalize hqs : qs.map (fun q => (q.1 * sz, sz, q.2)) = qs' at hp
  induction hp generalizing qs with
  | nil =>
    intro rows rows' cells _ hz hf
    have : qs = [] := by simpa using hqs
    subst this
    simp only [fillRows, Option.some.injEq] at hf; subst hf; exact ⟨cells, rfl, hz⟩
  | @cons i off s v lv r q hpl hv ho h ih =>
    intro rows rows' cells hx hz hf
    cases qs with
    | nil => simp at hqs
    | cons q0 qs =>
      obtain ⟨j, w⟩ := q0
      simp only [List.map_cons, List.cons.injEq, Prod.mk.injEq] at hqs
      obtain ⟨⟨e1, e2, e3⟩, e4⟩ := hqs
      subst e3; subst e2; subst e1
      injection hpl with hpl; injection hpl with hpl _
      simp only [fillRows] at hf
      split at hf
      · rename_i hc
        obtain ⟨hc1, hc2, hc3⟩ := hc
        have hcs := cells_sound hv hc3
        have hl := hcs.1
        simp only [Array.length_toList] at hl
        have hzl := hz.1
        simp only [Array.length_toList] at hzl
        rw [flat_len rows hx] at hzl
        have hmul : j * sz + sz ≤ rows.length * sz := by rw [← Nat.succ_mul]; exact Nat.mul_le_mul_right _ hc2
        have hsp := splice_rep (off := j * sz) hz (AnyRep.bare1 ⟨hcs.1, fun i c hi => ⟨(hcs.2 i c hi).2, cells_free hv ho hc3 i c hi⟩⟩) (by rw [List.length_map, hc1, flat_len rows hx]; omega)
        rw [List.length_map, hc1, ← flat_set rows hx j hc2 _ (by simpa using hc1)] at hsp
        obtain ⟨cells', k1, k2⟩ := ih e4 (fun x hm => by
          rcases List.mem_or_eq_of_mem_set hm with hm | rfl
          · exact hx x hm
          · simpa using hc1) hsp hf
        refine ⟨cells', ?_, k2⟩
        simp only [Instr.fill]
        rw [hpl, if_neg]
        · exact k1
        · simp only [ne_eq, Bool.or_eq_true, decide_eq_true_eq, not_or]
          omega
      · cases hf
theorem rows_sound (h : FR T st a.tmps m) (hG : Globs T E.gl m) {sz : Nat} : ∀ (ps : List (Nat × Operand)) (qs : List (Nat × Opd)) (vs : List LV),
    chkRows T ps qs = true → st.operands E.gl (qs.map (·.2)) = some vs →
    PartsRep T st a.tmps m (fun i => some (i * sz, sz)) (ps.map fun p => (p.1, a.eval p.2)) (((qs.map (·.1)).zip vs).map fun q => (q.1 * sz, sz, q.2))
  | [], [], vs, _, hv => by simp [St.operands] at hv; subst hv; exact .nil
  | [], _ :: _, _, hc, _ => by simp [chkRows] at hc
  | _ :: _, [], _, hc, _ => by simp [chkRows] at hc
  | (i, x) :: ps, (j, y) :: qs, vs, hc, hv => by
    simp only [chkRows, Bool.and_eq_true, beq_iff_eq] at hc
    obtain ⟨⟨rfl, hx⟩, hr⟩ := hc
    simp only [List.map_cons, St.operands] at hv
    obtain ⟨v, h1, h2⟩ := Option.bind_eq_some_iff.1 hv
    obtain ⟨ws, h3, rfl⟩ := Option.map_eq_some_iff.1 h2
    simp only [List.map_cons, List.zip_cons_cons]
    exact .cons rfl (operand_sound h hG hx h1) (fun dst => operand_owns hx h1 dst) (rows_sound h hG ps qs ws hr h3)

/-- A new block all of whose cells stay as they are, told as a slice. -/
theorem new_slice {xs : List (List LV)} {sz cap : Nat} {cells : Array Value} {ty : TypeId} (c : Nat → Kd) (hx : ∀ x ∈ xs, x.length = sz) (hcap : xs.length ≤ cap) (hM : cap ≤ maxLen) (hsz : 0 < sz)
    (hc : ∀ o, o < xs.length * sz → c o = .imm 0)
    (hr : ∀ (i : Nat) (lv : LV), xs.flatten[i]? = some lv → ∃ v, cells[i]? = some v ∧ v.oneCell' = true ∧ Rep T m lv v) (own : Bool) :
    Rep T (m.alloc (.cells cells ty) c) (.sl own 0 sz xs []) (.slice (some ⟨m.w.heap.size, 0, none⟩) xs.length cap) := by
  have hget : ∀ i x j lv, (xs ++ [])[i]? = some x → x[j]? = some lv → ∃ v, cells[i * sz + j]? = some v ∧ v.oneCell' = true ∧ Rep T m lv v ∧ i * sz + j < xs.length * sz := by
    intro i x j lv hi hj
    rw [List.append_nil] at hi
    have hxl := hx x (List.mem_of_getElem? hi)
    have hjl : j < sz := by rw [← hxl]; exact (List.getElem?_eq_some_iff.1 hj).1
    have hf := flat_get xs hx i j hjl
    rw [hi, Option.bind_some, hj] at hf
    obtain ⟨v, h1, h2, h3⟩ := hr _ _ hf
    have hlt := (List.getElem?_eq_some_iff.1 hf).1
    rw [flat_len xs hx] at hlt
    exact ⟨v, h1, h2, h3, hlt⟩
  refine Rep.sl own 0 sz xs [] m.w.heap.size 0 cap (fun i j => cells.getD (i * sz + j) undef) (by simpa using hcap) (by simpa using hx) (fun i x j lv hi hj => ?_) (fun i x j lv hi hj => ?_) hM
  · obtain ⟨v, h1, h2, h3, h4⟩ := hget i x j lv hi hj
    have e : cells.getD (i * sz + j) undef = v := by rw [Array.getD_eq_getD_getElem?, h1]; rfl
    simp only [e, Nat.zero_add]
    refine ⟨?_, ?_, h2⟩
    · show (if m.w.heap.size = m.w.heap.size then c (i * sz + j) else _) = _
      rw [if_pos rfl]; exact hc _ h4
    · show ((m.w.alloc _).cell? _) = _
      rw [World.cell?_alloc_new]; exact h1
  · obtain ⟨v, h1, h2, h3, h4⟩ := hget i x j lv hi hj
    have e : cells.getD (i * sz + j) undef = v := by rw [Array.getD_eq_getD_getElem?, h1]; rfl
    simp only [e]
    exact h3.mono (le_alloc _ _ _)

theorem op_buildSlice (h : FR T st a.tmps m) (hG : Globs T E.gl m) {s e : TypeId} {n sz : Nat} {parts : Array (Nat × Operand)} {zero : List LV} {parts' : List (Nat × Opd)} (ho : o.op = .buildSlice s n parts) (hn : n * sz ≤ 16777216)
    (hu : T.P.underlying s = some (.slice e)) (hs : sizeB T.P e = some sz) (hsz : sz ≠ 0) (hz : chkZero T.P e zero = true) (hc : chkRows T parts.toList parts' = true)
    (hv : valOp E ev pb st dst (.buildSlice n sz zero parts') = some (lv, st1, note)) : OpOk T pb st1 a dst m lv note (execOp a.eval o) := by
  simp only [valOp] at hv
  obtain ⟨vs, h1, hv⟩ := Option.bind_eq_some_iff.1 hv
  obtain ⟨xs, h2, hv⟩ := Option.bind_eq_some_iff.1 hv
  split at hv
  · rename_i hall
    simp only [Option.some.injEq, Prod.mk.injEq] at hv
    obtain ⟨rfl, rfl, rfl⟩ := hv
    obtain ⟨i, v, z1, z2, z3, z4, z5⟩ := zero_sound (m := m) hz
    have hsi : i.size = sz := by
      simp only [sizeB, z1, Option.map_some, Option.some.injEq] at hs; exact hs
    have hzl : zero.length = sz := by rw [z3, hsi]
    have hvl : v.cells.size = sz := by have := z5.1; simp only [Array.length_toList] at this; omega
    have hrows : ∀ x ∈ List.replicate n zero, x.length = sz := by intro x hx; rw [(List.mem_replicate.1 hx).2]; exact hzl
    have h0 : AnyRep T m (List.replicate n zero).flatten ((Array.range (n * sz)).map (v.cells[· % v.cells.size]!)).toList := by
      refine ⟨by rw [flat_len _ hrows]; simp, fun k c hk => ?_⟩
      have hlt := (List.getElem?_eq_some_iff.1 hk).1
      rw [flat_len _ hrows, List.length_replicate] at hlt
      have hkm : k % sz < sz := Nat.mod_lt _ (by omega)
      rw [flat_split (sz := sz) (k := k) (by omega), flat_get _ hrows _ _ hkm] at hk
      obtain ⟨x, hx1, hx2⟩ := Option.bind_eq_some_iff.1 hk
      rw [List.getElem?_replicate] at hx1
      split at hx1
      · injection hx1 with hx1; subst hx1
        have := z5.2 _ c hx2
        have e : ((Array.range (n * sz)).map (v.cells[· % v.cells.size]!)).toList.getD k undef = v.cells.toList.getD (k % sz) undef := by
          rw [List.getD_eq_getElem?_getD, List.getD_eq_getElem?_getD, Array.getElem?_toList, Array.getElem?_toList, Array.getElem?_map, Array.getElem?_range, if_pos hlt, hvl]
          simp only [Option.map_some, Option.getD_some]
          rw [getElem!_pos v.cells (k % sz) (by omega), Array.getElem?_eq_getElem (by omega)]; rfl
        rw [e]; exact this
      · cases hx1
    obtain ⟨cells, k1, k2⟩ := fillRows_sound (rows_sound h hG _ _ _ hc h1) hrows h0 h2
    obtain ⟨l1, l2⟩ := fillRows_len _ _ _ hrows h2
    rw [List.length_replicate] at l1
    have hmap : (parts.map fun p => (p.1, a.eval p.2)).toList = parts.toList.map fun p => (p.1, a.eval p.2) := by simp
    have hrun : (execOp a.eval o).run T.P m.w = .ok (.value (.slice (some ⟨m.w.heap.size, 0, none⟩) n n)) (m.w.alloc (.cells cells e)) := by
      have hle : ¬ (n * sz > 2 ^ 24) := by omega
      simp only [execOp, ho, Instr.buildSlice, Sem.run_bind, runU hu, Result.andThen_ok, runS hs, Sem.run_ite, if_neg hle, Sem.run_pure]
      by_cases hn0 : n * sz = 0
      · rw [if_pos hn0]
        try simp only [Result.andThen_ok]
        have hn00 : n = 0 := by rcases Nat.mul_eq_zero.1 hn0 with h | h; exact h; exact absurd h hsz
        subst hn00
        have e1 : ((Array.range (0 * sz)).map fun x => (#[] : Array Value)[x % (#[] : Array Value).size]!) = (Array.range (0 * sz)).map (v.cells[· % v.cells.size]!) := by simp
        rw [e1, hmap, k1]
        simp only [newRow, Sem.run_bind, run_newObj, Sem.run_pure, Result.andThen_ok, World.alloc_eq]
      · rw [if_neg hn0]
        simp only [Sem.run_bind, runZ z1 z2, Result.andThen_ok, Sem.run_pure, hmap, k1]
        simp only [newRow, Sem.run_bind, run_newObj, Sem.run_pure, Result.andThen_ok, World.alloc_eq]
    have hcell : ∀ (j : Nat) (lv : LV), xs.flatten[j]? = some lv → ∃ u, cells[j]? = some u ∧ u.oneCell' = true ∧ Rep T m lv u := by
      intro j lv hj
      have hlt := (List.getElem?_eq_some_iff.1 hj).1
      have hl := k2.1
      simp only [Array.length_toList] at hl
      obtain ⟨r1, r2⟩ := k2.2 j lv hj
      have e : cells.toList.getD j undef = cells[j]'(by omega) := by
        rw [List.getD_eq_getElem?_getD, Array.getElem?_toList, Array.getElem?_eq_getElem (by omega)]; rfl
      rw [e] at r1
      refine ⟨_, Array.getElem?_eq_getElem (by omega), rep_oneCell r1 ?_, r1⟩
      simp only [List.all_eq_true] at hall
      obtain ⟨x, hx1, hx2⟩ := List.mem_flatten.1 (List.mem_of_getElem? hj)
      exact hall x hx1 lv hx2
    have hrep := new_slice (T := T) (m := m) (cells := cells) (ty := e) (cap := n) (fun _ => .imm 0) l2 (by omega) (by
      have : n * 1 ≤ n * sz := Nat.mul_le_mul_left n (by omega)
      unfold maxLen; omega) (by omega) (fun _ _ => rfl) hcell true
    rw [l1] at hrep
    refine ⟨_, m.alloc (.cells cells e) (fun _ => .imm 0), Post.alloc _ _ _ _, hrun, h.ext (ext_alloc _ _ _) rfl, VRep.of_rep hrep, fun d _ => ?_, fun p hp => by cases hp⟩
    intro b o' ht
    simp only [tail] at ht
    omega
  · cases hv
end
end Tree
