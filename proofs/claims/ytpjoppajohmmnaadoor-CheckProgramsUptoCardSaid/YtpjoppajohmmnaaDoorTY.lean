/- The bulk of terms bounds their cells. -/
import Derived.Test.YtpjoppajohmmnaaDoorTF
import Derived.Test.YtpjoppajohmmnaaDoorTLb
import Derived.Test.YtpjoppajohmmnaaDoorTLc
import Derived.Test.YtpjoppajohmmnaaDoorL1Env
import Derived.Test.YtpjoppajohmmnaaDoorTG
set_option autoImplicit false
set_option linter.unusedVariables false
namespace Tree
open Go
theorem bulk_cells : ∀ cs : List C, cs.length ≤ LV.bulkss (cs.map C.row)
  | [] => by simp [LV.bulkss]
  | c :: cs => by
    have := bulk_cells cs
    simp only [List.map_cons, LV.bulkss, List.length_cons]
    have h : 1 ≤ LV.bulks c.row := by simp [C.row, LV.bulks, LV.bulk]
    omega
theorem bulk5 (o : Bool) (l : Nat) (cs : List C) (sp : List (List LV)) : cs.length + 1 ≤ (sl5 o l cs sp).bulk := by
  have := bulk_cells cs
  show _ ≤ LV.bulk (.sl o l 5 (cs.map C.row) sp)
  rw [LV.bulk]; omega
theorem bulk_terms : ∀ ts : List T1, ts.length + (ts.flatMap T1.cs).length ≤ LV.bulkss (ts.map T1.row)
  | [] => by simp [LV.bulkss]
  | t :: ts => by
    have := bulk_terms ts
    have h := bulk5 false t.lab t.cs t.sp
    simp only [List.map_cons, LV.bulkss, List.length_cons, List.flatMap_cons, List.length_append]
    have e : LV.bulks t.row = (sl5 false t.lab t.cs t.sp).bulk := by
      show LV.bulks [_] = _
      rw [LV.bulks, LV.bulks]; rfl
    rw [e]; omega
theorem bulk1 (o : Bool) (l : Nat) (ts : List T1) (sp : List (List LV)) : ts.length + (ts.flatMap T1.cs).length ≤ (sl1 o l ts sp).bulk := by
  have := bulk_terms ts
  show _ ≤ LV.bulk (.sl o l 1 (ts.map T1.row) sp)
  rw [LV.bulk]; omega
end Tree

set_option autoImplicit false
set_option linter.unusedVariables false
namespace Tree
open Go
theorem small_max {n : Nat} (h : n ≤ reachBytes) : n ≤ maxLen := by unfold reachBytes at h; unfold maxLen; omega
/-- The types of cells and terms of a program. -/
structure TermTy (P : Program) (tc tt : TypeId) : Prop where
  sc : shOf P 8 tc = some [.i .u8, .s, .i .i64, .i .i64, .i .i64]
  st : shOf P 8 tt = some [.sl tc]
  cc : P.cellsOf tc = 5
  bc : P.bytesOf tc = 48
  ct : P.cellsOf tt = 1
  bt : P.bytesOf tt = 24
section
variable {P : Program} {tc tt : TypeId} (Y : TermTy P tc tt)
include Y
theorem cells_ofP : ∀ (xs : List (List LV)), (∀ x ∈ xs, ∃ fuel, Typed P fuel tc x) → ∃ cs : List C, xs = cs.map C.row ∧ ∀ c ∈ cs, c.fine
  | [], _ => ⟨[], rfl, fun c hc => by cases hc⟩
  | x :: xs, h => by
    obtain ⟨cs, rfl, hf⟩ := cells_ofP xs (fun y hy => h y (List.mem_cons_of_mem _ hy))
    obtain ⟨fuel, hx⟩ := h x (List.mem_cons_self ..)
    obtain ⟨_, _, rfl, ⟨k, rfl, wk⟩, h1⟩ := (sh_ok 8 fuel tc _ x Y.sc hx).cons
    obtain ⟨_, _, rfl, ⟨s, rfl, ws⟩, h2⟩ := h1.cons
    obtain ⟨_, _, rfl, ⟨n, rfl, _⟩, h3⟩ := h2.cons
    obtain ⟨a, b, rfl⟩ := h3.ints2
    refine ⟨⟨k, s, n, a, b⟩ :: cs, rfl, fun c hc => ?_⟩
    rcases List.mem_cons.1 hc with rfl | hc
    · refine ⟨small_max ws, ?_, ?_⟩
      · simp only [Lit.wf, Bool.and_eq_true, decide_eq_true_eq] at wk
        have : IntKind.min .u8 = 0 := by decide
        rw [this] at wk; exact wk.1
      · simp only [Lit.wf, Bool.and_eq_true, decide_eq_true_eq] at wk
        have : IntKind.max .u8 = 255 := by decide
        rw [this] at wk; exact wk.2
    · exact hf c hc
/-- What a term's argument is. -/
theorem term_ofP {lv : LV} (h : ShOk P (.sl tc) lv) : ∃ (cs ds : List C), lv = sl5 false 0 cs (ds.map C.row) ∧ (∀ c ∈ cs, c.fine) ∧ cs.length * 48 ≤ 140737488355328 := by
  obtain ⟨xs, sp, rfl, h1, h2⟩ := h
  obtain ⟨cs, rfl, hf⟩ := cells_ofP Y xs (fun x hx => (h1 x (List.mem_append_left _ hx)).2)
  obtain ⟨ds, rfl, _⟩ := cells_ofP Y sp (fun x hx => (h1 x (List.mem_append_right _ hx)).2)
  refine ⟨cs, ds, by rw [Y.cc], hf, ?_⟩
  rw [Y.bc, List.length_map] at h2
  unfold reachBytes at h2; omega
theorem terms_ofP : ∀ (xs : List (List LV)), (∀ x ∈ xs, ∃ fuel, Typed P fuel tt x) → ∃ ts : List T1, xs = ts.map T1.row ∧ ∀ t ∈ ts, t.fine ∧ ∀ n, LV.noRefss n t.sp = true
  | [], _ => ⟨[], rfl, fun c hc => by cases hc⟩
  | x :: xs, h => by
    obtain ⟨ts, rfl, hf⟩ := terms_ofP xs (fun y hy => h y (List.mem_cons_of_mem _ hy))
    obtain ⟨fuel, hx⟩ := h x (List.mem_cons_self ..)
    obtain ⟨_, _, rfl, h0, h1⟩ := (sh_ok 8 fuel tt _ x Y.st hx).cons
    obtain rfl := h1.nil
    obtain ⟨cs, ds, rfl, h2, h3⟩ := term_ofP Y h0
    refine ⟨⟨0, cs, ds.map C.row⟩ :: ts, rfl, fun t ht => ?_⟩
    rcases List.mem_cons.1 ht with rfl | ht
    · exact ⟨⟨by show cs.length ≤ _; omega, h2⟩, fun n => noRef_rows n ds⟩
    · exact hf t ht
theorem termsL_ofP {lv : LV} (h : ShOk P (.sl tt) lv) : ∃ (ts us : List T1), lv = sl1 false 0 ts (us.map T1.row) ∧ (∀ t ∈ ts, t.fine ∧ ∀ n, LV.noRefss n t.sp = true) ∧ ts.length * 24 ≤ 140737488355328 := by
  obtain ⟨xs, sp, rfl, h1, h2⟩ := h
  obtain ⟨ts, rfl, hf⟩ := terms_ofP Y xs (fun x hx => (h1 x (List.mem_append_left _ hx)).2)
  obtain ⟨us, rfl, _⟩ := terms_ofP Y sp (fun x hx => (h1 x (List.mem_append_right _ hx)).2)
  refine ⟨ts, us, by rw [Y.ct], hf, ?_⟩
  rw [Y.bt, List.length_map] at h2
  unfold reachBytes at h2; omega
end
end Tree

set_option autoImplicit false
set_option linter.unusedVariables false
namespace Tree
open Go
structure ClauseTy (P : Program) (tc tt tl tk : TypeId) : Prop where
  T : TermTy P tc tt
  sl : shOf P 8 tl = some [.sl tt]
  sk : shOf P 8 tk = some [.sl tc, .sl tt, .sl tt, .i .i64]
  ck : P.cellsOf tk = 4
  bk : P.bytesOf tk = 80
section
variable {P : Program} {tc tt tl tk : TypeId} (Y : ClauseTy P tc tt tl tk)
include Y
theorem clauses_ofP : ∀ (xs : List (List LV)), (∀ x ∈ xs, ∃ fuel, Typed P fuel tk x) → ∃ p : List Cl, xs = p.map Cl.row ∧ ∀ c ∈ p, (∀ d ∈ c.head, d.fine) ∧ (∀ t ∈ c.guards, t.fine ∧ ∀ n, LV.noRefss n t.sp = true) ∧ (∀ t ∈ c.body, t.fine ∧ ∀ n, LV.noRefss n t.sp = true) ∧ ∀ n, LV.noRefss n c.hsp = true
  | [], _ => ⟨[], rfl, fun c hc => by cases hc⟩
  | x :: xs, h => by
    obtain ⟨p, rfl, hf⟩ := clauses_ofP xs (fun y hy => h y (List.mem_cons_of_mem _ hy))
    obtain ⟨fuel, hx⟩ := h x (List.mem_cons_self ..)
    obtain ⟨_, _, rfl, w1, h1⟩ := (sh_ok 8 fuel tk _ x Y.sk hx).cons
    obtain ⟨_, _, rfl, w2, h2⟩ := h1.cons
    obtain ⟨_, _, rfl, w3, h3⟩ := h2.cons
    obtain ⟨_, _, rfl, ⟨n, rfl, _⟩, h4⟩ := h3.cons
    obtain rfl := h4.nil
    obtain ⟨hd, hs, rfl, a1, a2⟩ := term_ofP Y.T w1
    obtain ⟨gs, gu, rfl, b1, b2⟩ := termsL_ofP Y.T w2
    obtain ⟨bs, bu, rfl, c1, c2⟩ := termsL_ofP Y.T w3
    refine ⟨⟨0, hd, hs.map C.row, 0, gs, gu.map T1.row, 0, bs, bu.map T1.row, n⟩ :: p, rfl, fun c hc => ?_⟩
    rcases List.mem_cons.1 hc with rfl | hc
    · exact ⟨a1, b1, c1, fun n => noRef_rows n hs⟩
    · exact hf c hc
end
theorem bulk_clauses : ∀ p : List Cl, p.length + (p.flatMap Cl.body).length + (p.flatMap Cl.guards).length + (p.flatMap Cl.head).length ≤ LV.bulkss (p.map Cl.row)
  | [] => by simp [LV.bulkss]
  | c :: p => by
    have := bulk_clauses p
    have h1 := bulk5 false c.hlab c.head c.hsp
    have h2 := bulk1 false c.glab c.guards c.gsp
    have h3 := bulk1 false c.blab c.body c.bsp
    simp only [List.map_cons, LV.bulkss, List.length_cons, List.flatMap_cons, List.length_append]
    have e : LV.bulks c.row = (sl5 false c.hlab c.head c.hsp).bulk + ((sl1 false c.glab c.guards c.gsp).bulk + ((sl1 false c.blab c.body c.bsp).bulk + ((LV.int .i64 c.locals).bulk + 0))) := by
      show LV.bulks [_, _, _, _] = _
      simp only [LV.bulks]
    rw [e]; simp only [LV.bulk]; simp only [LV.bulk] at h1 h2 h3; omega
theorem bulkC (o : Bool) (l : Nat) (p : List Cl) (sp : List (List LV)) : p.length + (p.flatMap Cl.body).length + (p.flatMap Cl.guards).length + (p.flatMap Cl.head).length ≤ (slC o l p sp).bulk := by
  have := bulk_clauses p
  show _ ≤ LV.bulk (.sl o l 4 (p.map Cl.row) sp)
  rw [LV.bulk]; omega
theorem mem_flatLen {α β : Type} {f : α → List β} {x : α} : ∀ {l : List α}, x ∈ l → (f x).length ≤ (l.flatMap f).length
  | y :: l, h => by
    rw [List.flatMap_cons, List.length_append]
    rcases List.mem_cons.1 h with rfl | h
    · omega
    · have := mem_flatLen (f := f) h; omega
theorem bulkss_mem : ∀ {xs : List (List LV)} {x : List LV}, x ∈ xs → LV.bulks x ≤ LV.bulkss xs
  | y :: xs, x, h => by
    rw [LV.bulkss]
    rcases List.mem_cons.1 h with rfl | h
    · omega
    · have := bulkss_mem h; omega
theorem bulk_clause (c : Cl) : c.head.length + (c.guards.length + (c.guards.flatMap T1.cs).length) + (c.body.length + (c.body.flatMap T1.cs).length) ≤ LV.bulks c.row := by
  have h1 := bulk5 false c.hlab c.head c.hsp
  have h2 := bulk1 false c.glab c.guards c.gsp
  have h3 := bulk1 false c.blab c.body c.bsp
  have e : LV.bulks c.row = (sl5 false c.hlab c.head c.hsp).bulk + ((sl1 false c.glab c.guards c.gsp).bulk + ((sl1 false c.blab c.body c.bsp).bulk + ((LV.int .i64 c.locals).bulk + 0))) := by
    show LV.bulks [_, _, _, _] = _
    simp only [LV.bulks]
  rw [e]; omega
/-- A program of small bulk is fine. -/
theorem fine_of {o : Bool} {l : Nat} {p : List Cl} {sp : List (List LV)} (hb : (slC o l p sp).bulk ≤ 1048576) (h : ∀ c ∈ p, (∀ d ∈ c.head, d.fine) ∧ (∀ t ∈ c.guards, t.fine ∧ ∀ n, LV.noRefss n t.sp = true) ∧ (∀ t ∈ c.body, t.fine ∧ ∀ n, LV.noRefss n t.sp = true) ∧ ∀ n, LV.noRefss n c.hsp = true) : ∀ c ∈ p, c.fine := fun c hc => by
  have h1 := bulk_clause c
  have h2 : LV.bulks c.row ≤ LV.bulkss (p.map Cl.row) := bulkss_mem (List.mem_map.2 ⟨c, hc, rfl⟩)
  have h3 : LV.bulkss (p.map Cl.row) ≤ (slC o l p sp).bulk := by
    show _ ≤ LV.bulk (.sl o l 4 (p.map Cl.row) sp)
    rw [LV.bulk]; omega
  obtain ⟨a, b, d, e⟩ := h c hc
  exact ⟨by omega, a, by omega, fun t ht => (b t ht).1, by omega, fun t ht => (d t ht).1, e, fun t ht => (b t ht).2, fun t ht => (d t ht).2,
    fun t ht => by have := mem_flatLen (f := T1.cs) ht; omega, fun t ht => by have := mem_flatLen (f := T1.cs) ht; omega⟩
theorem program_ofP {P : Program} {tc tt tl tk : TypeId} (Y : ClauseTy P tc tt tl tk) {lv : LV} (h : ShOk P (.sl tk) lv) (hb : lv.bulk ≤ 1048576) : ∃ p sp, lv = slC false 0 p sp ∧ (∀ c ∈ p, c.fine) ∧ p.length ≤ 1048576 ∧ (p.flatMap Cl.body).length ≤ 1048576 := by
  obtain ⟨xs, sp, rfl, h1, h2⟩ := h
  obtain ⟨p, rfl, hf⟩ := clauses_ofP Y xs (fun x hx => (h1 x (List.mem_append_left _ hx)).2)
  rw [Y.ck] at hb ⊢
  have hB := bulkC false 0 p sp
  have hb : (slC false 0 p sp).bulk ≤ 1048576 := hb
  exact ⟨p, sp, rfl, fine_of hb hf, by omega, by omega⟩
end Tree

set_option autoImplicit false
set_option linter.unusedVariables false
namespace Tree
open Go
theorem eq_bytes {s : ByteArray} {z : List UInt8} (h : s.data.toList = z) : s = ⟨z.toArray⟩ := by
  obtain ⟨⟨l⟩⟩ := s; simp at h; subst h; rfl
def signBytes : List (List UInt8) := [[61],[58,61],[64],[43],[45],[42],[60],[61,60],[62],[62,61],[61,58,61],[61,92,61]]
theorem signs_eq : signs = signBytes.map fun z => LV.str ⟨z.toArray⟩ := by rfl
def signsD : DataW Unit := .agg [.lit (.string [61]), .lit (.string [58, 61]), .lit (.string [64]), .lit (.string [43]), .lit (.string [45]), .lit (.string [42]), .lit (.string [60]), .lit (.string [61, 60]), .lit (.string [62]), .lit (.string [62, 61]), .lit (.string [61, 58, 61]), .lit (.string [61, 92, 61])]
theorem globs_signs {T : Tab} {gl : Nat → List LV} {W : World} {name : String} {rest : List (String × DataW Unit)} {g : Nat} {t e : TypeId} (hgT : T.glT = [(g, 0)]) (hgl : gl 0 = signs) (hd : signsD = .agg (signBytes.map fun z => .lit (.string z)))
    (hg : T.P.globalNamed name = some g) (hty : (T.P.globals[g]?).map (·.type) = some t) (ht : T.P.underlying t = some (.array 12 e)) (he : T.P.underlying e = some .string) (hce : T.P.cellsOf e = 1) (hct : T.P.cellsOf t = 12)
    (h : laidMet T.P ((name, signsD) :: rest) W) : Globs T gl (Mem.start W) := by
  rw [hd] at h
  have key := strs_of_head (P := T.P) (name := name) (zs := signBytes) hg hty ht he hce hct h
  intro g' h' hgh
  have hgh : (g', h') = (g, 0) := by rw [hgT] at hgh; simpa using hgh
  obtain ⟨rfl, rfl⟩ := Prod.mk.inj hgh
  have e0 : gl 0 = signBytes.map fun z => LV.str ⟨z.toArray⟩ := hgl.trans signs_eq
  rw [e0]
  have hcell : ∀ (j : Nat) lv, (signBytes.map fun z => LV.str ⟨z.toArray⟩)[j]? = some lv → ∃ s : ByteArray, W.cell? ⟨g', j, none⟩ = some (.string s) ∧ lv = .str s := by
    intro j lv hj
    rw [List.getElem?_map] at hj
    obtain ⟨z, hz, rfl⟩ := Option.map_eq_some_iff.1 hj
    obtain ⟨s, h1, h2⟩ := key j z hz
    exact ⟨s, h1, by rw [eq_bytes h2]⟩
  refine Rep.iptr 0 _ 0 g' 0 (fun j => (W.cell? ⟨g', j, none⟩).getD undef) (fun j lv hj => ?_) (fun j lv hj => ?_)
  · obtain ⟨s, h1, rfl⟩ := hcell j lv hj
    refine ⟨rfl, ?_, by rw [h1]; rfl⟩
    rw [Nat.zero_add, h1]; exact h1
  · obtain ⟨s, h1, rfl⟩ := hcell j lv hj
    rw [h1]; exact .str s
end Tree
