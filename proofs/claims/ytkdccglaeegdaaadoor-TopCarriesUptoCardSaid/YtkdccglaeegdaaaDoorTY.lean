/- The bulk of terms bounds their cells. -/
import Derived.Test.YtkdccglaeegdaaaDoorTF
import Derived.Test.YtkdccglaeegdaaaDoorTLb
import Derived.Test.YtkdccglaeegdaaaDoorL1Env
import Derived.Test.YtkdccglaeegdaaaDoorTG
set_option autoImplicit false
set_option linter.unusedVariables false
namespace Tree
open Go
theorem bulk_cells : ∀ cs : List C, cs.length ≤ LV.bulkss (cs.map C.row)
  | [] => by simp [LV.bulkss]
  | c :: cs => by
    have := bulk_cells cs
    simp only [List.map_cons, LV.bulkss, List.length_cons]
    have h : 1 ≤ LV.bulks c.row := by simp [C.row, LV.bulks, LV.bulk]
    omega
theorem bulk5 (o : Bool) (l : Nat) (cs : List C) (sp : List (List LV)) : cs.length + 1 ≤ (sl5 o l cs sp).bulk := by
  have := bulk_cells cs
  show _ ≤ LV.bulk (.sl o l 5 (cs.map C.row) sp)
  rw [LV.bulk]; omega
end Tree

set_option autoImplicit false
set_option linter.unusedVariables false
namespace Tree
open Go
theorem small_max {n : Nat} (h : n ≤ reachBytes) : n ≤ maxLen := by unfold reachBytes at h; unfold maxLen; omega
/-- The types of cells and terms of a program. -/
structure TermTy (P : Program) (tc tt : TypeId) : Prop where
  sc : shOf P 8 tc = some [.i .u8, .s, .i .i64, .i .i64, .i .i64]
  st : shOf P 8 tt = some [.sl tc]
  cc : P.cellsOf tc = 5
  bc : P.bytesOf tc = 48
  ct : P.cellsOf tt = 1
  bt : P.bytesOf tt = 24
section
variable {P : Program} {tc tt : TypeId} (Y : TermTy P tc tt)
include Y
theorem cells_ofP : ∀ (xs : List (List LV)), (∀ x ∈ xs, ∃ fuel, Typed P fuel tc x) → ∃ cs : List C, xs = cs.map C.row ∧ ∀ c ∈ cs, c.fine
  | [], _ => ⟨[], rfl, fun c hc => by cases hc⟩
  | x :: xs, h => by
    obtain ⟨cs, rfl, hf⟩ := cells_ofP xs (fun y hy => h y (List.mem_cons_of_mem _ hy))
    obtain ⟨fuel, hx⟩ := h x (List.mem_cons_self ..)
    obtain ⟨_, _, rfl, ⟨k, rfl, wk⟩, h1⟩ := (sh_ok 8 fuel tc _ x Y.sc hx).cons
    obtain ⟨_, _, rfl, ⟨s, rfl, ws⟩, h2⟩ := h1.cons
    obtain ⟨_, _, rfl, ⟨n, rfl, _⟩, h3⟩ := h2.cons
    obtain ⟨a, b, rfl⟩ := h3.ints2
    refine ⟨⟨k, s, n, a, b⟩ :: cs, rfl, fun c hc => ?_⟩
    rcases List.mem_cons.1 hc with rfl | hc
    · refine ⟨small_max ws, ?_, ?_⟩
      · simp only [Lit.wf, Bool.and_eq_true, decide_eq_true_eq] at wk
        have : IntKind.min .u8 = 0 := by decide
        rw [this] at wk; exact wk.1
      · simp only [Lit.wf, Bool.and_eq_true, decide_eq_true_eq] at wk
        have : IntKind.max .u8 = 255 := by decide
        rw [this] at wk; exact wk.2
    · exact hf c hc
/-- What a term's argument is. -/
theorem term_ofP {lv : LV} (h : ShOk P (.sl tc) lv) : ∃ (cs ds : List C), lv = sl5 false 0 cs (ds.map C.row) ∧ (∀ c ∈ cs, c.fine) ∧ cs.length * 48 ≤ 140737488355328 := by
  obtain ⟨xs, sp, rfl, h1, h2⟩ := h
  obtain ⟨cs, rfl, hf⟩ := cells_ofP Y xs (fun x hx => (h1 x (List.mem_append_left _ hx)).2)
  obtain ⟨ds, rfl, _⟩ := cells_ofP Y sp (fun x hx => (h1 x (List.mem_append_right _ hx)).2)
  refine ⟨cs, ds, by rw [Y.cc], hf, ?_⟩
  rw [Y.bc, List.length_map] at h2
  unfold reachBytes at h2; omega
end
end Tree

set_option autoImplicit false
set_option linter.unusedVariables false
namespace Tree
open Go
theorem eq_bytes {s : ByteArray} {z : List UInt8} (h : s.data.toList = z) : s = ⟨z.toArray⟩ := by
  obtain ⟨⟨l⟩⟩ := s; simp at h; subst h; rfl
def signBytes : List (List UInt8) := [[61],[58,61],[64],[43],[45],[42],[60],[61,60],[62],[62,61],[61,58,61],[61,92,61]]
theorem signs_eq : signs = signBytes.map fun z => LV.str ⟨z.toArray⟩ := by rfl
def signsD : DataW Unit := .agg [.lit (.string [61]), .lit (.string [58, 61]), .lit (.string [64]), .lit (.string [43]), .lit (.string [45]), .lit (.string [42]), .lit (.string [60]), .lit (.string [61, 60]), .lit (.string [62]), .lit (.string [62, 61]), .lit (.string [61, 58, 61]), .lit (.string [61, 92, 61])]
theorem globs_signs {T : Tab} {gl : Nat → List LV} {W : World} {name : String} {rest : List (String × DataW Unit)} {g : Nat} {t e : TypeId} (hgT : T.glT = [(g, 0)]) (hif : T.ifs = [] := by rfl) (hgl : gl 0 = signs) (hd : signsD = .agg (signBytes.map fun z => .lit (.string z)))
    (hg : T.P.globalNamed name = some g) (hty : (T.P.globals[g]?).map (·.type) = some t) (ht : T.P.underlying t = some (.array 12 e)) (he : T.P.underlying e = some .string) (hce : T.P.cellsOf e = 1) (hct : T.P.cellsOf t = 12)
    (h : laidMet T.P ((name, signsD) :: rest) W) : Globs T gl (Mem.start W) := by
  rw [hd] at h
  have key := strs_of_head (P := T.P) (name := name) (zs := signBytes) hg hty ht he hce hct h
  refine ⟨?_, fun g hg => by rw [hif] at hg; simp at hg⟩
  intro g' h' hgh
  have hgh : (g', h') = (g, 0) := by rw [hgT] at hgh; simpa using hgh
  obtain ⟨rfl, rfl⟩ := Prod.mk.inj hgh
  have e0 : gl 0 = signBytes.map fun z => LV.str ⟨z.toArray⟩ := hgl.trans signs_eq
  rw [e0]
  have hcell : ∀ (j : Nat) lv, (signBytes.map fun z => LV.str ⟨z.toArray⟩)[j]? = some lv → ∃ s : ByteArray, W.cell? ⟨g', j, none⟩ = some (.string s) ∧ lv = .str s := by
    intro j lv hj
    rw [List.getElem?_map] at hj
    obtain ⟨z, hz, rfl⟩ := Option.map_eq_some_iff.1 hj
    obtain ⟨s, h1, h2⟩ := key j z hz
    exact ⟨s, h1, by rw [eq_bytes h2]⟩
  refine Rep.iptr 0 _ 0 g' 0 (fun j => (W.cell? ⟨g', j, none⟩).getD undef) (fun j lv hj => ?_) (fun j lv hj => ?_)
  · obtain ⟨s, h1, rfl⟩ := hcell j lv hj
    refine ⟨rfl, ?_, by rw [h1]; rfl⟩
    rw [Nat.zero_add, h1]; exact h1
  · obtain ⟨s, h1, rfl⟩ := hcell j lv hj
    rw [h1]; exact .str s
end Tree
