/- Layer 4: arguments that are programs; what bulk says of them. -/
import Derived.Test.YtpjoppajohmmnaaDoorData1
import Derived.Test.YtpjoppajohmmnaaDoorL4Prog
set_option autoImplicit false
set_option linter.unusedVariables false
namespace Tree
open Go
structure ClauseTy (P : Program) (tc tt tl tk : TypeId) : Prop where
  T : TermTy P tc tt
  sl : shOf P 8 tl = some [.sl tt]
  sk : shOf P 8 tk = some [.sl tc, .sl tt, .sl tt, .i .i64]
  ck : P.cellsOf tk = 4
  bk : P.bytesOf tk = 80
section
variable {P : Program} {tc tt tl tk : TypeId} (Y : ClauseTy P tc tt tl tk)
include Y
theorem clauses_ofP : ∀ (xs : List (List LV)), (∀ x ∈ xs, ∃ fuel, Typed P fuel tk x) → ∃ p : List Cl, xs = p.map Cl.row ∧ ∀ c ∈ p, (∀ d ∈ c.head, d.fine) ∧ (∀ t ∈ c.guards, t.fine ∧ ∀ n, LV.noRefss n t.sp = true) ∧ (∀ t ∈ c.body, t.fine ∧ ∀ n, LV.noRefss n t.sp = true) ∧ ∀ n, LV.noRefss n c.hsp = true
  | [], _ => ⟨[], rfl, fun c hc => by cases hc⟩
  | x :: xs, h => by
    obtain ⟨p, rfl, hf⟩ := clauses_ofP xs (fun y hy => h y (List.mem_cons_of_mem _ hy))
    obtain ⟨fuel, hx⟩ := h x (List.mem_cons_self ..)
    obtain ⟨_, _, rfl, w1, h1⟩ := (sh_ok 8 fuel tk _ x Y.sk hx).cons
    obtain ⟨_, _, rfl, w2, h2⟩ := h1.cons
    obtain ⟨_, _, rfl, w3, h3⟩ := h2.cons
    obtain ⟨_, _, rfl, ⟨n, rfl, _⟩, h4⟩ := h3.cons
    obtain rfl := h4.nil
    obtain ⟨hd, hs, rfl, a1, a2⟩ := term_ofP Y.T w1
    obtain ⟨gs, gu, rfl, b1, b2⟩ := termsL_ofP Y.T w2
    obtain ⟨bs, bu, rfl, c1, c2⟩ := termsL_ofP Y.T w3
    refine ⟨⟨0, hd, hs.map C.row, 0, gs, gu.map T1.row, 0, bs, bu.map T1.row, n⟩ :: p, rfl, fun c hc => ?_⟩
    rcases List.mem_cons.1 hc with rfl | hc
    · exact ⟨a1, b1, c1, fun n => noRef_rows n hs⟩
    · exact hf c hc
end
theorem bulk_clauses : ∀ p : List Cl, p.length + (p.flatMap Cl.body).length + (p.flatMap Cl.guards).length + (p.flatMap Cl.head).length ≤ LV.bulkss (p.map Cl.row)
  | [] => by simp [LV.bulkss]
  | c :: p => by
    have := bulk_clauses p
    have h1 := bulk5 false c.hlab c.head c.hsp
    have h2 := bulk1 false c.glab c.guards c.gsp
    have h3 := bulk1 false c.blab c.body c.bsp
    simp only [List.map_cons, LV.bulkss, List.length_cons, List.flatMap_cons, List.length_append]
    have e : LV.bulks c.row = (sl5 false c.hlab c.head c.hsp).bulk + ((sl1 false c.glab c.guards c.gsp).bulk + ((sl1 false c.blab c.body c.bsp).bulk + ((LV.int .i64 c.locals).bulk + 0))) := by
      show LV.bulks [_, _, _, _] = _
      simp only [LV.bulks]
    rw [e]; simp only [LV.bulk]; simp only [LV.bulk] at h1 h2 h3; omega
theorem bulkC (o : Bool) (l : Nat) (p : List Cl) (sp : List (List LV)) : p.length + (p.flatMap Cl.body).length + (p.flatMap Cl.guards).length + (p.flatMap Cl.head).length ≤ (slC o l p sp).bulk := by
  have := bulk_clauses p
  show _ ≤ LV.bulk (.sl o l 4 (p.map Cl.row) sp)
  rw [LV.bulk]; omega
theorem mem_flatLen {α β : Type} {f : α → List β} {x : α} : ∀ {l : List α}, x ∈ l → (f x).length ≤ (l.flatMap f).length
  | y :: l, h => by
    rw [List.flatMap_cons, List.length_append]
    rcases List.mem_cons.1 h with rfl | h
    · omega
    · have := mem_flatLen (f := f) h; omega
/-- A program of small bulk is fine. -/
theorem fine_of {o : Bool} {l : Nat} {p : List Cl} {sp : List (List LV)} (hb : (slC o l p sp).bulk ≤ 1048576) (h : ∀ c ∈ p, (∀ d ∈ c.head, d.fine) ∧ (∀ t ∈ c.guards, t.fine ∧ ∀ n, LV.noRefss n t.sp = true) ∧ (∀ t ∈ c.body, t.fine ∧ ∀ n, LV.noRefss n t.sp = true) ∧ ∀ n, LV.noRefss n c.hsp = true) : ∀ c ∈ p, c.fine := fun c hc => by
  have hB := bulkC o l p sp
  have h1 := mem_flatLen (f := Cl.head) hc
  have h2 := mem_flatLen (f := Cl.guards) hc
  have h3 := mem_flatLen (f := Cl.body) hc
  obtain ⟨a, b, d, e⟩ := h c hc
  exact ⟨by omega, a, by omega, fun t ht => (b t ht).1, by omega, fun t ht => (d t ht).1, e, fun t ht => (b t ht).2, fun t ht => (d t ht).2⟩
theorem program_ofP {P : Program} {tc tt tl tk : TypeId} (Y : ClauseTy P tc tt tl tk) {lv : LV} (h : ShOk P (.sl tk) lv) (hb : lv.bulk ≤ 1048576) : ∃ p sp, lv = slC false 0 p sp ∧ (∀ c ∈ p, c.fine) ∧ p.length ≤ 1048576 ∧ (p.flatMap Cl.body).length ≤ 1048576 := by
  obtain ⟨xs, sp, rfl, h1, h2⟩ := h
  obtain ⟨p, rfl, hf⟩ := clauses_ofP Y xs (fun x hx => (h1 x (List.mem_append_left _ hx)).2)
  rw [Y.ck] at hb ⊢
  have hB := bulkC false 0 p sp
  have hb : (slC false 0 p sp).bulk ≤ 1048576 := hb
  exact ⟨p, sp, rfl, fine_of hb hf, by omega, by omega⟩
end Tree
