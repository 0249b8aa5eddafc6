/- Layer 4: programs as trees; the clauses of a predicate, what a clause calls. -/
import Derived.Test.YtpjoppajohmmnaaDoorL4Calls
set_option autoImplicit false
set_option linter.unusedVariables false
set_option linter.unusedSimpArgs false
namespace Tree
open Go
set_option maxHeartbeats 4000000
set_option maxRecDepth 100000
structure Cl where
  hlab : Nat
  head : List C
  hsp : List (List LV)
  glab : Nat
  guards : List T1
  gsp : List (List LV)
  blab : Nat
  body : List T1
  bsp : List (List LV)
  locals : Int
def Cl.row (c : Cl) : List LV := [sl5 false c.hlab c.head c.hsp, sl1 false c.glab c.guards c.gsp, sl1 false c.blab c.body c.bsp, .int .i64 c.locals]
abbrev slC (o : Bool) (l : Nat) (ns : List Cl) (sp : List (List LV)) : LV := .sl o l 4 (ns.map Cl.row) sp
theorem idx_c {ns : List Cl} {i : Nat} {c : Cl} (h : ns[i]? = some c) : (ns.map Cl.row)[i]? = some [.sl false c.hlab 5 (c.head.map C.row) c.hsp, .sl false c.glab 1 (c.guards.map T1.row) c.gsp, .sl false c.blab 1 (c.body.map T1.row) c.bsp, .int .i64 c.locals] := by
  rw [List.getElem?_map, h]; rfl
structure Cl.fine (c : Cl) : Prop where
  hl : c.head.length ≤ 1048576
  hf : ∀ d ∈ c.head, d.fine
  gl : c.guards.length ≤ 1048576
  gf : ∀ t ∈ c.guards, t.fine
  bl : c.body.length ≤ 1048576
  bf : ∀ t ∈ c.body, t.fine
  hn : ∀ n, LV.noRefss n c.hsp = true
  gn : ∀ t ∈ c.guards, ∀ n, LV.noRefss n t.sp = true
  bn : ∀ t ∈ c.body, ∀ n, LV.noRefss n t.sp = true
def irow (n : Nat) : List LV := [.int .i64 n]
abbrev slN (o : Bool) (l : Nat) (ns : List Nat) (sp : List (List LV)) : LV := .sl o l 1 (ns.map irow) sp
theorem idx_i {ns : List Nat} {i n : Nat} (h : ns[i]? = some n) : (ns.map irow)[i]? = some [.int .i64 n] := by
  rw [List.getElem?_map, h]; rfl
theorem noRefN (n : Nat) (o : Bool) (l : Nat) (ns : List Nat) : (slN o l ns []).noRef n = true := by
  have : LV.noRefss n (ns.map irow) = true := by
    induction ns with
    | nil => simp [LV.noRefss]
    | cons v ns ih => simp [LV.noRefss, ih, irow, LV.noRefs, LV.noRef]
  simp [LV.noRef, LV.noRefss, this]
open Classical in
noncomputable def clausesN (p : List Cl) (q : PV) (i : Nat) : List Nat := (List.range i).filter fun j => decide (∃ c, p[j]? = some c ∧ predC c.head = some q)
noncomputable def clausesC (p : List Cl) (q : PV) : List Nat := clausesN p q p.length
theorem clausesN_mem {p : List Cl} {q : PV} {i j : Nat} : j ∈ clausesN p q i ↔ j < i ∧ ∃ c, p[j]? = some c ∧ predC c.head = some q := by
  simp [clausesN]
theorem clausesN_len (p : List Cl) (q : PV) (i : Nat) : (clausesN p q i).length ≤ i := by
  unfold clausesN; exact Nat.le_trans (List.length_filter_le ..) (by rw [List.length_range]; exact Nat.le_refl _)
theorem clausesN_yes {p : List Cl} {q : PV} {i : Nat} {c : Cl} (h : p[i]? = some c) (hq : predC c.head = some q) : clausesN p q (i + 1) = clausesN p q i ++ [i] := by
  unfold clausesN
  rw [List.range_succ, List.filter_append, List.filter_cons_of_pos (by simp only [decide_eq_true_eq]; exact ⟨c, h, hq⟩)]; rfl
theorem clausesN_no {p : List Cl} {q : PV} {i : Nat} {c : Cl} (h : p[i]? = some c) (hq : predC c.head ≠ some q) : clausesN p q (i + 1) = clausesN p q i := by
  unfold clausesN
  rw [List.range_succ, List.filter_append, List.filter_cons_of_neg (by simp only [decide_eq_true_eq]; rintro ⟨d, h1, h2⟩; rw [h] at h1; cases h1; exact hq h2)]; simp
def S287 (s : ByteArray) (k : Int) (o v : LV) (n : Nat) (i : Int) (ob : Obs) : WSt := ⟨.val .undef :: .val (.str s) :: .val (.int .i64 k) :: List.replicate 4 (.val .undef) ++ .val o :: List.replicate 4 (.val .undef) ++ .val v :: .val (.int .i64 n) :: .val (.int .i64 i) :: List.replicate 24 (.val .undef), ob, []⟩
theorem clauses_ok (lab : Nat) (p : List Cl) (sp : List (List LV)) (q : PV) (hl : p.length ≤ 1048576) (hf : ∀ c ∈ p, c.fine) (ob : Obs) (pb : Nat) : Gives env4 287 [slC false lab p sp, .str q.1, .int .i64 q.2] ob pb (slN true 0 (clausesC p q) [], ob) := by
  have hlen : (p.map Cl.row).length = p.length := by simp
  refine gives_code (f := tf287) rfl ?_
  conv => whnf
  refine loop_abs (S := fun i : Nat => S287 q.1 q.2 (slN true 0 (clausesN p q i) []) (slC false lab p sp) (p.map Cl.row).length i ob) (m := fun i => p.length - i) (P := fun i => i ≤ p.length) ?_ 0 (Nat.zero_le _) rfl
  intro R i hi hN hE hR
  conv => whnf
  refine sel_split (fun h => ?_) (fun h => ?_)
  · conv => whnf
    have h := of_decide_eq_true h
    rw [hlen] at h
    obtain ⟨c, hc⟩ : ∃ c, p[i]? = some c := ⟨_, List.getElem?_eq_getElem (show i < p.length by omega)⟩
    have e : IntKind.i64.wrap ((i : Int) + 1) = ((i + 1 : Nat) : Int) := by rw [wrap64] <;> omega
    have hcl := clausesN_len p q i
    have hcf := hf c (List.mem_of_getElem? hc)
    refine ⟨_, ⟨by omega, idx_c hc⟩, ?_⟩
    conv => whnf
    refine ⟨_, _, predOf_ok c.hlab c.head c.hsp (by have := hcf.hl; omega) hcf.hf ob _, fun _ => noRefPV _ _, ?_⟩
    rcases hp : predC c.head with _ | x
    · conv => whnf
      have hst := clausesN_no hc (q := q) (by rw [hp]; nofun)
      refine hN (i + 1) _ (by omega) (by omega) ?_
      rw [← e, hst]; rfl
    · conv => whnf
      refine sel_split (fun h2 => ?_) (fun h2 => ?_)
      · conv => whnf
        have h2 : x = q := (pv_eq h2).1 rfl
        have hst := clausesN_yes hc (q := q) (by rw [hp, h2])
        refine ⟨(clausesN p q (i + 1)).map irow, ⟨.inl rfl, ?_, ?_⟩, ?_⟩
        · show (((clausesN p q i).map irow).length + 1) * 8 ≤ _
          rw [List.length_map]; omega
        · rw [hst, List.map_append]; rfl
        conv => whnf
        refine hN (i + 1) _ (by omega) (by omega) ?_
        rw [← e]; rfl
      · conv => whnf
        have h2 : x ≠ q := fun e => by have := (pv_eq h2).2 e; cases this
        have hst := clausesN_no hc (q := q) (by rw [hp]; intro e; cases e; exact h2 rfl)
        refine hN (i + 1) _ (by omega) (by omega) ?_
        rw [← e, hst]; rfl
  · conv => whnf
    have h := of_decide_eq_false h
    rw [hlen] at h
    have : i = p.length := by omega
    subst this
    refine hE _ _ ?_
    conv => whnf
    exact ⟨rfl, rfl, rfl⟩
noncomputable def callsAt (p : List Cl) (k : Nat) : List PV := match p[k]? with
  | some c => callsC [] c.body
  | none => []
theorem callsAt_ok (lab : Nat) (p : List Cl) (sp : List (List LV)) (k : Nat) (hf : ∀ c ∈ p, c.fine) (ob : Obs) (pb : Nat) : Gives env4 279 [slC false lab p sp, .int .i64 k] ob pb (slP true 0 (callsAt p k) [], ob) := by
  have hlen : (p.map Cl.row).length = p.length := by simp
  refine gives_code (f := tf279) rfl ?_
  conv => whnf
  refine sel_split (fun h => ?_) (fun h => ?_)
  · conv => whnf
    have h := of_decide_eq_true h
    rw [hlen] at h
    refine ⟨rfl, ?_, rfl⟩
    unfold callsAt
    rw [List.getElem?_eq_none (by omega)]; rfl
  · conv => whnf
    have h := of_decide_eq_false h
    rw [hlen] at h
    obtain ⟨c, hc⟩ : ∃ c, p[k]? = some c := ⟨_, List.getElem?_eq_getElem (show k < p.length by omega)⟩
    have hcf := hf c (List.mem_of_getElem? hc)
    refine ⟨_, ⟨by omega, idx_c hc⟩, ?_⟩
    conv => whnf
    refine ⟨_, _, calls_ok c.blab c.body c.bsp hcf.bl hcf.bf ob _, fun _ => noRefP _ _ _ _, ?_⟩
    conv => whnf
    refine ⟨rfl, ?_, rfl⟩
    unfold callsAt; rw [hc]; rfl
end Tree
