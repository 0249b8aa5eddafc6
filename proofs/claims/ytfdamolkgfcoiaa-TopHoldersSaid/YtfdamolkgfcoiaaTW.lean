/- The evaluator E once more, in a form that the kernel reduces fast: what it answers, E answers. -/
import Derived.Test.YtfdamolkgfcoiaaTA
set_option autoImplicit false
set_option linter.unusedVariables false
set_option linter.unusedSimpArgs false
namespace Tree
open Go

section
variable {β : Type}
def forceL {α : Type} (f : α → (α → β) → β) : List α → (List α → β) → β
  | [], k => k []
  | x :: r, k => f x fun x' => forceL f r fun r' => k (x' :: r')
def headV (v : LV) (k : LV → β) : β := match v with
  | .bool b => k (.bool b)
  | .int kk i => k (.int kk i)
  | .str s => k (.str s)
  | .sl o l z xs sp => k (.sl o l z xs sp)
  | .agg cs => k (.agg cs)
  | .tup cs => k (.tup cs)
  | .iptr l cs o => k (.iptr l cs o)
  | .laddr s o => k (.laddr s o)
  | .optr s o => k (.optr s o)
  | .nilptr => k .nilptr
  | .fn g cap => k (.fn g cap)
  | .nilfn => k .nilfn
  | .undef => k .undef
  | .mref i => k (.mref i)
  | .nilmap => k .nilmap
  | .msl i o l c z => k (.msl i o l c z)
def headS (v : Slot) (k : Slot → β) : β := match v with
  | .val v => headV v fun v => k (.val v)
  | .box cs => k (.box cs)
theorem forceL_eq {α : Type} {f : α → (α → β) → β} (hf : ∀ x k, f x k = k x) (l : List α) : ∀ k : List α → β, forceL f l k = k l := by
  induction l with
  | nil => intro k; rfl
  | cons x r ih => intro k; simp [forceL, hf, ih]
theorem headV_eq (v : LV) (k : LV → β) : headV v k = k v := by cases v <;> rfl
theorem headS_eq (v : Slot) (k : Slot → β) : headS v k = k v := by cases v <;> simp [headS, headV_eq]
end

end Tree

set_option autoImplicit false
set_option linter.unusedVariables false
set_option linter.unusedSimpArgs false
namespace Tree
open Go
def EvLe (a b : Ev) : Prop := ∀ g args ob pb r, a g args ob pb = some r → b g args ob pb = some r
theorem valOp_mono {E : Env} {a b : Ev} (hab : EvLe a b) {pb : Nat} {st : St} {dst : Option Nat} {op : TOp} {r : LV × St × Option Place} (h : valOp E a pb st dst op = some r) : valOp E b pb st dst op = some r := by
  cases op with
  | call ro f args moved =>
    simp only [valOp] at h ⊢
    revert h
    rcases st.operand E.gl f with _ | v
    · exact id
    · cases v <;> try exact id
      rename_i g cap
      simp only []
      rcases takeArgs E.gl pb moved 0 args st with _ | p
      · exact id
      · simp only [Option.bind_some]
        by_cases hc : (LV.noLs p.1 && LV.noLs cap && cap.all LV.ownless) = true
        · simp only [hc, if_true]
          cases ro
          · simp only [Bool.false_eq_true, if_false]
            intro h
            rcases he : a g (p.1 ++ cap) p.2.ob pb with _ | q
            · rw [he] at h; cases h
            · rw [hab _ _ _ _ _ he]; rw [he] at h; exact h
          · simp only [if_true]
            intro h
            rcases he : a g (p.1 ++ cap) p.2.ob (max pb p.2.ob.length) with _ | q
            · rw [he] at h; cases h
            · rw [hab _ _ _ _ _ he]; rw [he] at h; exact h
        · rw [if_neg hc, if_neg hc]; exact id
  | _ => exact h
theorem stepOp_mono {E : Env} {a b : Ev} (hab : EvLe a b) {pb : Nat} {o : TOper} {st : St} {r : St} (h : stepOp E a pb o st = some r) : stepOp E b pb o st = some r := by
  simp only [stepOp] at h ⊢
  revert h
  rcases guardE st o.guard with _ | g
  · exact id
  · cases g
    · exact id
    · intro h
      simp only [] at h ⊢
      rcases he : valOp E a pb st o.dst o.op with _ | q
      · rw [he] at h; cases h
      · rw [valOp_mono hab he]; rw [he] at h; exact h
theorem runOps_mono {E : Env} {a b : Ev} (hab : EvLe a b) {pb : Nat} : ∀ (ops : List TOper) {st : St} {r : St}, runOps E a pb ops st = some r → runOps E b pb ops st = some r
  | [], _, _, h => h
  | o :: ops, st, r, h => by
    simp only [runOps] at h ⊢
    rcases he : stepOp E a pb o st with _ | q
    · rw [he] at h; cases h
    · rw [stepOp_mono hab he]; rw [he] at h; exact runOps_mono hab ops h
theorem mono_all (E : Env) (n : Nat) : (∀ pb c st r, run E n pb c st = some r → run E (n + 1) pb c st = some r) ∧ EvLe (call E n) (call E (n + 1)) := by
  induction n with
  | zero =>
    constructor
    · intro pb c st r h; simp [run] at h
    · intro g args ob pb r h; simp [call] at h
  | succ n ih =>
    obtain ⟨h1, h2⟩ := ih
    constructor
    · intro pb c st r h
      cases c with
      | skip => simpa [run] using h
      | region d ops =>
        rw [run] at h ⊢
        by_cases hd : (d && !dstsOk st ops) = true
        · rw [if_pos hd] at h; cases h
        · rw [if_neg hd] at h ⊢
          rcases he : runOps E (call E n) pb ops { st with al := fun _ => none } with _ | q
          · rw [he] at h; cases h
          · rw [runOps_mono h2 ops he]; rw [he] at h; exact h
      | seq a b =>
        rw [run] at h ⊢
        rcases he : run E n pb a st with _ | q
        · rw [he] at h; cases h
        · rw [h1 _ _ _ _ he]; rw [he] at h
          obtain ⟨e, s⟩ := q
          cases e
          · exact h1 _ _ _ _ h
          · exact h
          · exact h
      | cond c a b =>
        rw [run] at h ⊢
        revert h
        rcases st.operand E.gl c with _ | v
        · exact id
        · cases v <;> try exact id
          rename_i q
          cases q
          · exact h1 _ _ _ _
          · exact h1 _ _ _ _
      | block id c =>
        rw [run] at h ⊢
        rcases he : run E n pb c st with _ | q
        · rw [he] at h; cases h
        · rw [h1 _ _ _ _ he]; rw [he] at h; exact h
      | loop live c =>
        rw [run] at h ⊢
        rcases he : run E n pb c (st.keep live) with _ | q
        · rw [he] at h; cases h
        · rw [h1 _ _ _ _ he]; rw [he] at h
          obtain ⟨e, s⟩ := q
          cases e
          · exact h1 _ _ _ _ h
          · exact h
          · exact h
      | exit id => simpa [run] using h
      | ret => simpa [run] using h
      | fail => simp [run] at h
      | range s f live =>
        rw [run] at h ⊢
        revert h
        rcases st.operand E.gl f with _ | v
        · exact id
        · cases v <;> try exact id
          rename_i g cap
          intro h
          simp only [] at h ⊢
          split at h
          · rename_i hc
            rw [if_pos hc]
            rcases he : call E n g (.fn YG [.optr st.ob.length 0] :: cap) (st.ob ++ [loopObj s 0 (snapGo live 0 st.sl)]) pb with _ | q
            · rw [he] at h; cases h
            · rw [h2 _ _ _ _ _ he]; rw [he] at h; exact h
          · cases h
    · intro g args ob pb r h
      rw [call] at h ⊢
      revert h
      rcases E.fns g with _ | e
      · intro h
        simp only [] at h ⊢
        split at h
        · rename_i hg
          rw [if_pos hg]
          rcases hy : yieldTo E args ob pb with _ | y
          · rw [hy] at h; cases h
          · rw [hy] at h
            simp only [Option.bind_some] at h ⊢
            rcases h3 : run E n pb y.2.2.2.2.1 { sl := setPs y.2.2.2.1 y.1 (y.2.2.1.map .val), ob, al := fun _ => none } with _ | r1
            · rw [h3] at h; cases h
            · rw [h1 _ _ _ _ h3]; rw [h3] at h
              simp only [Option.bind_some] at h ⊢
              split at h
              · rename_i hc
                rw [if_pos hc]
                rcases h4 : loopTo r1.2 y.2.1 (-1) with _ | s1
                · rw [h4] at h; cases h
                · rw [h4] at h
                  simp only [Option.bind_some] at h ⊢
                  rcases h5 : run E n pb y.2.2.2.2.2 s1 with _ | r2
                  · rw [h5] at h; cases h
                  · rw [h1 _ _ _ _ h5]; rw [h5] at h; exact h
              · cases h
        · rename_i hg
          rw [if_neg hg]; exact h
      · cases e with
        | ext F => exact id
        | code f =>
          intro h
          simp only [] at h ⊢
          rcases he : run E n pb f.body { sl := args.map .val ++ List.replicate (f.ntmps - args.length) (.val .undef), ob, al := fun _ => none } with _ | q
          · rw [he] at h; cases h
          · rw [h1 _ _ _ _ he]; rw [he] at h; exact h
theorem run_mono {E : Env} {n m : Nat} (hnm : n ≤ m) {pb : Nat} {c : TCode} {st : St} {r : Ex × St} (h : run E n pb c st = some r) : run E m pb c st = some r := by
  induction hnm with
  | refl => exact h
  | step _ ih => exact (mono_all E _).1 _ _ _ _ ih
theorem call_mono {E : Env} {n m : Nat} (hnm : n ≤ m) : EvLe (call E n) (call E m) := by
  induction hnm with
  | refl => exact fun _ _ _ _ _ h => h
  | step _ ih => exact fun _ _ _ _ _ h => (mono_all E _).2 _ _ _ _ _ (ih _ _ _ _ _ h)
/-- What E answers with enough fuel. -/
def Gives (E : Env) (g : Nat) (args : List LV) (ob : Obs) (pb : Nat) (r : LV × Obs) : Prop := ∃ n, call E n g args ob pb = some r
def Runs (E : Env) (pb : Nat) (c : TCode) (st : St) (r : Ex × St) : Prop := ∃ n, run E n pb c st = some r
end Tree

set_option autoImplicit false
set_option linter.unusedVariables false
set_option linter.unusedSimpArgs false
namespace Tree
open Go

structure WSt where
  sl : List Slot
  ob : Obs
  nt : List (Nat × Option Place)
def withW (w : WSt) (f : List Slot → Obs → List (Nat × Option Place) → Prop) : Prop := match w with
  | ⟨a, b, c⟩ => f a b c
theorem withW_eq (w : WSt) (f : List Slot → Obs → List (Nat × Option Place) → Prop) : withW w f = f w.sl w.ob w.nt := by cases w; rfl
def lookN : List (Nat × Option Place) → Nat → Option Place
  | [], _ => none
  | (a, p) :: r, t => if t = a then p else lookN r t
def WSt.st (w : WSt) : St := ⟨w.sl, w.ob, lookN w.nt⟩
def mapN (f : Nat → Option Place → Option Place) : List (Nat × Option Place) → List (Nat × Option Place)
  | [] => []
  | (a, p) :: r => (a, f a p) :: mapN f r
theorem lookN_map {f : Nat → Option Place → Option Place} (hf : ∀ a, f a none = none) (l : List (Nat × Option Place)) (t : Nat) : lookN (mapN f l) t = f t (lookN l t) := by
  induction l with
  | nil => simp [mapN, lookN, hf]
  | cons e r ih =>
    obtain ⟨a, p⟩ := e
    simp only [mapN, lookN]
    split
    · rename_i h; subst h; rfl
    · exact ih
def forgetF (d a : Nat) (p : Option Place) : Option Place := if a = d then none else match p with
  | some p => if p.root = .slot d then none else some p
  | none => none
def rootF (r : Root) (_ : Nat) (p : Option Place) : Option Place := match p with
  | some p => if p.root = r then none else some p
  | none => none
def slotF (_ : Nat) (p : Option Place) : Option Place := match p with
  | some ⟨.slot s, c⟩ => some ⟨.slot s, c⟩
  | _ => none
def sV : Nat → LV → (LV → Prop) → Prop
  | 0, v, k => headV v k
  | n + 1, v, k => match v with
    | .agg cs => forceL (sV n) cs fun cs => k (.agg cs)
    | .tup cs => forceL (sV n) cs fun cs => k (.tup cs)
    | .fn g cs => forceL (sV n) cs fun cs => k (.fn g cs)
    | .bool b => k (.bool b)
    | .int kk i => k (.int kk i)
    | .str s => k (.str s)
    | .sl o l z xs sp => k (.sl o l z xs sp)
    | .iptr l cs o => k (.iptr l cs o)
    | .laddr s o => k (.laddr s o)
    | .optr s o => k (.optr s o)
    | .nilptr => k .nilptr
    | .nilfn => k .nilfn
    | .undef => k .undef
    | .mref i => k (.mref i)
    | .nilmap => k .nilmap
    | .msl i o l c z => k (.msl i o l c z)
theorem sV_eq (n : Nat) : ∀ (v : LV) (k : LV → Prop), sV n v k = k v := by
  induction n with
  | zero => intro v k; simp [sV, headV_eq]
  | succ n ih => intro v k; cases v <;> simp [sV, forceL_eq ih]
def bigS (v : Slot) (k : Slot → Prop) : Prop := match v with
  | .val v => headV v fun v => k (.val v)
  | .box cs => forceL headV cs fun cs => k (.box cs)
theorem bigS_eq (v : Slot) (k : Slot → Prop) : bigS v k = k v := by cases v <;> simp [bigS, headV_eq, forceL_eq headV_eq]
def slotK : List Slot → Nat → (Slot → Prop) → Prop
  | [], _, _ => False
  | x :: _, 0, k => k x
  | _ :: r, n + 1, k => slotK r n k
theorem slotK_sound {l : List Slot} : ∀ {n : Nat} {k : Slot → Prop}, slotK l n k → ∃ s, l[n]? = some s ∧ k s := by
  induction l with
  | nil => intro n k h; exact h.elim
  | cons x r ih =>
    intro n k h
    cases n with
    | zero => exact ⟨x, rfl, h⟩
    | succ n => exact ih h
def setK : List Slot → Nat → Slot → (List Slot → Prop) → Prop
  | [], _, _, k => k []
  | _ :: r, 0, s, k => k (s :: r)
  | x :: r, n + 1, s, k => setK r n s fun r' => k (x :: r')
theorem setK_eq (l : List Slot) : ∀ (n : Nat) (s : Slot) (k : List Slot → Prop), setK l n s k = k (l.set n s) := by
  induction l with
  | nil => intros; rfl
  | cons x r ih =>
    intro n s k
    cases n with
    | zero => rfl
    | succ n => simp [setK, ih]
def opdK (E : Env) (w : WSt) (x : Opd) (k : LV → Prop) : Prop := match x with
  | .const v => k v
  | .glob g => k (.iptr 0 (E.gl g) 0)
  | .tmp t => slotK w.sl t fun s => match s with
    | .val v => sV 2 v.bare k
    | .box _ => k (.laddr t 0)
theorem opdK_sound {E : Env} {w : WSt} {x : Opd} {k : LV → Prop} (h : opdK E w x k) : ∃ v, w.st.operand E.gl x = some v ∧ k v := by
  cases x with
  | const v => exact ⟨v, rfl, h⟩
  | glob g => exact ⟨_, rfl, h⟩
  | tmp t =>
    obtain ⟨s, h1, h2⟩ := slotK_sound h
    cases s with
    | val v => simp only [sV_eq] at h2; exact ⟨v.bare, by simp [St.operand, WSt.st, h1], h2⟩
    | box cs => exact ⟨.laddr t 0, by simp [St.operand, WSt.st, h1], h2⟩
def opdOK (E : Env) (w : WSt) (x : Option Opd) (k : Option LV → Prop) : Prop := match x with
  | none => k none
  | some x => opdK E w x fun v => k (some v)
theorem opdOK_sound {E : Env} {w : WSt} {x : Option Opd} {k : Option LV → Prop} (h : opdOK E w x k) : ∃ v, operandO E.gl w.st x = some v ∧ k v := by
  cases x with
  | none => exact ⟨none, rfl, h⟩
  | some x => obtain ⟨v, h1, h2⟩ := opdK_sound h; exact ⟨some v, by simp [operandO, h1], h2⟩
def boxAt : List Slot → Nat → Bool
  | [], _ => false
  | .box _ :: _, 0 => true
  | .val _ :: _, 0 => false
  | _ :: r, n + 1 => boxAt r n
theorem boxAt_false {l : List Slot} : ∀ {n : Nat}, boxAt l n = false → ∀ cs, l[n]? ≠ some (.box cs) := by
  induction l with
  | nil => intro n _ cs h; simp at h
  | cons x r ih =>
    intro n h cs hc
    cases n with
    | zero => simp at hc; subst hc; simp [boxAt] at h
    | succ n => exact ih (by simpa [boxAt] using h) cs (by simpa using hc)
theorem boxAt_true {l : List Slot} : ∀ {n : Nat}, boxAt l n = true → ∃ cs, l[n]? = some (.box cs) := by
  induction l with
  | nil => intro n h; simp [boxAt] at h
  | cons x r ih =>
    intro n h
    cases n with
    | zero => cases x with
      | val v => simp [boxAt] at h
      | box cs => exact ⟨cs, rfl⟩
    | succ n => simpa using ih (n := n) (by simpa [boxAt] using h)
/-- The slots when slot d's old content has gone. -/
def killK (l : List Slot) (d : Nat) (k : List Slot → Prop) : Prop := match boxAt l d with
  | true => forceL headS (killGo d l) k
  | false => k l
theorem killK_eq (w : WSt) (d : Nat) (k : List Slot → Prop) : killK w.sl d k = k (w.st.kill d) := by
  unfold killK St.kill
  cases hb : boxAt w.sl d with
  | false =>
    have := boxAt_false hb
    rcases hs : w.sl[d]? with _ | s
    · simp only [WSt.st, hs]
    · cases s with
      | val v => simp only [WSt.st, hs]
      | box cs => exact absurd hs (this cs)
  | true =>
    obtain ⟨cs, h⟩ := boxAt_true hb
    simp only [WSt.st, h, forceL_eq headS_eq]
def mapK (f : Nat → Option Place → Option Place) (l : List (Nat × Option Place)) (k : List (Nat × Option Place) → Prop) : Prop := match l with
  | [] => k []
  | e :: r => k (mapN f (e :: r))
theorem mapK_eq (f : Nat → Option Place → Option Place) (l : List (Nat × Option Place)) (k : List (Nat × Option Place) → Prop) : mapK f l k = k (mapN f l) := by cases l <;> rfl
def putW (w : WSt) (dst : Option Nat) (v : LV) (k : WSt → Prop) : Prop := match dst with
  | none => k w
  | some d => withW w fun sl ob nt => headV (v.notOf d) fun v => killK sl d fun sl => setK sl d (.val v) fun sl => mapK (forgetF d) nt fun nt => k ⟨sl, ob, nt⟩
theorem forget_look (w : WSt) (d : Nat) : w.st.forget d = lookN (mapN (forgetF d) w.nt) := by
  funext t
  rw [lookN_map (by intro a; simp [forgetF])]
  rfl
theorem putW_sound {w : WSt} {dst : Option Nat} {v : LV} {k : WSt → Prop} (h : putW w dst v k) : ∃ w', w.st.put dst v = w'.st ∧ k w' := by
  cases dst with
  | none => exact ⟨w, rfl, h⟩
  | some d =>
    have h : headV (v.notOf d) fun v => killK w.sl d fun sl => setK sl d (.val v) fun sl => mapK (forgetF d) w.nt fun nt => k ⟨sl, w.ob, nt⟩ := h
    simp only [headV_eq, killK_eq, setK_eq, mapK_eq] at h
    exact ⟨_, by simp only [St.put, WSt.st]; congr 1; exact forget_look w d, h⟩
def noteW (w : WSt) (dst : Option Nat) (p : Place) (k : WSt → Prop) : Prop := match dst with
  | none => k w
  | some d => match decide (p.root = .slot d) with
    | true => k w
    | false => withW w fun sl ob nt => k ⟨sl, ob, (d, some p) :: nt⟩
theorem noteW_sound {w : WSt} {dst : Option Nat} {p : Place} {k : WSt → Prop} (h : noteW w dst p k) : ∃ w', w.st.note dst p = w'.st ∧ k w' := by
  cases dst with
  | none => exact ⟨w, rfl, h⟩
  | some d =>
    unfold noteW at h
    by_cases hp : p.root = .slot d
    · simp only [hp, decide_true] at h
      exact ⟨w, by simp [St.note, hp], h⟩
    · simp only [hp, decide_false] at h
      exact ⟨_, by simp only [St.note, if_neg hp, WSt.st]; rfl, h⟩
def doneW (box : Bool) (dst : Option Nat) (v : LV) (w : WSt) (p : Option Place) (k : WSt → Prop) : Prop := match box, dst with
  | true, some d => withW w fun sl ob nt => forceL headV v.cells fun cs => killK sl d fun sl => setK sl d (.box cs) fun sl => mapK (forgetF d) nt fun nt => k ⟨sl, ob, nt⟩
  | true, none => k w
  | false, dst => putW w dst v fun w => match p with
    | none => k w
    | some p => noteW w dst p k
theorem doneW_sound {o : TOper} {v : LV} {w : WSt} {p : Option Place} {k : WSt → Prop} (h : doneW o.op.isBox o.dst v w p k) : ∃ w', doneE o (v, w.st, p) = w'.st ∧ k w' := by
  unfold doneW at h; unfold doneE
  split at h
  · rename_i d h1 h2
    have h : forceL headV v.cells fun cs => killK w.sl d fun sl => setK sl d (.box cs) fun sl => mapK (forgetF d) w.nt fun nt => k ⟨sl, w.ob, nt⟩ := h
    simp only [forceL_eq headV_eq, killK_eq, setK_eq, mapK_eq] at h
    refine ⟨_, ?_, h⟩
    simp only [h1, h2, WSt.st]; congr 1; exact forget_look w d
  · rename_i h1 h2
    exact ⟨w, by simp only [h1, h2], h⟩
  · rename_i h1
    obtain ⟨w1, e1, h⟩ := putW_sound h
    simp only [h1]
    cases p with
    | none => exact ⟨w1, e1, h⟩
    | some p =>
      obtain ⟨w2, e2, h⟩ := noteW_sound h
      exact ⟨w2, by simp only [e1, e2], h⟩
end Tree

set_option autoImplicit false
set_option linter.unusedVariables false
set_option linter.unusedSimpArgs false
namespace Tree
open Go

theorem strip_al (st : St) (p : Place) : (st.strip p).al = st.al := by
  unfold St.strip
  repeat' split
  all_goals rfl
theorem takeTop_al {st : St} {pb t : Nat} {r : LV × St} (h : st.takeTop pb t = some r) : r.2.al = st.al := by
  unfold St.takeTop at h
  split at h
  · cases h; exact strip_al _ _
  · split at h
    · split at h
      · split at h
        · cases h; exact strip_al _ _
        · cases h
      · cases h
    · cases h
  · cases h
theorem take_al {gl : Nat → List LV} {st : St} {pb : Nat} {x : Opd} {r : LV × St} (h : st.take gl pb x = some r) : r.2.al = st.al := by
  cases x with
  | const v => simp [St.take, St.operand] at h; subst h; rfl
  | glob v => simp [St.take, St.operand] at h; subst h; rfl
  | tmp t =>
    simp only [St.take] at h
    split at h
    · rename_i r' hr; cases h; exact takeTop_al hr
    · split at h
      · cases h; rfl
      · cases h; rfl
      · cases h
/-- A state whose notes are those of w. -/
def WSt.of (w : WSt) (st : St) : WSt := ⟨st.sl, st.ob, w.nt⟩
theorem WSt.of_st {w : WSt} {st : St} (h : st.al = w.st.al) : (w.of st).st = st := by
  obtain ⟨sl, ob, al⟩ := st; simp only at h; subst h; rfl
def GenP {α : Type} (o : Option α) (k : α → Prop) : Prop := match o with
  | some r => k r
  | none => False
theorem GenP_sound {α : Type} {o : Option α} {k : α → Prop} (h : GenP o k) : ∃ r, o = some r ∧ k r := by
  cases o with
  | none => exact h.elim
  | some r => exact ⟨r, rfl, h⟩
def sel (q : Bool) (A B : Prop) : Prop := match q with
  | true => A
  | false => B
theorem sel_split {q : Bool} {A B : Prop} (h1 : q = true → A) (h2 : q = false → B) : sel q A B := by
  cases q
  · exact h2 rfl
  · exact h1 rfl
theorem sel_t {q : Bool} {A B : Prop} (h : q = true) (h1 : A) : sel q A B := by subst h; exact h1
theorem sel_f {q : Bool} {A B : Prop} (h : q = false) (h1 : B) : sel q A B := by subst h; exact h1
def boolP (q : Bool) (k : Bool → Prop) : Prop := sel q (k true) (k false)
theorem boolP_sound {q : Bool} {k : Bool → Prop} (h : boolP q k) : k q := by cases q <;> exact h
def reSt (w : WSt) (st : St) (k : WSt → Prop) : Prop := match w, st with
  | ⟨_, _, nt⟩, ⟨sl, ob, _⟩ => forceL bigS sl fun sl => k ⟨sl, ob, nt⟩
theorem reSt_eq (w : WSt) (st : St) (k : WSt → Prop) : reSt w st k = k (w.of st) := by cases w; cases st; simp [reSt, forceL_eq bigS_eq, WSt.of]

/-- Operations that change no state and stop at no condition. -/
def TOp.plain : TOp → Bool
  | .move _ | .loadB .. | .nilCheck _ | .bin .. | .eqAgg .. | .un .. | .conv .. | .convS _ | .faddr .. | .field .. | .build .. | .buildSlice .. | .len .. | .sliceArr .. | .minmax .. | .extract .. | .slice3 .. => true
  | _ => false
theorem plain_st {E : Env} {ev : Ev} {pb : Nat} {st : St} {dst : Option Nat} {op : TOp} {r : LV × St × Option Place} (hp : op.plain = true) (h : valOp E ev pb st dst op = some r) : r.2.1 = st := by
  cases op <;> first | (cases hp; done) | skip
  case move x => obtain ⟨v, h1, rfl⟩ := Option.map_eq_some_iff.1 h; rfl
  case loadB agg sz p =>
    obtain ⟨a, h1, h2⟩ := Option.bind_eq_some_iff.1 h
    split at h2
    · obtain ⟨v, h3, rfl⟩ := Option.map_eq_some_iff.1 h2; rfl
    · cases h2
  case nilCheck x =>
    simp only [valOp] at h
    split at h <;> first | (cases h; done) | (cases h; rfl)
  case bin ty op x y =>
    obtain ⟨a, h1, h2⟩ := Option.bind_eq_some_iff.1 h
    obtain ⟨b, h3, h4⟩ := Option.bind_eq_some_iff.1 h2
    obtain ⟨v, h5, rfl⟩ := Option.map_eq_some_iff.1 h4; rfl
  case eqAgg neg t x y =>
    simp only [valOp] at h
    split at h
    · obtain ⟨v, h5, rfl⟩ := Option.map_eq_some_iff.1 h; rfl
    · cases h
  case un op x =>
    obtain ⟨a, h1, h2⟩ := Option.bind_eq_some_iff.1 h
    obtain ⟨v, h5, rfl⟩ := Option.map_eq_some_iff.1 h2; rfl
  case conv k x =>
    simp only [valOp] at h
    split at h
    · cases h; rfl
    · cases h
  case convS x =>
    simp only [valOp] at h
    split at h
    · cases h; rfl
    · cases h
  case faddr x off =>
    obtain ⟨a, h1, h2⟩ := Option.bind_eq_some_iff.1 h
    obtain ⟨v, h5, rfl⟩ := Option.map_eq_some_iff.1 h2; rfl
  case field x agg off sz =>
    simp only [valOp] at h
    split at h
    · obtain ⟨v, h5, rfl⟩ := Option.map_eq_some_iff.1 h; rfl
    · cases h
  case build zero parts =>
    obtain ⟨a, h1, h2⟩ := Option.bind_eq_some_iff.1 h
    obtain ⟨b, h3, h4⟩ := Option.bind_eq_some_iff.1 h2
    split at h4
    · cases h4; rfl
    · cases h4
  case buildSlice n sz zero parts =>
    obtain ⟨a, h1, h2⟩ := Option.bind_eq_some_iff.1 h
    obtain ⟨b, h3, h4⟩ := Option.bind_eq_some_iff.1 h2
    split at h4
    · cases h4; rfl
    · cases h4
  case len str x =>
    simp only [valOp] at h
    split at h
    · split at h
      · cases h
      · cases h; rfl
    · split at h
      · cases h
      · cases h; rfl
    · split at h
      · cases h; rfl
      · cases h
    · cases h
  case sliceArr x len sz =>
    simp only [valOp] at h
    split at h
    · split at h
      · cases h; rfl
      · cases h
    · cases h
  case slice3 sz x lo hi mx =>
    obtain ⟨a, h1, h2⟩ := Option.bind_eq_some_iff.1 h
    obtain ⟨b, h3, h4⟩ := Option.bind_eq_some_iff.1 h2
    obtain ⟨c, h5, h6⟩ := Option.bind_eq_some_iff.1 h4
    obtain ⟨d, h7, h8⟩ := Option.bind_eq_some_iff.1 h6
    obtain ⟨v, h9, rfl⟩ := Option.map_eq_some_iff.1 h8; rfl
  case minmax mx x y =>
    obtain ⟨a, h1, h2⟩ := Option.bind_eq_some_iff.1 h
    obtain ⟨b, h3, h4⟩ := Option.bind_eq_some_iff.1 h2
    obtain ⟨v, h5, rfl⟩ := Option.map_eq_some_iff.1 h4; rfl
  case extract x i =>
    simp only [valOp] at h
    split at h
    · split at h
      · obtain ⟨v, h5, rfl⟩ := Option.map_eq_some_iff.1 h; rfl
      · cases h
    · cases h

/-- A slice's right, out of an object's cell. -/
theorem takeTop_obj {sl : List Slot} {ob : Obs} {nt : List (Nat × Option Place)} {pb t id c l l' z : Nat} {xs sp xs' sp' : List (List LV)} {cs : List LV} (h1 : sl[t]? = some (.val (.sl false l z xs sp))) (h2 : lookN nt t = some ⟨.obj id, some c⟩) (h3 : pb ≤ id) (h4 : ob[id]? = some cs) (h5 : cs[c]? = some (.sl true l' z xs' sp')) :
    (WSt.mk sl ob nt).st.takeTop pb t = some (.sl true l z xs [], (WSt.mk sl (ob.set id (cs.modify c LV.bare1)) nt).st) := by
  have e : (WSt.mk sl ob nt).st.at ⟨.obj id, some c⟩ = some (.sl true l' z xs' sp') := by simp only [St.at, WSt.st, h4]; exact h5
  have e2 : (WSt.mk sl ob nt).st.strip ⟨.obj id, some c⟩ = (WSt.mk sl (ob.set id (cs.modify c LV.bare1)) nt).st := by simp only [St.strip, WSt.st, h4]
  have h1' : (WSt.mk sl ob nt).st.sl[t]? = some (.val (.sl false l z xs sp)) := h1
  have h2' : (WSt.mk sl ob nt).st.al t = some ⟨.obj id, some c⟩ := h2
  simp only [St.takeTop, h1', h2', e, e2, Place.may, decide_eq_true h3, and_self, if_true]
/-- Taking, with the state brought to constructors. -/
def takeK (E : Env) (pb : Nat) (w : WSt) (x : Opd) (k : LV → WSt → Prop) : Prop := match x with
  | .tmp t => withW w fun sl ob nt => slotK sl t fun s => match s with
    | .box _ => k (.laddr t 0) ⟨sl, ob, nt⟩
    | .val v => match v with
      | .sl true l z xs sp => setK sl t (.val (.sl false l z xs sp)) fun sl => k (.sl true l z xs sp) ⟨sl, ob, nt⟩
      | .sl false l z xs sp => match lookN nt t with
        | none => k (.sl false l z xs sp) ⟨sl, ob, nt⟩
        | some ⟨.obj id, some c⟩ => (∃ cs l' xs' sp', (pb ≤ id ∧ ob[id]? = some cs ∧ cs[c]? = some (.sl true l' z xs' sp')) ∧ k (.sl true l z xs []) ⟨sl, ob.set id (cs.modify c LV.bare1), nt⟩) ∨ GenP ((WSt.mk sl ob nt).st.take E.gl pb (.tmp t)) fun p => reSt ⟨sl, ob, nt⟩ p.2 fun w => k p.1 w
        | some _ => GenP ((WSt.mk sl ob nt).st.take E.gl pb (.tmp t)) fun p => reSt ⟨sl, ob, nt⟩ p.2 fun w => k p.1 w
      | v => sV 2 v.bare fun b => setK sl t (.val b) fun sl => k v ⟨sl, ob, nt⟩
  | x => opdK E w x fun v => k v w
theorem setSame {l : List Slot} {t : Nat} {s : Slot} (h : l[t]? = some s) : l.set t s = l := by
  apply List.ext_getElem?; intro i
  rw [List.getElem?_set]
  split
  · rename_i e; subst e
    have := (List.getElem?_eq_some_iff.1 h).1
    rw [if_pos this, h]
  · rfl
theorem takeK_sound {E : Env} {pb : Nat} {w : WSt} {x : Opd} {k : LV → WSt → Prop} (h : takeK E pb w x k) : ∃ v w', w.st.take E.gl pb x = some (v, w'.st) ∧ k v w' := by
  cases x with
  | const v =>
    obtain ⟨v, h1, h2⟩ := opdK_sound (show opdK E w (.const v) fun v => k v w from h)
    exact ⟨v, w, by simp [St.take, h1], h2⟩
  | glob v =>
    obtain ⟨v, h1, h2⟩ := opdK_sound (show opdK E w (.glob v) fun v => k v w from h)
    exact ⟨v, w, by simp [St.take, h1], h2⟩
  | tmp t =>
    simp only [takeK] at h
    rw [withW_eq] at h
    obtain ⟨s, h1, h⟩ := slotK_sound h
    have h1' : w.st.sl[t]? = some s := h1
    cases s with
    | box cs => exact ⟨.laddr t 0, w, by simp only [St.take, St.takeTop, h1'], h⟩
    | val v =>
      simp only at h
      split at h
      · rename_i l z xs sp
        rw [setK_eq] at h
        refine ⟨_, _, ?_, h⟩
        simp only [St.take, St.takeTop, h1', St.strip, LV.bare1]; rfl
      · rename_i l z xs sp
        split at h
        · rename_i hn
          have hn' : w.st.al t = none := hn
          refine ⟨_, w, ?_, h⟩
          simp only [St.take, St.takeTop, h1', hn', LV.bare, LV.bare1]
          congr 2
          show St.mk (w.sl.set t _) _ _ = _
          rw [setSame h1]; rfl
        · rename_i id c hl
          rcases h with ⟨cs, l', xs', sp', ⟨a1, a2, a3⟩, h⟩ | h
          · refine ⟨_, _, ?_, h⟩
            have e := takeTop_obj (pb := pb) h1 hl a1 a2 a3
            have e' : w.st.takeTop pb t = _ := e
            simp only [St.take, e']
          · obtain ⟨p, h2, h3⟩ := GenP_sound h
            rw [reSt_eq] at h3
            refine ⟨p.1, _, ?_, h3⟩
            rw [WSt.of_st (take_al h2)]; exact h2
        · obtain ⟨p, h2, h3⟩ := GenP_sound h
          rw [reSt_eq] at h3
          refine ⟨p.1, _, ?_, h3⟩
          rw [WSt.of_st (take_al h2)]; exact h2
      · rename_i hv1 hv2
        rw [sV_eq, setK_eq] at h
        refine ⟨v, _, ?_, h⟩
        have : w.st.takeTop pb t = none := by
          unfold St.takeTop; rw [h1']
          split
          · rename_i e; cases e; exact absurd rfl (hv1 _ _ _ _)
          · rename_i e; cases e; exact absurd rfl (hv2 _ _ _ _)
          · rfl
        simp only [St.take, this, h1']; rfl
def takeTopK (E : Env) (pb : Nat) (w : WSt) (t : Nat) (k : LV → WSt → Prop) : Prop := withW w fun sl ob nt => slotK sl t fun s => match s with
  | .val (.sl true l z xs sp) => setK sl t (.val (.sl false l z xs sp)) fun sl => k (.sl true l z xs sp) ⟨sl, ob, nt⟩
  | .val (.sl false l z xs sp) => match lookN nt t with
    | some ⟨.obj id, some c⟩ => ∃ cs l' xs' sp', (pb ≤ id ∧ ob[id]? = some cs ∧ cs[c]? = some (.sl true l' z xs' sp')) ∧ k (.sl true l z xs []) ⟨sl, ob.set id (cs.modify c LV.bare1), nt⟩
    | _ => GenP ((WSt.mk sl ob nt).st.takeTop pb t) fun p => reSt ⟨sl, ob, nt⟩ p.2 fun w => k p.1 w
  | _ => GenP ((WSt.mk sl ob nt).st.takeTop pb t) fun p => reSt ⟨sl, ob, nt⟩ p.2 fun w => k p.1 w
theorem takeTopK_sound {E : Env} {pb : Nat} {w : WSt} {t : Nat} {k : LV → WSt → Prop} (h : takeTopK E pb w t k) : ∃ v w', w.st.takeTop pb t = some (v, w'.st) ∧ k v w' := by
  unfold takeTopK at h
  rw [withW_eq] at h
  obtain ⟨s, h1, h⟩ := slotK_sound h
  have h1' : w.st.sl[t]? = some s := h1
  split at h
  · rename_i l z xs sp
    rw [setK_eq] at h
    refine ⟨_, _, ?_, h⟩
    simp only [St.takeTop, h1', St.strip, LV.bare1]; rfl
  · split at h
    · rename_i id c hl
      obtain ⟨cs, l', xs', sp', ⟨a1, a2, a3⟩, h⟩ := h
      exact ⟨_, _, takeTop_obj h1 hl a1 a2 a3, h⟩
    · obtain ⟨p, h2, h3⟩ := GenP_sound h
      rw [reSt_eq] at h3
      refine ⟨p.1, _, ?_, h3⟩
      rw [WSt.of_st (takeTop_al h2)]; exact h2
  · obtain ⟨p, h2, h3⟩ := GenP_sound h
    rw [reSt_eq] at h3
    refine ⟨p.1, _, ?_, h3⟩
    rw [WSt.of_st (takeTop_al h2)]; exact h2
def takeArgsK (E : Env) (pb : Nat) (moved : List Nat) : Nat → List Opd → WSt → (List LV → WSt → Prop) → Prop
  | _, [], w, k => k [] w
  | j, x :: r, w, k => match moved.contains j with
    | true => takeK E pb w x fun v w => takeArgsK E pb moved (j + 1) r w fun vs w => k (v :: vs) w
    | false => opdK E w x fun v => takeArgsK E pb moved (j + 1) r w fun vs w => k (v :: vs) w
theorem takeArgsK_sound {E : Env} {pb : Nat} {moved : List Nat} : ∀ (l : List Opd) (j : Nat) {w : WSt} {k : List LV → WSt → Prop}, takeArgsK E pb moved j l w k → ∃ vs w', takeArgs E.gl pb moved j l w.st = some (vs, w'.st) ∧ k vs w'
  | [], j, w, k, h => ⟨[], w, rfl, h⟩
  | x :: r, j, w, k, h => by
    simp only [takeArgsK] at h
    split at h
    · rename_i hm
      obtain ⟨v, w1, h1, h⟩ := takeK_sound h
      obtain ⟨vs, w2, h2, h⟩ := takeArgsK_sound r (j + 1) h
      exact ⟨_, w2, by simp only [takeArgs, hm, h1, h2, Option.bind_some, Option.map_some, if_true], h⟩
    · rename_i hm
      obtain ⟨v, h1, h⟩ := opdK_sound h
      obtain ⟨vs, w2, h2, h⟩ := takeArgsK_sound r (j + 1) h
      exact ⟨_, w2, by simp only [takeArgs, hm, h1, h2, Option.bind_some, Option.map_some, Bool.false_eq_true, if_false], h⟩
/-- Writing, with the state brought to constructors. -/
def writeK (w : WSt) (pb : Nat) (vs : List LV) (a : LV) (k : WSt → Prop) : Prop := match a with
  | .laddr s off => withW w fun sl ob nt => slotK sl s fun b => match b with
    | .box cs => GenP (splice cs off vs) fun cs => forceL headV cs fun cs => setK sl s (.box cs) fun sl => mapK (rootF (.slot s)) nt fun nt => k ⟨sl, ob, nt⟩
    | .val _ => False
  | .optr id off => withW w fun sl ob nt => ∃ cs cs', (pb ≤ id ∧ ob[id]? = some cs ∧ isMapC cs = false ∧ splice cs off vs = some cs') ∧ mapK (rootF (.obj id)) nt fun nt => k ⟨sl, ob.set id cs', nt⟩
  | _ => False
theorem dropRoot_look {w : WSt} {r : Root} : w.st.dropRoot r = lookN (mapN (rootF r) w.nt) := by
  funext t
  rw [lookN_map (by intro a; rfl)]
  simp only [St.dropRoot]; rfl
theorem writeK_sound {w : WSt} {pb : Nat} {vs : List LV} {a : LV} {k : WSt → Prop} (h : writeK w pb vs a k) : ∃ w', writeAt w.st pb vs a = some w'.st ∧ k w' := by
  unfold writeK at h
  split at h
  · rename_i s off
    rw [withW_eq] at h
    obtain ⟨b, h1, h⟩ := slotK_sound h
    have h1' : w.st.sl[s]? = some b := h1
    cases b with
    | val v => exact h.elim
    | box cs =>
      obtain ⟨cs', h2, h⟩ := GenP_sound h
      rw [forceL_eq headV_eq, setK_eq, mapK_eq] at h
      refine ⟨_, ?_, h⟩
      simp only [writeAt, h1', h2, Option.map_some, dropRoot_look]; rfl
  · rename_i id off
    rw [withW_eq] at h
    obtain ⟨cs, cs', ⟨hp, h1, hm, h2⟩, h⟩ := h
    rw [mapK_eq] at h
    have h1' : w.st.ob[id]? = some cs := h1
    refine ⟨_, ?_, h⟩
    simp only [writeAt, h1', if_pos hp, hm, Bool.false_eq_true, if_false, h2, Option.map_some, dropRoot_look]; rfl
  · exact h.elim

def ev0 : Ev := fun _ _ _ _ => none
theorem valOp_ev {E : Env} {a b : Ev} {pb : Nat} {st : St} {dst : Option Nat} {op : TOp} (hc : ∀ ro f args moved, op ≠ .call ro f args moved) : valOp E a pb st dst op = valOp E b pb st dst op := by
  cases op <;> first | rfl | exact absurd rfl (hc _ _ _ _)

/-- A call, as something to be shown. -/
inductive CallP (E : Env) (pb : Nat) (ro : Bool) (g : Nat) (args : List LV) (ob : Obs) (k : LV → Obs → Prop) : Prop where
  | mk (r : LV) (ob' : Obs) (h : Gives E g args ob (if ro then max pb ob.length else pb) (r, ob')) (hr : ro = true → r.noRef ob.length = true) (hk : k r ob') : CallP E pb ro g args ob k
inductive LoopP (E : Env) (pb : Nat) (live : List Nat) (c : TCode) (w : WSt) (k : Ex → WSt → Prop) : Prop where
  | mk (ex : Ex) (w' : WSt) (h : Runs E pb (.loop live c) w.st (ex, w'.st)) (hk : k ex w') : LoopP E pb live c w k

def freezesK (E : Env) : List Opd → WSt → (List LV → WSt → Prop) → Prop
  | [], w, k => k [] w
  | x :: r, w, k => opdK E w x fun v => match v with
    | .laddr s 0 => slotK w.sl s fun b => match b with
      | .box cs => putW w (some s) (.iptr 0 (cs.map LV.bare1) 0) fun w => freezesK E r w fun vs w => k (.iptr 0 (cs.map LV.bare1) 0 :: vs) w
      | .val _ => False
    | v => match v.noL with
      | true => freezesK E r w fun vs w => k (v :: vs) w
      | false => False
theorem freezesK_sound {E : Env} : ∀ (l : List Opd) {w : WSt} {k : List LV → WSt → Prop}, freezesK E l w k → ∃ vs w', freezes E.gl w.st l = some (vs, w'.st) ∧ k vs w'
  | [], w, k, h => ⟨[], w, rfl, h⟩
  | x :: r, w, k, h => by
    obtain ⟨v, h1, h2⟩ := opdK_sound h
    simp only [freezes, h1, Option.bind_some]
    split at h2
    · rename_i s
      obtain ⟨b, h3, h4⟩ := slotK_sound h2
      cases b with
      | val v => exact h4.elim
      | box cs =>
        obtain ⟨w1, e1, h5⟩ := putW_sound h4
        obtain ⟨vs, w', e2, h6⟩ := freezesK_sound r h5
        refine ⟨_, w', ?_, h6⟩
        have : w.st.sl[s]? = some (.box cs) := h3
        simp only [St.freeze, this, Option.bind_some, e1, e2, Option.map_some]
    · rename_i hv
      split at h2
      · rename_i hn
        obtain ⟨vs, w', e2, h6⟩ := freezesK_sound r h2
        refine ⟨_, w', ?_, h6⟩
        have : w.st.freeze v = some (v, w.st) := by
          unfold St.freeze
          split
          · rename_i s; exact absurd rfl (hv s)
          · simp [hn]
        simp only [this, Option.bind_some, e2, Option.map_some]
      · exact h2.elim
end Tree

set_option autoImplicit false
set_option linter.unusedVariables false
set_option linter.unusedSimpArgs false
namespace Tree
open Go

abbrev ValK := LV → WSt → Option Place → Prop
def callW (E : Env) (pb : Nat) (w : WSt) (ro : Bool) (f : Opd) (args : List Opd) (moved : List Nat) (K : ValK) : Prop :=
  opdK E w f fun fv => match fv with
    | .fn g cap => takeArgsK E pb moved 0 args w fun vs w' => withW w' fun wsl wob wnt => forceL (sV 2) (vs ++ cap) fun as =>
      match LV.noLs vs && LV.noLs cap && cap.all LV.ownless with
      | true => CallP E pb ro g as wob fun r ob' => sV 2 r fun r => match ro with
        | true => K r ⟨wsl, wob, wnt⟩ none
        | false => mapK (fun _ => slotF 0) wnt fun nt => K r ⟨wsl, ob', nt⟩ none
      | false => False
    | _ => False
def okCells (sz : Nat) (cs : List LV) : Bool := decide (cs.length = sz) && cs.all LV.isCell
theorem okCells_iff {sz : Nat} {cs : List LV} (h : okCells sz cs = true) : cs.length = sz ∧ cs.all LV.isCell = true := by
  unfold okCells at h; rw [Bool.and_eq_true] at h; exact ⟨of_decide_eq_true h.1, h.2⟩
def storeW (E : Env) (pb : Nat) (w : WSt) (sz : Nat) (p x : Opd) (K : ValK) : Prop :=
  opdK E w p fun a => takeK E pb w x fun v w' => match okCells sz v.cells with
    | true => writeK w' pb v.cells a fun w2 => K .undef w2 none
    | false => False
def valW (E : Env) (pb : Nat) (w : WSt) (dst : Option Nat) (op : TOp) (K : ValK) : Prop := match op with
  | .pick c a b => opdK E w c fun q => match q with
    | .bool q => boolP q fun q => match q with
      | true => opdK E w a fun v => K v w none
      | false => opdK E w b fun v => K v w none
    | _ => False
  | .idxAddr x i sz => opdK E w x fun xv => opdK E w i fun iv => match xv, iv with
    | .sl _ l z xs _, .int _ n => match decide (z = sz) with
      | true => ∃ cs, (0 ≤ n ∧ xs[n.toNat]? = some cs) ∧ K (.iptr l cs 0) w none
      | false => False
    | .msl id off len _ z, .int _ n => match decide (z = sz) with
      | true => ∃ j, (0 ≤ n ∧ n < len ∧ j = off + n.toNat * sz) ∧ K (.optr id j) w none
      | false => False
    | _, _ => False
  | .idxArr x i len sz => opdK E w x fun xv => opdK E w i fun iv => match iv with
    | .int _ n => (0 ≤ n ∧ n < len) ∧ GenP (addrE xv (n.toNat * sz)) fun v => K v w none
    | _ => False
  | .idxStr x i => opdK E w x fun xv => opdK E w i fun iv => match xv, iv with
    | .str s, .int _ n => ∃ b, (0 ≤ n ∧ s.data.toList[n.toNat]? = some b) ∧ K (.int .u8 b.toNat) w none
    | _, _ => False
  | .append sz bytes s x => match s with
    | .tmp t => takeTopK E pb w t fun pv w' => match pv with
      | .sl _ 0 z xs [] => opdK E w x fun y => GenP (elems y) fun e => match decide (z = sz) with
        | true => ∃ ys, ((e.1 = sz ∨ e.2 = []) ∧ (xs.length + e.2.length) * bytes ≤ 140737488355328 ∧ ys = xs ++ e.2) ∧ K (.sl true 0 sz ys []) w' none
        | false => False
      | _ => False
    | .const (.sl true 0 z [] []) => opdK E w x fun y => GenP (elems y) fun e => match decide (z = sz) with
        | true => ∃ ys, ((e.1 = sz ∨ e.2 = []) ∧ e.2.length * bytes ≤ 140737488355328 ∧ ys = e.2) ∧ K (.sl true 0 sz ys []) w none
        | false => False
    | _ => False
  | .slice sz x lo hi => opdOK E w lo fun l => opdOK E w hi fun h => opdK E w x fun xv => match xv with
    | .sl _ lab z xs sp => GenP (boundE l 0) fun a => GenP (boundE h xs.length) fun b => match decide (z = sz) with
      | true => ∃ ys zs, ((0 ≤ a ∧ a ≤ b ∧ b ≤ (xs ++ sp).length) ∧ ys = ((xs ++ sp).take b.toNat).drop a.toNat ∧ zs = (xs ++ sp).drop b.toNat) ∧
          K (.sl false lab sz ys zs) w (match x, hi with | .tmp t, none => lookN w.nt t | _, _ => none)
      | false => False
    | .msl id off len cap z => GenP (boundE l 0) fun a => GenP (boundE h len) fun b => match decide (z = sz) with
      | true => ∃ off' len' cap', ((0 ≤ a ∧ a ≤ b ∧ b ≤ cap) ∧ off' = (if cap = a.toNat then off else off + a.toNat * sz) ∧ len' = b.toNat - a.toNat ∧ cap' = cap - a.toNat) ∧ K (.msl id off' len' cap' sz) w none
      | false => False
    | _ => False
  | .slice3 sz x lo hi mx => opdOK E w lo fun l => opdK E w hi fun h => opdK E w mx fun u => opdK E w x fun xv => match xv, h, u with
    | .sl _ lab z xs sp, .int _ b, .int _ c => GenP (boundE l 0) fun a => match decide (z = sz) with
      | true => ∃ ys zs, ((0 ≤ a ∧ a ≤ b ∧ b ≤ c ∧ c ≤ (xs ++ sp).length) ∧ ys = ((xs ++ sp).take b.toNat).drop a.toNat ∧ zs = ((xs ++ sp).take c.toNat).drop b.toNat) ∧ K (.sl false lab sz ys zs) w none
      | false => False
    | _, _, _ => False
  | .sliceStr x lo hi => opdOK E w lo fun l => opdOK E w hi fun h => opdK E w x fun xv => match xv with
    | .str s => GenP (boundE l 0) fun a => GenP (boundE h s.size) fun b => ∃ s', ((0 ≤ a ∧ a ≤ b ∧ b ≤ s.size) ∧ s' = s.extract a.toNat b.toNat) ∧ K (.str s') w none
    | _ => False
  | .makeFunc g cap => freezesK E cap w fun vs w => K (.fn g vs) w none
  | .store sz p x => storeW E pb w sz p x K
  | .call ro f args moved => callW E pb w ro f args moved K
  | .assign x => takeK E pb w x fun v w => K v w none
  | .buildM zero off x => takeK E pb w x fun v w => match v with
    | .sl o l z xs sp => off < zero.length ∧ K (.agg (zero.set off (.sl o l z xs sp))) w none
    | _ => False
  | .box sz x => takeK E pb w x fun v w => match okCells sz v.cells with
    | true => K v w none
    | false => False
  | .new sz x => takeK E pb w x fun v w => match okCells sz v.cells with
    | true => withW w fun sl ob nt => forceL headV v.cells fun cs => K (.optr ob.length 0) ⟨sl, ob ++ [cs], nt⟩ none
    | false => False
  | .fail => False
  | .load agg sz p => opdK E w p fun a => match a with
    | .optr id off => ∃ cs v, (w.ob[id]? = some cs ∧ isMapC cs = false ∧ partE agg off sz cs = some v) ∧ sV 2 v.bare fun v => K v w (noteOf v (match agg with | true => none | false => some ⟨.obj id, some off⟩))
    | _ => GenP (valOp E ev0 pb w.st dst (.load agg sz p)) fun r => K r.1 w r.2.2
  | .mkmap => withW w fun sl ob nt => K (.mref ob.length) ⟨sl, ob ++ [[.tup [.int .i64 0]]], nt⟩ none
  | .lookup t zero ok x i => opdK E w x fun mp => opdK E w i fun k => match keyOk t k with
    | true => ∃ v q, (lookE1 w.st t zero k mp = some (v, q)) ∧ match ok with
      | true => K (.tup [v.bare, .bool q]) w none
      | false => K v.bare w none
    | false => False
  | .mapSet t x i v => opdK E w x fun mp => opdK E w i fun k => opdK E w v fun u => match keyOk t k && u.cells.all LV.isCell with
    | true => (match mp with
      | .mref id => withW w fun sl ob nt => ∃ cs cs', (pb ≤ id ∧ ob[id]? = some cs ∧ mapPut t k u cs = some cs') ∧ mapK (rootF (.obj id)) nt fun nt => K .undef ⟨sl, ob.set id cs', nt⟩ none
      | _ => False)
    | false => False
  | .mapEnt t zero x i => opdK E w x fun mp => opdK E w i fun k => match keyOk t k && zero.cells.all LV.isCell with
    | true => (match mp with
      | .mref id => withW w fun sl ob nt => ∃ cs cs' v, (pb ≤ id ∧ ob[id]? = some cs ∧ mapEntV t zero k cs = some v ∧ mapEntC t zero k cs = some cs') ∧ mapK (rootF (.obj id)) nt fun nt => K v ⟨sl, ob.set id cs', nt⟩ none
      | _ => False)
    | false => False
  | .entPut x s v => opdK E w x fun mp => opdK E w s fun b => opdK E w v fun u => match u.cells.all LV.isCell with
    | true => (match mp with
      | .mref id => (match b with
        | .int .i64 b => withW w fun sl ob nt => ∃ cs cs', (pb ≤ id ∧ ob[id]? = some cs ∧ entPutC b u cs = some cs') ∧ mapK (rootF (.obj id)) nt fun nt => K .undef ⟨sl, ob.set id cs', nt⟩ none
        | _ => False)
      | _ => False)
    | false => False
  | .loadR r agg sz p => opdK E w p fun a => match rootOk r a with
    | true => (match a with
      | .optr id off => ∃ cs v, (w.ob[id]? = some cs ∧ isMapC cs = false ∧ partE agg off sz cs = some v) ∧ sV 2 v.bare fun v => K v w none
      | a => GenP (readAt w.st agg sz a) fun v => sV 2 v.bare fun v => K v w none)
    | false => False
  | .storeR r sz p x => opdK E w p fun a => match rootOk r a with
    | true => takeK E pb w x fun v w' => (match okCells sz v.cells with
      | true => writeK w' pb v.cells a fun w2 => K .undef w2 none
      | false => False)
    | false => False
  | .idxAgg agg len sz x i => opdK E w x fun xv => opdK E w i fun iv => match xv, iv with
    | .agg cs, .int _ n => ∃ v, ((0 ≤ n ∧ n < len) ∧ partE agg (n.toNat * sz) sz cs = some v) ∧ sV 2 v.bare fun v => K v w none
    | _, _ => False
  | .strOf x => opdK E w x fun v => ∃ r l, (rowsOf w.st v = some r ∧ r.1 = 1 ∧ bytesE r.2 = some l) ∧ K (.str ⟨l.toArray⟩) w none
  | .mapDel t x i => opdK E w x fun mp => opdK E w i fun k => match keyOk t k with
    | true => (match mp with
      | .mref id => withW w fun sl ob nt => ∃ cs cs', (pb ≤ id ∧ ob[id]? = some cs ∧ mapOff t k cs = some cs') ∧ mapK (rootF (.obj id)) nt fun nt => K (.tup []) ⟨sl, ob.set id cs', nt⟩ none
      | .nilmap => K (.tup []) w none
      | _ => False)
    | false => False
  | .lenMap x => opdK E w x fun mp => match mp with
    | .nilmap => K (.int .i64 0) w none
    | .mref id => ∃ n : Nat, (w.ob[id]?).bind mapLen = some n ∧ K (.int .i64 n) w none
    | _ => False
  | .mkslice sz bytes zero n c => opdK E w n fun n => opdK E w c fun c => match n, c with
    | .int _ n, .int _ c => ∃ n' c' cs, ((0 ≤ n ∧ n ≤ c ∧ c * bytes ≤ 140737488355328 ∧ zero.length = sz ∧ zero.all LV.isCell) ∧ n' = n.toNat ∧ c' = c.toNat ∧ cs = (List.replicate c.toNat zero).flatten) ∧
        withW w fun sl ob nt => K (.msl ob.length 0 n' c' sz) ⟨sl, ob ++ [cs], nt⟩ none
    | _, _ => False
  | .copy sz x y => opdK E w x fun d => opdK E w y fun s => match d with
    | .msl id off len _ z => match decide (z = sz) with
      | true => withW w fun sl ob nt => ∃ r cs cs' n, (pb ≤ id ∧ rowsOf w.st s = some r ∧ (r.1 = sz ∨ r.2 = []) ∧ ob[id]? = some cs ∧ isMapC cs = false ∧ splice cs off ((r.2.take len).flatten.map LV.bare1) = some cs' ∧ n = min len r.2.length) ∧
          mapK (rootF (.obj id)) nt fun nt => K (.int .i64 (n : Nat)) ⟨sl, ob.set id cs', nt⟩ none
      | false => False
    | _ => False
  | .move x => GenP (valOp E ev0 pb w.st dst (.move x)) fun r => K r.1 w r.2.2
  | .bin _ .rem x y => opdK E w x fun a => opdK E w y fun b => match a, b with
    | .int kk n, .int kk' m => match decide (kk = kk') with
      | true => m ≠ 0 ∧ K (.int kk (n.tmod m)) w none
      | false => False
    | _, _ => False
  | .bin _ .quo x y => opdK E w x fun a => opdK E w y fun b => match a, b with
    | .int kk n, .int kk' m => match decide (kk = kk') with
      | true => m ≠ 0 ∧ K (.int kk (kk.wrap (n.tdiv m))) w none
      | false => False
    | _, _ => False
  | .bin ty .add x y => opdK E w x fun a => opdK E w y fun b => match a, b with
    | .str a, .str b => ∃ c, (a.size + b.size ≤ 9223372036854775807 ∧ c = a ++ b) ∧ K (.str c) w none
    | a, b => GenP (binE ty .add a b) fun v => K v w none
  | op => match op.plain with
    | true => GenP (valOp E ev0 pb w.st dst op) fun r => K r.1 w r.2.2
    | false => False

def stepW (E : Env) (pb : Nat) (o : TOper) (w : WSt) (k : WSt → Prop) : Prop := match o.guard with
  | none => valW E pb w o.dst o.op fun v w p => sV 2 v fun v => doneW o.op.isBox o.dst v w p k
  | some (t, b) => slotK w.sl t fun s => match s with
    | .val (.bool c) => boolP c fun c => withW w fun sl ob nt => setK sl t (.val (.bool c)) fun sl => match c == b with
        | true => valW E pb ⟨sl, ob, nt⟩ o.dst o.op fun v w p => sV 2 v fun v => doneW o.op.isBox o.dst v w p k
        | false => putW ⟨sl, ob, nt⟩ o.dst (.tup []) k
    | .val (.tup []) => putW w o.dst (.tup []) k
    | _ => False
/- Both of these by the bare recursors: so the kernel unfolds them as the elaborator does. -/
noncomputable def opsW (E : Env) (pb : Nat) (ops : List TOper) : WSt → (WSt → Prop) → Prop :=
  List.rec (motive := fun _ => WSt → (WSt → Prop) → Prop) (fun w k => k w) (fun o _ ih w k => stepW E pb o w fun w => ih w k) ops
theorem opsW_cons (E : Env) (pb : Nat) (o : TOper) (r : List TOper) (w : WSt) (k : WSt → Prop) : opsW E pb (o :: r) w k = stepW E pb o w fun w => opsW E pb r w k := rfl
def condK (E : Env) (w : WSt) (c : Opd) (k : Bool → WSt → Prop) : Prop := match c with
  | .const (.bool q) => boolP q fun q => k q w
  | .tmp t => slotK w.sl t fun s => match s with
    | .val (.bool c) => boolP c fun c => withW w fun sl ob nt => setK sl t (.val (.bool c)) fun sl => k c ⟨sl, ob, nt⟩
    | _ => False
  | _ => False
/-- A range over a function: the iterator's answer, the loop's record behind it. -/
def RangeK (E : Env) (pb s : Nat) (live : List Nat) (g : Nat) (cap : List LV) (sl : List Slot) (ob : Obs) (Q : Ex → WSt → Prop) : Prop :=
  (LV.noLs cap && cap.all LV.ownless && !(g == YG)) = true ∧ pb ≤ ob.length ∧ ∃ (r : LV) (ob' : Obs) (z : Int) (snap : List LV) (ex : Ex),
    Gives E g (.fn YG [.optr ob.length 0] :: cap) (ob ++ [loopObj s 0 (snapGo live 0 sl)]) pb (r, ob') ∧ ob'[ob.length]? = some (loopObj s z snap) ∧ exOf z = some ex ∧
    Q ex ⟨sl, ob'.set ob.length (loopObj s (-2) snap), []⟩
def RangeP (E : Env) (pb s : Nat) (f : Opd) (live : List Nat) (w : WSt) (Q : Ex → WSt → Prop) : Prop := opdK E w f fun v => match v with
  | .fn g cap => withW w fun sl ob _ => RangeK E pb s live g cap sl ob Q
  | _ => False
theorem getLoopE_obj (s : Nat) (z : Int) (snap : List LV) : getLoopE (loopObj s z snap) = some (s, z, snap) := by
  simp [getLoopE, loopObj]
theorem rangeP_sound {E : Env} {pb s : Nat} {f : Opd} {live : List Nat} {w : WSt} {Q : Ex → WSt → Prop} (h : RangeP E pb s f live w Q) : ∃ ex w', Runs E pb (.range s f live) w.st (ex, w'.st) ∧ Q ex w' := by
  unfold RangeP at h
  obtain ⟨v, h1, h⟩ := opdK_sound h
  split at h
  · rename_i g cap
    rw [withW_eq] at h
    obtain ⟨h2, h3, r, ob', z, snap, ex, ⟨n, h4⟩, h5, h6, h7⟩ := h
    refine ⟨ex, _, ⟨n + 1, ?_⟩, h7⟩
    have hst : w.st.ob = w.ob := rfl
    have hsl : w.st.sl = w.sl := rfl
    simp only [run, h1, hst, hsl]
    rw [if_pos (by rw [h2]; simpa using h3), h4]
    simp only [Option.bind_some, h5, getLoopE_obj, h6, loopTo, Option.map_some]
    rfl
  · exact h.elim
noncomputable def wp (E : Env) (pb : Nat) (c : TCode) : WSt → (Ex → WSt → Prop) → Prop :=
  TCode.rec (motive := fun _ => WSt → (Ex → WSt → Prop) → Prop)
    (fun w Q => Q .normal w)
    (fun d ops w Q => match d && !dstsOk w.st ops with
      | true => False
      | false => withW w fun sl ob _ => opsW E pb ops ⟨sl, ob, []⟩ fun w => withW w fun sl ob _ => Q .normal ⟨sl, ob, []⟩)
    (fun _ _ ia ib w Q => ia w fun ex w => match ex with
      | .normal => ib w Q
      | .exit i => Q (.exit i) w
      | .ret => Q .ret w)
    (fun c _ _ ia ib w Q => condK E w c fun q w => match q with
      | true => ia w Q
      | false => ib w Q)
    (fun id _ ic w Q => ic w fun ex w => match ex with
      | .exit j => match Nat.beq j id with
        | true => Q .normal w
        | false => Q (.exit j) w
      | .normal => Q .normal w
      | .ret => Q .ret w)
    (fun live c _ w Q => LoopP E pb live c w Q)
    (fun id w Q => Q (.exit id) w)
    (fun w Q => Q .ret w)
    (fun _ _ => False)
    (fun s f live w Q => RangeP E pb s f live w Q) c
theorem wp_region (E : Env) (pb : Nat) (d : Bool) (ops : List TOper) (w : WSt) (Q : Ex → WSt → Prop) : wp E pb (.region d ops) w Q = match d && !dstsOk w.st ops with
  | true => False
  | false => withW w fun sl ob _ => opsW E pb ops ⟨sl, ob, []⟩ fun w => withW w fun sl ob _ => Q .normal ⟨sl, ob, []⟩ := rfl
theorem wp_seq (E : Env) (pb : Nat) (a b : TCode) (w : WSt) (Q : Ex → WSt → Prop) : wp E pb (.seq a b) w Q = wp E pb a w fun ex w => match ex with
  | .normal => wp E pb b w Q
  | .exit i => Q (.exit i) w
  | .ret => Q .ret w := rfl
theorem wp_cond (E : Env) (pb : Nat) (c : Opd) (a b : TCode) (w : WSt) (Q : Ex → WSt → Prop) : wp E pb (.cond c a b) w Q = condK E w c fun q w => match q with
  | true => wp E pb a w Q
  | false => wp E pb b w Q := rfl
theorem wp_block (E : Env) (pb : Nat) (id : Nat) (c : TCode) (w : WSt) (Q : Ex → WSt → Prop) : wp E pb (.block id c) w Q = wp E pb c w fun ex w => match ex with
  | .exit j => match Nat.beq j id with
    | true => Q .normal w
    | false => Q (.exit j) w
  | .normal => Q .normal w
  | .ret => Q .ret w := rfl

theorem valW_plain {E : Env} {pb : Nat} {w : WSt} {dst : Option Nat} {op : TOp} {K : ValK} (hp : op.plain = true) (h : GenP (valOp E ev0 pb w.st dst op) fun r => K r.1 w r.2.2) :
    ∃ n v w' p, valOp E (call E n) pb w.st dst op = some (v, w'.st, p) ∧ K v w' p := by
  obtain ⟨⟨v, st', p⟩, h1, h2⟩ := GenP_sound h
  have := plain_st hp h1
  simp only at this; subst this
  refine ⟨0, v, w, p, ?_, h2⟩
  rw [valOp_ev (b := ev0) (by intro ro f args moved e; subst e; cases hp)]; exact h1
theorem valW_sound {E : Env} {pb : Nat} {w : WSt} {dst : Option Nat} {op : TOp} {K : ValK} (h : valW E pb w dst op K) :
    ∃ n v w' p, valOp E (call E n) pb w.st dst op = some (v, w'.st, p) ∧ K v w' p := by
  cases op with
  | pick c a b =>
    simp only [valW] at h
    obtain ⟨q, h1, h2⟩ := opdK_sound h
    cases q <;> try exact h2.elim
    rename_i q
    have h2 := boolP_sound h2
    cases q
    · obtain ⟨v, h3, h4⟩ := opdK_sound h2
      exact ⟨0, v, w, none, by simp only [valOp, h1, h3, Option.map_some], h4⟩
    · obtain ⟨v, h3, h4⟩ := opdK_sound h2
      exact ⟨0, v, w, none, by simp only [valOp, h1, h3, Option.map_some], h4⟩
  | idxAddr x i sz =>
    simp only [valW] at h
    obtain ⟨xv, h1, h⟩ := opdK_sound h
    obtain ⟨iv, h2, h⟩ := opdK_sound h
    split at h
    · split at h
      · rename_i hz
        obtain ⟨cs, ⟨h3, h4⟩, h5⟩ := h
        exact ⟨0, _, w, none, by simp only [valOp, h1, h2]; rw [if_pos ⟨of_decide_eq_true hz, h3⟩, h4]; rfl, h5⟩
      · exact h.elim
    · split at h
      · rename_i hz
        obtain ⟨j, ⟨h3, h4, rfl⟩, h5⟩ := h
        exact ⟨0, _, w, none, by simp only [valOp, h1, h2]; rw [if_pos ⟨of_decide_eq_true hz, h3, h4⟩], h5⟩
      · exact h.elim
    · exact h.elim
  | idxArr x i len sz =>
    simp only [valW] at h
    obtain ⟨xv, h1, h⟩ := opdK_sound h
    obtain ⟨iv, h2, h⟩ := opdK_sound h
    split at h
    · obtain ⟨h3, h⟩ := h
      obtain ⟨v, h4, h5⟩ := GenP_sound h
      exact ⟨0, v, w, none, by simp only [valOp, h1, h2, Option.bind_some]; rw [if_pos h3, h4]; rfl, h5⟩
    · exact h.elim
  | idxStr x i =>
    simp only [valW] at h
    obtain ⟨xv, h1, h⟩ := opdK_sound h
    obtain ⟨iv, h2, h⟩ := opdK_sound h
    split at h
    · obtain ⟨b, ⟨h3, h4⟩, h5⟩ := h
      exact ⟨0, _, w, none, by simp only [valOp, h1, h2]; rw [if_pos h3, h4]; rfl, h5⟩
    · exact h.elim
  | append sz bytes s x =>
    simp only [valW] at h
    split at h
    · rename_i t
      obtain ⟨pv, w', h1, h⟩ := takeTopK_sound h
      split at h
      · rename_i o z xs
        obtain ⟨y, h2, h⟩ := opdK_sound h
        obtain ⟨e, h3, h⟩ := GenP_sound h
        split at h
        · rename_i hz
          obtain ⟨ys, ⟨h4, h5, rfl⟩, h6⟩ := h
          refine ⟨0, _, _, none, ?_, h6⟩
          simp only [valOp, h1, h2, h3, Option.bind_some]
          rw [if_pos ⟨of_decide_eq_true hz, h4, h5⟩]
        · exact h.elim
      · exact h.elim
    · rename_i z
      obtain ⟨y, h2, h⟩ := opdK_sound h
      obtain ⟨e, h3, h⟩ := GenP_sound h
      split at h
      · rename_i hz
        obtain ⟨ys, ⟨h4, h5, rfl⟩, h6⟩ := h
        refine ⟨0, _, w, none, ?_, h6⟩
        simp only [valOp, h2, h3, Option.bind_some]
        rw [if_pos ⟨of_decide_eq_true hz, h4, h5⟩]
      · exact h.elim
    · exact h.elim
  | slice sz x lo hi =>
    simp only [valW] at h
    obtain ⟨l, h1, h⟩ := opdOK_sound h
    obtain ⟨hh, h2, h⟩ := opdOK_sound h
    obtain ⟨xv, h3, h⟩ := opdK_sound h
    split at h
    · obtain ⟨a, h4, h⟩ := GenP_sound h
      obtain ⟨b, h5, h⟩ := GenP_sound h
      split at h
      · rename_i hz
        obtain ⟨ys, zs, ⟨h6, rfl, rfl⟩, h7⟩ := h
        refine ⟨0, _, w, _, ?_, h7⟩
        simp only [valOp, h1, h2, h3, h4, h5, Option.bind_some]
        rw [if_pos ⟨of_decide_eq_true hz, h6.1, h6.2.1, h6.2.2⟩]; rfl
      · exact h.elim
    · obtain ⟨a, h4, h⟩ := GenP_sound h
      obtain ⟨b, h5, h⟩ := GenP_sound h
      split at h
      · rename_i hz
        obtain ⟨p, q, r, ⟨h6, rfl, rfl, rfl⟩, h7⟩ := h
        refine ⟨0, _, w, _, ?_, h7⟩
        simp only [valOp, h1, h2, h3, h4, h5, Option.bind_some]
        rw [if_pos ⟨of_decide_eq_true hz, h6.1, h6.2.1, h6.2.2⟩]
      · exact h.elim
    · exact h.elim
  | slice3 sz x lo hi mx =>
    simp only [valW] at h
    obtain ⟨l, h1, h⟩ := opdOK_sound h
    obtain ⟨hh, h2, h⟩ := opdK_sound h
    obtain ⟨u, h8, h⟩ := opdK_sound h
    obtain ⟨xv, h3, h⟩ := opdK_sound h
    split at h
    · obtain ⟨a, h4, h⟩ := GenP_sound h
      split at h
      · rename_i hz
        obtain ⟨ys, zs, ⟨h6, rfl, rfl⟩, h7⟩ := h
        refine ⟨0, _, w, _, ?_, h7⟩
        simp only [valOp, h1, h2, h3, h8, slice3E, h4, intOf, Option.bind_some]
        rw [if_pos ⟨of_decide_eq_true hz, h6.1, h6.2.1, h6.2.2.1, h6.2.2.2⟩]; rfl
      · exact h.elim
    · exact h.elim
  | sliceStr x lo hi =>
    simp only [valW] at h
    obtain ⟨l, h1, h⟩ := opdOK_sound h
    obtain ⟨hh, h2, h⟩ := opdOK_sound h
    obtain ⟨xv, h3, h⟩ := opdK_sound h
    split at h
    · obtain ⟨a, h4, h⟩ := GenP_sound h
      obtain ⟨b, h5, h⟩ := GenP_sound h
      obtain ⟨s', ⟨h6, rfl⟩, h7⟩ := h
      refine ⟨0, _, w, _, ?_, h7⟩
      simp only [valOp, h1, h2, h3, h4, h5, Option.bind_some]
      rw [if_pos h6]
    · exact h.elim
  | makeFunc g cap =>
    simp only [valW] at h
    obtain ⟨vs, w', h1, h2⟩ := freezesK_sound _ h
    exact ⟨0, _, w', none, by simp only [valOp, h1, Option.map_some], h2⟩
  | store sz p x =>
    simp only [valW, storeW] at h
    obtain ⟨a, h1, h⟩ := opdK_sound h
    obtain ⟨v, w1, h2, h⟩ := takeK_sound h
    split at h
    · rename_i hc
      obtain ⟨w2, h3, h⟩ := writeK_sound h
      exact ⟨0, _, w2, none, by simp only [valOp, h1, h2, Option.bind_some]; rw [if_pos (okCells_iff hc), h3]; rfl, h⟩
    · exact h.elim
  | call ro f args moved =>
    simp only [valW, callW] at h
    obtain ⟨fv, h1, h⟩ := opdK_sound h
    split at h
    · rename_i g cap
      obtain ⟨vs, w1, h2, h⟩ := takeArgsK_sound _ _ h
      simp only [withW_eq, forceL_eq (sV_eq 2), sV_eq, mapK_eq] at h
      split at h
      · rename_i hc
        obtain ⟨r, ob', ⟨n, h3⟩, hr, hk⟩ := h
        cases ro
        · refine ⟨n, r, _, none, ?_, hk⟩
          simp only [valOp, h1, h2, Option.bind_some]
          rw [if_pos hc]
          simp only [Bool.false_eq_true, if_false] at h3 ⊢
          have : call E n g (vs ++ cap) w1.st.ob pb = some (r, ob') := h3
          rw [this]
          simp only [Option.map_some]
          congr 3
          simp only [WSt.st]; congr 1
          funext t; rw [lookN_map (by intro a; rfl)]; rfl
        · refine ⟨n, r, _, none, ?_, hk⟩
          simp only [valOp, h1, h2, Option.bind_some]
          rw [if_pos hc]
          simp only [if_true] at h3 ⊢
          have : call E n g (vs ++ cap) w1.st.ob (max pb w1.st.ob.length) = some (r, ob') := h3
          rw [this]
          simp only [Option.bind_some]
          have hr' : r.noRef w1.st.ob.length = true := hr rfl
          rw [if_pos hr']
      · exact h.elim
    · exact h.elim
  | assign x =>
    simp only [valW] at h
    obtain ⟨v, w1, h1, h⟩ := takeK_sound h
    exact ⟨0, _, w1, none, by simp only [valOp, h1, Option.map_some], h⟩
  | buildM zero off x =>
    simp only [valW] at h
    obtain ⟨v, w1, h1, h⟩ := takeK_sound h
    split at h
    · rename_i o l z xs sp
      exact ⟨0, _, w1, none, by simp only [valOp, h1, Option.bind_some, wrapE, if_pos h.1, Option.map_some], h.2⟩
    · exact h.elim
  | box sz x =>
    simp only [valW] at h
    obtain ⟨v, w1, h1, h⟩ := takeK_sound h
    split at h
    · rename_i hc
      exact ⟨0, _, w1, none, by simp only [valOp, h1, Option.bind_some]; rw [if_pos (okCells_iff hc)], h⟩
    · exact h.elim
  | new sz x =>
    simp only [valW] at h
    obtain ⟨v, w1, h1, h⟩ := takeK_sound h
    split at h
    · rename_i hc
      rw [withW_eq, forceL_eq headV_eq] at h
      refine ⟨0, _, _, none, ?_, h⟩
      simp only [valOp, h1, Option.bind_some]; rw [if_pos (okCells_iff hc)]; rfl
    · exact h.elim
  | fail => exact h.elim
  | load agg sz p =>
    simp only [valW] at h
    obtain ⟨a, h1, h⟩ := opdK_sound h
    split at h
    · rename_i id off
      obtain ⟨cs, v, ⟨h2, h3, h4⟩, h⟩ := h
      rw [sV_eq] at h
      refine ⟨0, _, w, _, ?_, h⟩
      have h2' : w.st.ob[id]? = some cs := h2
      simp only [valOp, h1, Option.bind_some, readAt, h2', h3, Bool.false_eq_true, if_false, h4, Option.map_some, placeAt]
      cases agg <;> (cases v <;> rfl)
    · obtain ⟨⟨v, st', p'⟩, h2, h3⟩ := GenP_sound h
      obtain ⟨b, h4, h5⟩ := Option.bind_eq_some_iff.1 h2
      obtain ⟨u, h6, h7⟩ := Option.map_eq_some_iff.1 h5
      simp only [Prod.mk.injEq] at h7
      obtain ⟨rfl, rfl, rfl⟩ := h7
      exact ⟨0, _, w, _, h2, h3⟩
  | loadR r agg sz p =>
    simp only [valW] at h
    obtain ⟨a, h1, h⟩ := opdK_sound h
    split at h
    · rename_i hro
      split at h
      · rename_i id off
        obtain ⟨cs, v, ⟨h2, h3, h4⟩, h⟩ := h
        rw [sV_eq] at h
        refine ⟨0, _, w, _, ?_, h⟩
        have h2' : w.st.ob[id]? = some cs := h2
        simp only [valOp, h1, Option.bind_some, hro, if_true, readAt, h2', h3, Bool.false_eq_true, if_false, h4, Option.map_some]
      · obtain ⟨v, h2, h3⟩ := GenP_sound h
        rw [sV_eq] at h3
        refine ⟨0, _, w, _, ?_, h3⟩
        simp only [valOp, h1, Option.bind_some, hro, if_true, h2, Option.map_some]
    · exact h.elim
  | storeR r sz p x =>
    simp only [valW] at h
    obtain ⟨a, h1, h⟩ := opdK_sound h
    split at h
    · rename_i hro
      obtain ⟨v, w1, h2, h⟩ := takeK_sound h
      split at h
      · rename_i hc
        obtain ⟨w2, h3, h⟩ := writeK_sound h
        exact ⟨0, _, w2, none, by simp only [valOp, h1, h2, Option.bind_some, hro, if_true]; rw [if_pos (okCells_iff hc), h3]; rfl, h⟩
      · exact h.elim
    · exact h.elim
  | idxAgg agg len sz x i =>
    simp only [valW] at h
    obtain ⟨xv, h1, h⟩ := opdK_sound h
    obtain ⟨iv, h2, h⟩ := opdK_sound h
    split at h
    · obtain ⟨v, ⟨h3, h4⟩, h⟩ := h
      rw [sV_eq] at h
      refine ⟨0, _, w, _, ?_, h⟩
      simp only [valOp, h1, h2]
      rw [if_pos h3, h4]; rfl
    · exact h.elim
  | strOf x =>
    simp only [valW] at h
    obtain ⟨v, h1, h⟩ := opdK_sound h
    obtain ⟨r, l, ⟨h2, h3, h4⟩, h⟩ := h
    refine ⟨0, _, w, _, ?_, h⟩
    simp only [valOp, h1, h2, Option.bind_some]
    rw [if_pos h3, h4]; rfl
  | mkmap =>
    simp only [valW] at h
    rw [withW_eq] at h
    exact ⟨0, _, _, none, rfl, h⟩
  | lookup t zero ok x i =>
    simp only [valW] at h
    obtain ⟨mp, h1, h⟩ := opdK_sound h
    obtain ⟨k, h2, h⟩ := opdK_sound h
    split at h
    · rename_i hk
      obtain ⟨v, q, h3, h⟩ := h
      cases ok with
      | true => exact ⟨0, _, w, none, by simp only [valOp, h1, h2, Option.bind_some, hk, if_true, h3, Option.map_some], h⟩
      | false => exact ⟨0, _, w, none, by simp only [valOp, h1, h2, Option.bind_some, hk, if_true, h3, Option.map_some, Bool.false_eq_true, if_false], h⟩
    · exact h.elim
  | mapSet t x i v =>
    simp only [valW] at h
    obtain ⟨mp, h1, h⟩ := opdK_sound h
    obtain ⟨k, h2, h⟩ := opdK_sound h
    obtain ⟨u, h3, h⟩ := opdK_sound h
    split at h
    · rename_i hk
      split at h
      · rename_i id
        rw [withW_eq] at h
        obtain ⟨cs, cs', ⟨h4, h5, h6⟩, h⟩ := h
        rw [mapK_eq] at h
        have h5' := h5
        rw [show w.ob = w.st.ob from rfl] at h5'
        refine ⟨0, _, _, none, ?_, h⟩
        simp only [valOp, h1, h2, h3, Option.bind_some, hk, if_true, mapNew, if_pos h4, h5', h6, Option.map_some, St.remap, dropRoot_look]; rfl
      · exact h.elim
    · exact h.elim
  | mapEnt t zero x i =>
    simp only [valW] at h
    obtain ⟨mp, h1, h⟩ := opdK_sound h
    obtain ⟨k, h2, h⟩ := opdK_sound h
    split at h
    · rename_i hk
      split at h
      · rename_i id
        rw [withW_eq] at h
        obtain ⟨cs, cs', v, ⟨h4, h5, h6, h7⟩, h⟩ := h
        rw [mapK_eq] at h
        have h5' := h5
        rw [show w.ob = w.st.ob from rfl] at h5'
        refine ⟨0, _, _, none, ?_, h⟩
        simp only [valOp, h1, h2, Option.bind_some, hk, if_true, mapNew, if_pos h4, h5', h6, h7, Option.map_some, St.remap, dropRoot_look]; rfl
      · exact h.elim
    · exact h.elim
  | entPut x i v =>
    simp only [valW] at h
    obtain ⟨mp, h1, h⟩ := opdK_sound h
    obtain ⟨k, h2, h⟩ := opdK_sound h
    obtain ⟨u, h3, h⟩ := opdK_sound h
    split at h
    · rename_i hk
      split at h
      · rename_i id
        split at h
        · rename_i b
          rw [withW_eq] at h
          obtain ⟨cs, cs', ⟨h4, h5, h6⟩, h⟩ := h
          rw [mapK_eq] at h
          have h5' := h5
          rw [show w.ob = w.st.ob from rfl] at h5'
          refine ⟨0, _, _, none, ?_, h⟩
          simp only [valOp, h1, h2, h3, Option.bind_some, hk, if_true, mapNew, if_pos h4, h5', h6, Option.map_some, St.remap, dropRoot_look]; rfl
        · exact h.elim
      · exact h.elim
    · exact h.elim
  | mapDel t x i =>
    simp only [valW] at h
    obtain ⟨mp, h1, h⟩ := opdK_sound h
    obtain ⟨k, h2, h⟩ := opdK_sound h
    split at h
    · rename_i hk
      split at h
      · rename_i id
        rw [withW_eq] at h
        obtain ⟨cs, cs', ⟨h4, h5, h6⟩, h⟩ := h
        rw [mapK_eq] at h
        have h5' := h5
        rw [show w.ob = w.st.ob from rfl] at h5'
        refine ⟨0, _, _, none, ?_, h⟩
        simp only [valOp, h1, h2, Option.bind_some, hk, if_true, mapNew, if_pos h4, h5', h6, Option.map_some, St.remap, dropRoot_look]; rfl
      · exact ⟨0, _, w, none, by simp only [valOp, h1, h2, Option.bind_some, hk, if_true], h⟩
      · exact h.elim
    · exact h.elim
  | lenMap x =>
    simp only [valW] at h
    obtain ⟨mp, h1, h⟩ := opdK_sound h
    split at h
    · exact ⟨0, _, w, none, by simp only [valOp, h1], h⟩
    · obtain ⟨n, h2, h⟩ := h
      refine ⟨0, _, w, none, ?_, h⟩
      simp only [valOp, h1]
      rw [show w.st.ob = w.ob from rfl, h2]; rfl
    · exact h.elim
  | mkslice sz bytes zero n c =>
    simp only [valW] at h
    obtain ⟨n, h1, h⟩ := opdK_sound h
    obtain ⟨c, h2, h⟩ := opdK_sound h
    split at h
    · obtain ⟨n', c', cs, ⟨h3, rfl, rfl, rfl⟩, h⟩ := h
      rw [withW_eq] at h
      refine ⟨0, _, _, none, ?_, h⟩
      simp only [valOp, h1, h2, Option.bind_some]
      rw [if_pos h3]; rfl
    · exact h.elim
  | copy sz x y =>
    simp only [valW] at h
    obtain ⟨d, h1, h⟩ := opdK_sound h
    obtain ⟨s, h2, h⟩ := opdK_sound h
    split at h
    · rename_i id off len cap z
      split at h
      · rename_i hz
        rw [withW_eq] at h
        obtain ⟨r, cs, cs', n, ⟨h3, h4, h5, h6, h7, h8, rfl⟩, h⟩ := h
        rw [mapK_eq] at h
        have h6' := h6
        rw [show w.ob = w.st.ob from rfl] at h6'
        refine ⟨0, _, _, none, ?_, h⟩
        simp only [valOp, h1, h2, h4, Option.bind_some]
        rw [if_pos ⟨of_decide_eq_true hz, h5, h3⟩]
        simp only [writeAt, h6', if_pos h3, h7, Bool.false_eq_true, if_false, h8, Option.map_some, dropRoot_look]; rfl
      · exact h.elim
    · exact h.elim
  | bin ty op x y =>
    cases op
    case rem =>
      simp only [valW] at h
      obtain ⟨a, h1, h⟩ := opdK_sound h
      obtain ⟨b, h2, h⟩ := opdK_sound h
      split at h
      · rename_i kk n kk' m
        split at h
        · rename_i hk
          have hk := of_decide_eq_true hk
          subst hk
          exact ⟨0, _, w, none, by simp only [valOp, h1, h2, Option.bind_some, binE, intE, if_true]; rw [if_neg h.1]; rfl, h.2⟩
        · exact h.elim
      · exact h.elim
    case quo =>
      simp only [valW] at h
      obtain ⟨a, h1, h⟩ := opdK_sound h
      obtain ⟨b, h2, h⟩ := opdK_sound h
      split at h
      · rename_i kk n kk' m
        split at h
        · rename_i hk
          have hk := of_decide_eq_true hk
          subst hk
          exact ⟨0, _, w, none, by simp only [valOp, h1, h2, Option.bind_some, binE, intE, if_true]; rw [if_neg h.1]; rfl, h.2⟩
        · exact h.elim
      · exact h.elim
    case add =>
      simp only [valW] at h
      obtain ⟨a, h1, h⟩ := opdK_sound h
      obtain ⟨b, h2, h⟩ := opdK_sound h
      split at h
      · obtain ⟨c, ⟨h3, rfl⟩, h⟩ := h
        exact ⟨0, _, w, none, by simp only [valOp, h1, h2, Option.bind_some, binE]; rw [if_pos h3]; rfl, h⟩
      · obtain ⟨v, h3, h⟩ := GenP_sound h
        exact ⟨0, v, w, none, by simp only [valOp, h1, h2, Option.bind_some, h3, Option.map_some], h⟩
    all_goals exact valW_plain rfl h
  | _ => exact valW_plain rfl h

theorem stepVal_sound {E : Env} {pb : Nat} {o : TOper} {w : WSt} {k : WSt → Prop} (hg : guardE w.st o.guard = some true) (h : valW E pb w o.dst o.op fun v w p => sV 2 v fun v => doneW o.op.isBox o.dst v w p k) :
    ∃ n w', stepOp E (call E n) pb o w.st = some w'.st ∧ k w' := by
  obtain ⟨n, v, w1, p, h1, h2⟩ := valW_sound h
  rw [sV_eq] at h2
  obtain ⟨w2, e2, h3⟩ := doneW_sound h2
  exact ⟨n, w2, by simp only [stepOp, hg, h1, Option.map_some, e2], h3⟩
theorem stepW_sound {E : Env} {pb : Nat} {o : TOper} {w : WSt} {k : WSt → Prop} (h : stepW E pb o w k) : ∃ n w', stepOp E (call E n) pb o w.st = some w'.st ∧ k w' := by
  unfold stepW at h
  split at h
  · rename_i hg
    exact stepVal_sound (by rw [hg]; rfl) h
  · rename_i t b hg
    obtain ⟨s, h1, h⟩ := slotK_sound h
    split at h
    · rename_i c
      have h := boolP_sound h
      rw [withW_eq, setK_eq, setSame h1] at h
      split at h
      · rename_i hcb
        exact stepVal_sound (w := w) (by rw [hg]; show (match w.sl[t]? with | some (.val (.bool c)) => some (c == b) | some (.val (.tup [])) => some false | _ => none) = _; rw [h1]; simp only [hcb]) h
      · rename_i hcb
        obtain ⟨w1, e1, h⟩ := putW_sound (w := w) h
        exact ⟨0, w1, by simp only [stepOp, hg, guardE]; have h1' : w.st.sl[t]? = _ := h1; simp only [h1', hcb]; rw [← e1], h⟩
    · obtain ⟨w1, e1, h⟩ := putW_sound h
      exact ⟨0, w1, by simp only [stepOp, hg, guardE]; have h1' : w.st.sl[t]? = _ := h1; simp only [h1']; rw [← e1], h⟩
    · exact h.elim
theorem opsW_sound {E : Env} {pb : Nat} : ∀ (ops : List TOper) {w : WSt} {k : WSt → Prop}, opsW E pb ops w k → ∃ n w', runOps E (call E n) pb ops w.st = some w'.st ∧ k w'
  | [], w, k, h => ⟨0, w, rfl, h⟩
  | o :: ops, w, k, h => by
    rw [opsW_cons] at h
    obtain ⟨n, w1, h1, h⟩ := stepW_sound h
    obtain ⟨m, w2, h2, h⟩ := opsW_sound ops h
    refine ⟨max n m, w2, ?_, h⟩
    rw [runOps, stepOp_mono (call_mono (Nat.le_max_left n m)) h1]
    exact opsR_mono_le h2
where opsR_mono_le {n m : Nat} {ops : List TOper} {st r : St} (h : runOps E (call E m) pb ops st = some r) : runOps E (call E (max n m)) pb ops st = some r := runOps_mono (call_mono (Nat.le_max_right n m)) ops h
theorem wp_sound {E : Env} {pb : Nat} : ∀ (c : TCode) {w : WSt} {Q : Ex → WSt → Prop}, wp E pb c w Q → ∃ ex w', Runs E pb c w.st (ex, w'.st) ∧ Q ex w'
  | .skip, w, Q, h => ⟨_, w, ⟨1, rfl⟩, h⟩
  | .exit id, w, Q, h => ⟨_, w, ⟨1, rfl⟩, h⟩
  | .ret, w, Q, h => ⟨_, w, ⟨1, rfl⟩, h⟩
  | .fail, w, Q, h => h.elim
  | .range s f live, w, Q, h => rangeP_sound h
  | .loop live c, w, Q, h => by
    obtain ⟨ex, w', h1, h2⟩ := h
    exact ⟨ex, w', h1, h2⟩
  | .region d ops, w, Q, h => by
    rw [wp_region] at h
    split at h
    · exact h.elim
    · rename_i hd
      rw [withW_eq] at h
      obtain ⟨n, w1, h1, h⟩ := opsW_sound ops h
      rw [withW_eq] at h
      refine ⟨_, _, ⟨n + 1, ?_⟩, h⟩
      rw [run, hd]
      have e : ({ w.st with al := fun _ => none } : St) = (WSt.mk w.sl w.ob []).st := rfl
      rw [e, h1]; rfl
  | .seq a b, w, Q, h => by
    rw [wp_seq] at h
    obtain ⟨ex, w1, ⟨n, h1⟩, h⟩ := wp_sound a h
    cases ex with
    | normal =>
      obtain ⟨ex, w2, ⟨m, h2⟩, h⟩ := wp_sound b h
      refine ⟨ex, w2, ⟨max n m + 1, ?_⟩, h⟩
      rw [run, run_mono (Nat.le_max_left n m) h1]
      exact run_mono (Nat.le_max_right n m) h2
    | exit i => exact ⟨_, w1, ⟨n + 1, by rw [run, h1]; rfl⟩, h⟩
    | ret => exact ⟨_, w1, ⟨n + 1, by rw [run, h1]; rfl⟩, h⟩
  | .cond c a b, w, Q, h => by
    rw [wp_cond] at h
    have key : ∃ q w', w' = w ∧ w.st.operand E.gl c = some (.bool q) ∧ (match q with | true => wp E pb a w' Q | false => wp E pb b w' Q) := by
      unfold condK at h
      split at h
      · rename_i q
        exact ⟨q, w, rfl, rfl, boolP_sound h⟩
      · rename_i t
        obtain ⟨s, h1, h⟩ := slotK_sound h
        split at h
        · rename_i q
          have h := boolP_sound h
          rw [withW_eq, setK_eq, setSame h1] at h
          exact ⟨q, w, rfl, by simp only [St.operand, WSt.st, h1, LV.bare], h⟩
        · exact h.elim
      · exact h.elim
    obtain ⟨q, w', rfl, h1, h⟩ := key
    cases q
    · obtain ⟨ex, w2, ⟨m, h2⟩, h⟩ := wp_sound b h
      exact ⟨ex, w2, ⟨m + 1, by rw [run, h1]; exact h2⟩, h⟩
    · obtain ⟨ex, w2, ⟨m, h2⟩, h⟩ := wp_sound a h
      exact ⟨ex, w2, ⟨m + 1, by rw [run, h1]; exact h2⟩, h⟩
  | .block id c, w, Q, h => by
    rw [wp_block] at h
    obtain ⟨ex, w1, ⟨n, h1⟩, h⟩ := wp_sound c h
    cases ex with
    | normal => exact ⟨_, w1, ⟨n + 1, by rw [run, h1]; rfl⟩, h⟩
    | ret => exact ⟨_, w1, ⟨n + 1, by rw [run, h1]; rfl⟩, h⟩
    | exit j =>
      simp only [] at h
      split at h
      · rename_i e
        have : j = id := Nat.eq_of_beq_eq_true e
        exact ⟨_, w1, ⟨n + 1, by rw [run, h1]; simp [this]⟩, h⟩
      · rename_i e
        have : j ≠ id := Nat.ne_of_beq_eq_false e
        exact ⟨_, w1, ⟨n + 1, by rw [run, h1]; simp [this]⟩, h⟩

def WSt.keepW (w : WSt) (live : List Nat) : WSt := ⟨keepGo live 0 w.sl, w.ob, []⟩
/-- A loop: its states at the head are S i, of which P i; m falls. -/
theorem loop_rule {E : Env} {pb : Nat} {live : List Nat} {c : TCode} {Q : Ex → WSt → Prop} {ι : Type} (S : ι → WSt) (m : ι → Nat) (P : ι → Prop)
    (hstep : ∀ i, P i → wp E pb c (S i) (fun ex w => match ex with
      | .normal => ∃ j, P j ∧ m j < m i ∧ w.keepW live = S j
      | .exit id => Q (.exit id) w
      | .ret => Q .ret w))
    {w : WSt} (i : ι) (hi : P i) (hw : w.keepW live = S i) : LoopP E pb live c w Q := by
  suffices ∀ n i, m i < n → P i → ∀ w : WSt, w.keepW live = S i → ∃ ex w', Runs E pb (.loop live c) w.st (ex, w'.st) ∧ Q ex w' by
    obtain ⟨ex, w', h1, h2⟩ := this (m i + 1) i (Nat.lt_succ_self _) hi w hw
    exact ⟨ex, w', h1, h2⟩
  intro n
  induction n with
  | zero => intro i h; omega
  | succ n ih =>
    intro i hm hi w hw
    obtain ⟨ex, w1, ⟨f, h1⟩, h2⟩ := wp_sound c (hstep i hi)
    have hk : w.st.keep live = (S i).st := by
      rw [← hw]; rfl
    cases ex with
    | normal =>
      obtain ⟨j, hj, hlt, e⟩ := h2
      obtain ⟨ex, w2, ⟨g, h3⟩, h4⟩ := ih j (by omega) hj w1 e
      refine ⟨ex, w2, ⟨max f g + 1, ?_⟩, h4⟩
      rw [run, hk, run_mono (Nat.le_max_left f g) h1]
      exact run_mono (Nat.le_max_right f g) h3
    | exit id => exact ⟨_, w1, ⟨f + 1, by rw [run, hk, h1]; rfl⟩, h2⟩
    | ret => exact ⟨_, w1, ⟨f + 1, by rw [run, hk, h1]; rfl⟩, h2⟩
def ResP (w : WSt) (results : List RVar) (r : LV × Obs) : Prop := GenP (resultsE w.st results) fun vs => (LV.noLs vs = true ∧ tupE vs = r.1 ∧ w.ob = r.2)
def startW (args : List LV) (n : Nat) (ob : Obs) (k : WSt → Prop) : Prop := forceL bigS (args.map .val ++ List.replicate (n - args.length) (.val .undef)) fun sl => k ⟨sl, ob, []⟩
def fnW (E : Env) (f : TFn) (args : List LV) (ob : Obs) (pb : Nat) (r : LV × Obs) : Prop :=
  startW args f.ntmps ob fun w => wp E pb f.body w fun ex w => match ex with
    | .exit _ => False
    | .normal => ResP w f.results r
    | .ret => ResP w f.results r
theorem gives_code {E : Env} {g : Nat} {f : TFn} {args : List LV} {ob : Obs} {pb : Nat} {r : LV × Obs} (hf : E.fns g = some (.code f)) (h : fnW E f args ob pb r) : Gives E g args ob pb r := by
  unfold fnW startW at h
  rw [forceL_eq bigS_eq] at h
  obtain ⟨ex, w', ⟨n, h1⟩, h2⟩ := wp_sound _ h
  refine ⟨n + 1, ?_⟩
  rw [call, hf]
  simp only []
  have e : ({ sl := args.map .val ++ List.replicate (f.ntmps - args.length) (.val .undef), ob, al := fun _ => none } : St) = (WSt.mk (args.map .val ++ List.replicate (f.ntmps - args.length) (.val .undef)) ob []).st := rfl
  rw [e, h1]
  simp only [Option.bind_some]
  have key : ResP w' f.results r → ((resultsE w'.st f.results).bind fun vs => if LV.noLs vs then some (tupE vs, w'.st.ob) else none) = some r := by
    intro h
    obtain ⟨vs, h3, h4, h5, h6⟩ := GenP_sound h
    rw [h3]; simp only [Option.bind_some, h4, if_true]
    rw [h5]; show some (r.1, w'.ob) = some r; rw [h6]
  cases ex with
  | normal => exact key h2
  | ret => exact key h2
  | exit i => exact h2.elim
theorem gives_ext {E : Env} {g : Nat} {F : List LV → Obs → Option LV} {args : List LV} {ob : Obs} {pb : Nat} {r : LV} (hf : E.fns g = some (.ext F)) (h : F args ob = some r) : Gives E g args ob pb (r, ob) :=
  ⟨1, by rw [call, hf]; simp [h]⟩
end Tree

set_option autoImplicit false
set_option linter.unusedVariables false
set_option linter.unusedSimpArgs false
namespace Tree
open Go
theorem wrap64 {x : Int} (h1 : -9223372036854775808 ≤ x) (h2 : x ≤ 9223372036854775807) : IntKind.i64.wrap x = x := by
  simp only [IntKind.wrap, IntKind.bits, IntKind.signed]
  have e : (2 : Int) ^ 64 = 18446744073709551616 := by decide
  have e2 : (2 : Int) ^ (64 - 1) = 9223372036854775808 := by decide
  simp only [e, e2]
  split <;> rename_i h <;> simp at h <;> omega
/-- A loop, what comes behind it out of sight. -/
theorem loop_abs {E : Env} {pb : Nat} {live : List Nat} {c : TCode} {Q : Ex → WSt → Prop} {ι : Type} (S : ι → WSt) (m : ι → Nat) (P : ι → Prop)
    (hstep : ∀ (R : Ex → WSt → Prop) (i : ι), P i → (∀ j w, P j → m j < m i → w.keepW live = S j → R .normal w) → (∀ id w, Q (.exit id) w → R (.exit id) w) → (∀ w, Q .ret w → R .ret w) → wp E pb c (S i) R)
    {w : WSt} (i : ι) (hi : P i) (hw : w.keepW live = S i) : LoopP E pb live c w Q :=
  loop_rule S m P (fun i hP => hstep _ i hP (fun j w h1 h2 h3 => ⟨j, h1, h2, h3⟩) (fun id w h => h) (fun w h => h)) i hi hw
end Tree

set_option autoImplicit false
set_option linter.unusedVariables false
set_option linter.unusedSimpArgs false
namespace Tree
open Go
def updS : List (Nat × LV) → List Slot → List Slot
  | [], l => l
  | (t, v) :: r, l => updS r (l.set t (.val v))
/-- The state at a loop's head: w's, with the slots of V. -/
def WSt.head (w : WSt) (live : List Nat) (V : List (Nat × LV)) (ob : Obs) : WSt := ⟨updS V (keepGo live 0 w.sl), ob, []⟩
def headW (w : WSt) (live : List Nat) (V : List (Nat × LV)) (ob : Obs) (k : WSt → Prop) : Prop := forceL bigS (updS V (keepGo live 0 w.sl)) fun sl => k ⟨sl, ob, []⟩
theorem headW_eq (w : WSt) (live : List Nat) (V : List (Nat × LV)) (ob : Obs) (k : WSt → Prop) : headW w live V ob k = k (w.head live V ob) := by
  unfold headW; rw [forceL_eq bigS_eq]; rfl
theorem loop_v {E : Env} {pb : Nat} {live : List Nat} {c : TCode} {Q : Ex → WSt → Prop} {w : WSt} {ι : Type} (V : ι → List (Nat × LV)) (O : ι → Obs) (m : ι → Nat) (P : ι → Prop)
    (hstep : ∀ (R : Ex → WSt → Prop) (i : ι), P i → (∀ j w', P j → m j < m i → w'.keepW live = w.head live (V j) (O j) → R .normal w') → (∀ id w, Q (.exit id) w → R (.exit id) w) → (∀ w, Q .ret w → R .ret w) → headW w live (V i) (O i) fun w => wp E pb c w R)
    (i : ι) (hi : P i) (hw : w.keepW live = w.head live (V i) (O i)) : LoopP E pb live c w Q :=
  loop_abs (fun i => w.head live (V i) (O i)) m P (fun R i hP hN hE hR => by rw [← headW_eq w live (V i) (O i) fun w => wp E pb c w R]; exact hstep R i hP hN hE hR) i hi hw
end Tree

set_option autoImplicit false
set_option linter.unusedVariables false
set_option linter.unusedSimpArgs false
namespace Tree
open Go
def updX : List (Nat × Slot) → List Slot → List Slot
  | [], l => l
  | (t, v) :: r, l => updX r (l.set t v)
def WSt.headX (w : WSt) (live : List Nat) (V : List (Nat × Slot)) (ob : Obs) : WSt := ⟨updX V (keepGo live 0 w.sl), ob, []⟩
def headXW (w : WSt) (live : List Nat) (V : List (Nat × Slot)) (ob : Obs) (k : WSt → Prop) : Prop := forceL bigS (updX V (keepGo live 0 w.sl)) fun sl => k ⟨sl, ob, []⟩
theorem headXW_eq (w : WSt) (live : List Nat) (V : List (Nat × Slot)) (ob : Obs) (k : WSt → Prop) : headXW w live V ob k = k (w.headX live V ob) := by
  unfold headXW; rw [forceL_eq bigS_eq]; rfl
theorem loop_x {E : Env} {pb : Nat} {live : List Nat} {c : TCode} {Q : Ex → WSt → Prop} {w : WSt} {ι : Type} (V : ι → List (Nat × Slot)) (O : ι → Obs) (m : ι → Nat) (P : ι → Prop)
    (hstep : ∀ (R : Ex → WSt → Prop) (i : ι), P i → (∀ j w', P j → m j < m i → w'.keepW live = w.headX live (V j) (O j) → R .normal w') → (∀ id w, Q (.exit id) w → R (.exit id) w) → (∀ w, Q .ret w → R .ret w) → headXW w live (V i) (O i) fun w => wp E pb c w R)
    (i : ι) (hi : P i) (hw : w.keepW live = w.headX live (V i) (O i)) : LoopP E pb live c w Q :=
  loop_abs (fun i => w.headX live (V i) (O i)) m P (fun R i hP hN hE hR => by rw [← headXW_eq w live (V i) (O i) fun w => wp E pb c w R]; exact hstep R i hP hN hE hR) i hi hw
end Tree

set_option autoImplicit false
set_option linter.unusedVariables false
set_option linter.unusedSimpArgs false
namespace Tree
open Go
/-- A function's code in a table. -/
noncomputable def lookE (l : List (Nat × TFn)) (g : Nat) : Option Entry :=
  List.rec (motive := fun _ => Option Entry) none (fun e _ ih => match e with
    | (a, f) => match Nat.beq a g with
      | true => some (.code f)
      | false => ih) l
theorem lookE_code : ∀ {l : List (Nat × TFn)} {g : Nat} {e : Entry}, lookE l g = some e → ∃ f, e = .code f
  | [], g, e, h => by cases h
  | (a, f) :: r, g, e, h => by
    have h : (match Nat.beq a g with | true => some (.code f) | false => lookE r g) = some e := h
    split at h
    · cases h; exact ⟨f, rfl⟩
    · exact lookE_code h
theorem lookE_ext {l : List (Nat × TFn)} {g : Nat} {F : List LV → Obs → Option LV} (h : lookE l g = some (.ext F)) : False := by
  obtain ⟨f, e⟩ := lookE_code h; cases e
structure EnvLe (A B : Env) : Prop where
  gl : A.gl = B.gl
  fns : ∀ g e, A.fns g = some e → B.fns g = some e
  lps : ∀ s c, A.lps s = some c → B.lps s = some c
  yg : B.fns YG = none
  fx : ∀ g F, A.fx g = some F → B.fx g = some F ∧ B.fns g = none
theorem fx0 {A B : Env} (h : A.fx = fun _ => none) : ∀ g F, A.fx g = some F → B.fx g = some F ∧ B.fns g = none := by
  intro s c e; rw [h] at e; cases e
theorem lps0 {A B : Env} (h : A.lps = fun _ => none) : ∀ s c, A.lps s = some c → B.lps s = some c := by
  intro s c e; rw [h] at e; cases e
theorem valOp_gl {A B : Env} (h : A.gl = B.gl) (ev : Ev) (pb : Nat) (st : St) (dst : Option Nat) (op : TOp) : valOp A ev pb st dst op = valOp B ev pb st dst op := by
  obtain ⟨fa, ga, la, xa⟩ := A; obtain ⟨fb, gb, lb, xb⟩ := B
  simp only at h; subst h
  cases op <;> rfl
theorem stepOp_gl {A B : Env} (h : A.gl = B.gl) (ev : Ev) (pb : Nat) (o : TOper) (st : St) : stepOp A ev pb o st = stepOp B ev pb o st := by
  unfold stepOp; rw [valOp_gl h]
theorem runOps_gl {A B : Env} (h : A.gl = B.gl) (ev : Ev) (pb : Nat) : ∀ (ops : List TOper) (st : St), runOps A ev pb ops st = runOps B ev pb ops st
  | [], st => rfl
  | o :: r, st => by
    rw [runOps, runOps, stepOp_gl h]
    congr 1; funext s; exact runOps_gl h ev pb r s
theorem env_le {A B : Env} (h : EnvLe A B) (n : Nat) : (∀ pb c st r, run A n pb c st = some r → run B n pb c st = some r) ∧ EvLe (call A n) (call B n) := by
  induction n with
  | zero =>
    constructor
    · intro pb c st r h; simp [run] at h
    · intro g args ob pb r h; simp [call] at h
  | succ n ih =>
    obtain ⟨h1, h2⟩ := ih
    constructor
    · intro pb c st r hr
      cases c with
      | skip => simpa [run] using hr
      | region d ops =>
        rw [run] at hr ⊢
        by_cases hd : (d && !dstsOk st ops) = true
        · rw [if_pos hd] at hr; cases hr
        · rw [if_neg hd] at hr ⊢
          rcases he : runOps A (call A n) pb ops { st with al := fun _ => none } with _ | q
          · rw [he] at hr; cases hr
          · rw [← runOps_gl h.gl, runOps_mono h2 ops he]; rw [he] at hr; exact hr
      | seq a b =>
        rw [run] at hr ⊢
        rcases he : run A n pb a st with _ | q
        · rw [he] at hr; cases hr
        · rw [h1 _ _ _ _ he]; rw [he] at hr
          obtain ⟨e, s⟩ := q
          cases e
          · exact h1 _ _ _ _ hr
          · exact hr
          · exact hr
      | cond c a b =>
        rw [run] at hr ⊢
        rw [← h.gl]
        revert hr
        rcases st.operand A.gl c with _ | v
        · exact id
        · cases v <;> try exact id
          rename_i q
          cases q
          · exact h1 _ _ _ _
          · exact h1 _ _ _ _
      | block id c =>
        rw [run] at hr ⊢
        rcases he : run A n pb c st with _ | q
        · rw [he] at hr; cases hr
        · rw [h1 _ _ _ _ he]; rw [he] at hr; exact hr
      | loop live c =>
        rw [run] at hr ⊢
        rcases he : run A n pb c (st.keep live) with _ | q
        · rw [he] at hr; cases hr
        · rw [h1 _ _ _ _ he]; rw [he] at hr
          obtain ⟨e, s⟩ := q
          cases e
          · exact h1 _ _ _ _ hr
          · exact hr
          · exact hr
      | exit id => simpa [run] using hr
      | ret => simpa [run] using hr
      | fail => simp [run] at hr
      | range s f live =>
        rw [run] at hr ⊢
        rw [← h.gl]
        revert hr
        rcases st.operand A.gl f with _ | v
        · exact id
        · cases v <;> try exact id
          rename_i g cap
          intro hr
          simp only [] at hr ⊢
          split at hr
          · rename_i hc
            rw [if_pos hc]
            rcases he : call A n g (.fn YG [.optr st.ob.length 0] :: cap) (st.ob ++ [loopObj s 0 (snapGo live 0 st.sl)]) pb with _ | q
            · rw [he] at hr; cases hr
            · rw [h2 _ _ _ _ _ he]; rw [he] at hr; exact hr
          · cases hr
    · intro g args ob pb r hr
      rw [call] at hr ⊢
      revert hr
      rcases hg : A.fns g with _ | e
      · intro hr
        simp only [] at hr
        split at hr
        · rename_i hgy
          have hg2 : g = YG := by simpa using hgy
          subst hg2
          rw [h.yg]
          simp only [beq_self_eq_true, if_true]
          rcases hy : yieldTo A args ob pb with _ | y
          · rw [hy] at hr; cases hr
          · have hy2 : yieldTo B args ob pb = some y := by
              unfold yieldTo at hy ⊢
              obtain ⟨q, e1, hy⟩ := Option.bind_eq_some_iff.1 hy
              rw [e1]
              simp only [Option.bind_some]
              split at hy
              · rename_i id hq
                split at hy
                · rename_i hpb
                  rw [if_pos hpb]
                  obtain ⟨cs, e2, hy⟩ := Option.bind_eq_some_iff.1 hy
                  obtain ⟨l, e3, hy⟩ := Option.bind_eq_some_iff.1 hy
                  rw [e2]
                  simp only [Option.bind_some, e3]
                  split at hy
                  · rename_i hz
                    rw [if_pos hz]
                    obtain ⟨c, e4, hy⟩ := Option.bind_eq_some_iff.1 hy
                    rw [h.lps _ _ e4]
                    exact hy
                  · cases hy
                · cases hy
              · cases hy
            rw [hy2]
            rw [hy] at hr
            simp only [Option.bind_some] at hr ⊢
            rcases h3 : run A n pb y.2.2.2.2.1 { sl := setPs y.2.2.2.1 y.1 (y.2.2.1.map .val), ob, al := fun _ => none } with _ | r1
            · rw [h3] at hr; cases hr
            · rw [h1 _ _ _ _ h3]; rw [h3] at hr
              simp only [Option.bind_some] at hr ⊢
              split at hr
              · rename_i hc
                rw [if_pos hc]
                rcases h4 : loopTo r1.2 y.2.1 (-1) with _ | s1
                · rw [h4] at hr; cases hr
                · rw [h4] at hr
                  simp only [Option.bind_some] at hr ⊢
                  rcases h5 : run A n pb y.2.2.2.2.2 s1 with _ | r2
                  · rw [h5] at hr; cases hr
                  · rw [h1 _ _ _ _ h5]; rw [h5] at hr; exact hr
              · cases hr
        · rename_i hgy
          obtain ⟨F, hx1, hx2⟩ := Option.bind_eq_some_iff.1 hr
          obtain ⟨hx3, hx4⟩ := h.fx g F hx1
          rw [hx4]
          simp only []
          rw [if_neg hgy, hx3]; exact hx2
      · rw [h.fns g e hg]
        cases e with
        | ext F => exact id
        | code f =>
          intro hr
          simp only [] at hr ⊢
          rcases he : run A n pb f.body { sl := args.map .val ++ List.replicate (f.ntmps - args.length) (.val .undef), ob, al := fun _ => none } with _ | q
          · rw [he] at hr; cases hr
          · rw [h1 _ _ _ _ he]; rw [he] at hr; exact hr
theorem Gives.le {A B : Env} (h : EnvLe A B) {g : Nat} {args : List LV} {ob : Obs} {pb : Nat} {r : LV × Obs} (hg : Gives A g args ob pb r) : Gives B g args ob pb r := by
  obtain ⟨n, hn⟩ := hg
  exact ⟨n, (env_le h n).2 _ _ _ _ _ hn⟩
end Tree

set_option autoImplicit false
set_option linter.unusedVariables false
namespace Tree
open Go
def ResE (w : WSt) (results : List RVar) (r : LV) : Prop := GenP (resultsE w.st results) fun vs => (LV.noLs vs = true ∧ tupE vs = r)
def fnWE (E : Env) (f : TFn) (args : List LV) (ob : Obs) (pb : Nat) (r : LV) : Prop :=
  startW args f.ntmps ob fun w => wp E pb f.body w fun ex w => match ex with
    | .exit _ => False
    | .normal => ResE w f.results r
    | .ret => ResE w f.results r
theorem gives_codeE {E : Env} {g : Nat} {f : TFn} {args : List LV} {ob : Obs} {pb : Nat} {r : LV} (hf : E.fns g = some (.code f)) (h : fnWE E f args ob pb r) : ∃ ob', Gives E g args ob pb (r, ob') := by
  unfold fnWE startW at h
  rw [forceL_eq bigS_eq] at h
  obtain ⟨ex, w', ⟨n, h1⟩, h2⟩ := wp_sound _ h
  refine ⟨w'.ob, n + 1, ?_⟩
  rw [call, hf]
  simp only []
  have e : ({ sl := args.map .val ++ List.replicate (f.ntmps - args.length) (.val .undef), ob, al := fun _ => none } : St) = (WSt.mk (args.map .val ++ List.replicate (f.ntmps - args.length) (.val .undef)) ob []).st := rfl
  rw [e, h1]
  simp only [Option.bind_some]
  have key : ResE w' f.results r → ((resultsE w'.st f.results).bind fun vs => if LV.noLs vs then some (tupE vs, w'.st.ob) else none) = some (r, w'.ob) := by
    intro h
    obtain ⟨vs, h3, h4, h5⟩ := GenP_sound h
    rw [h3]; simp only [Option.bind_some, h4, if_true]
    rw [h5]; rfl
  cases ex with
  | normal => exact key h2
  | ret => exact key h2
  | exit i => exact h2.elim
end Tree

set_option autoImplicit false
set_option linter.unusedVariables false
namespace Tree
open Go
end Tree
