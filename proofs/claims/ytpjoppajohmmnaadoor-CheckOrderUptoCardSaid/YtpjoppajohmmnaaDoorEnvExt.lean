/- What a smaller environment answers, a greater one answers. -/
import Derived.Test.YtpjoppajohmmnaaDoorTW
set_option autoImplicit false
set_option linter.unusedVariables false
set_option linter.unusedSimpArgs false
namespace Tree
open Go
/-- A function's code in a table. -/
noncomputable def lookE (l : List (Nat × TFn)) (g : Nat) : Option Entry :=
  List.rec (motive := fun _ => Option Entry) none (fun e _ ih => match e with
    | (a, f) => match Nat.beq a g with
      | true => some (.code f)
      | false => ih) l
theorem lookE_code : ∀ {l : List (Nat × TFn)} {g : Nat} {e : Entry}, lookE l g = some e → ∃ f, e = .code f
  | [], g, e, h => by cases h
  | (a, f) :: r, g, e, h => by
    have h : (match Nat.beq a g with | true => some (.code f) | false => lookE r g) = some e := h
    split at h
    · cases h; exact ⟨f, rfl⟩
    · exact lookE_code h
theorem lookE_ext {l : List (Nat × TFn)} {g : Nat} {F : List LV → Option LV} (h : lookE l g = some (.ext F)) : False := by
  obtain ⟨f, e⟩ := lookE_code h; cases e
structure EnvLe (A B : Env) : Prop where
  gl : A.gl = B.gl
  fns : ∀ g e, A.fns g = some e → B.fns g = some e
theorem valOp_gl {A B : Env} (h : A.gl = B.gl) (ev : Ev) (pb : Nat) (st : St) (dst : Option Nat) (op : TOp) : valOp A ev pb st dst op = valOp B ev pb st dst op := by
  obtain ⟨fa, ga⟩ := A; obtain ⟨fb, gb⟩ := B
  simp only at h; subst h
  cases op <;> rfl
theorem stepOp_gl {A B : Env} (h : A.gl = B.gl) (ev : Ev) (pb : Nat) (o : TOper) (st : St) : stepOp A ev pb o st = stepOp B ev pb o st := by
  unfold stepOp; rw [valOp_gl h]
theorem runOps_gl {A B : Env} (h : A.gl = B.gl) (ev : Ev) (pb : Nat) : ∀ (ops : List TOper) (st : St), runOps A ev pb ops st = runOps B ev pb ops st
  | [], st => rfl
  | o :: r, st => by
    rw [runOps, runOps, stepOp_gl h]
    congr 1; funext s; exact runOps_gl h ev pb r s
theorem env_le {A B : Env} (h : EnvLe A B) (n : Nat) : (∀ pb c st r, run A n pb c st = some r → run B n pb c st = some r) ∧ EvLe (call A n) (call B n) := by
  induction n with
  | zero =>
    constructor
    · intro pb c st r h; simp [run] at h
    · intro g args ob pb r h; simp [call] at h
  | succ n ih =>
    obtain ⟨h1, h2⟩ := ih
    constructor
    · intro pb c st r hr
      cases c with
      | skip => simpa [run] using hr
      | region d ops =>
        rw [run] at hr ⊢
        by_cases hd : (d && !dstsOk st ops) = true
        · rw [if_pos hd] at hr; cases hr
        · rw [if_neg hd] at hr ⊢
          rcases he : runOps A (call A n) pb ops { st with al := fun _ => none } with _ | q
          · rw [he] at hr; cases hr
          · rw [← runOps_gl h.gl, runOps_mono h2 ops he]; rw [he] at hr; exact hr
      | seq a b =>
        rw [run] at hr ⊢
        rcases he : run A n pb a st with _ | q
        · rw [he] at hr; cases hr
        · rw [h1 _ _ _ _ he]; rw [he] at hr
          obtain ⟨e, s⟩ := q
          cases e
          · exact h1 _ _ _ _ hr
          · exact hr
          · exact hr
      | cond c a b =>
        rw [run] at hr ⊢
        rw [← h.gl]
        revert hr
        rcases st.operand A.gl c with _ | v
        · exact id
        · cases v <;> try exact id
          rename_i q
          cases q
          · exact h1 _ _ _ _
          · exact h1 _ _ _ _
      | block id c =>
        rw [run] at hr ⊢
        rcases he : run A n pb c st with _ | q
        · rw [he] at hr; cases hr
        · rw [h1 _ _ _ _ he]; rw [he] at hr; exact hr
      | loop live c =>
        rw [run] at hr ⊢
        rcases he : run A n pb c (st.keep live) with _ | q
        · rw [he] at hr; cases hr
        · rw [h1 _ _ _ _ he]; rw [he] at hr
          obtain ⟨e, s⟩ := q
          cases e
          · exact h1 _ _ _ _ hr
          · exact hr
          · exact hr
      | exit id => simpa [run] using hr
      | ret => simpa [run] using hr
      | fail => simp [run] at hr
    · intro g args ob pb r hr
      rw [call] at hr ⊢
      revert hr
      rcases hg : A.fns g with _ | e
      · intro hr; cases hr
      · rw [h.fns g e hg]
        cases e with
        | ext F => exact id
        | code f =>
          intro hr
          simp only [] at hr ⊢
          rcases he : run A n pb f.body { sl := args.map .val ++ List.replicate (f.ntmps - args.length) (.val .undef), ob, al := fun _ => none } with _ | q
          · rw [he] at hr; cases hr
          · rw [h1 _ _ _ _ he]; rw [he] at hr; exact hr
theorem Gives.le {A B : Env} (h : EnvLe A B) {g : Nat} {args : List LV} {ob : Obs} {pb : Nat} {r : LV × Obs} (hg : Gives A g args ob pb r) : Gives B g args ob pb r := by
  obtain ⟨n, hn⟩ := hg
  exact ⟨n, (env_le h n).2 _ _ _ _ _ hn⟩
end Tree
