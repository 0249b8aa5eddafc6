/- Layer 2: the environment of its functions. -/
import Derived.Test.YtlfifgganibjiaaDoorL2Code
import Derived.Test.YtlfifgganibjiaaDoorTW
import Derived.Test.YtlfifgganibjiaaDoorTZ
import Derived.Lib.AtoiAll
set_option autoImplicit false
namespace Tree
open Go
/-- A loop's record in a table. -/
noncomputable def lookL (l : List (Nat × List Nat × TCode × TCode)) (s : Nat) : Option (List Nat × TCode × TCode) :=
  List.rec (motive := fun _ => Option (List Nat × TCode × TCode)) none (fun e _ ih => match e with
    | (a, c) => match Nat.beq a s with
      | true => some c
      | false => ih) l
/-- lex.number: a row of digits. -/
def numF0 (s : ByteArray) : Option LV :=
  match Lib.atoiAll s.data.toList with
  | .ok v => some (.tup [.int .i64 v, .bool (decide (v ≤ 1099511627776) && (s.size == 1 || (match s.data.toList with | c :: _ => c != 48 | [] => false)))])
  | .range => some (.tup [.int .i64 (Lib.atoiSat s.data.toList), .bool false])
  | .syntax => none
def numF (args : List LV) (_ : Obs) : Option LV := match args with
  | [.str s] => if s.size ≤ 281474976710656 then numF0 s else none
  | _ => none
/-- The listed variable of package term, where a program has it. -/
def sgl2 : Nat → List LV := fun g => match g with
  | 0 => [[61],[58,61],[64],[43],[45],[42],[60],[61,60],[62],[62,61],[61,58,61],[61,92,61]].map fun l => LV.str ⟨(l.map (UInt8.ofNat ·)).toArray⟩
  | _ => []
/-- All functions but lex.All and 'live'. -/
noncomputable def env2 : Env := { gl := sgl2, lps := lookL lpTable2, fns := fun g => match Nat.beq g 353 with
    | true => some (.ext numF)
    | false => match Nat.beq g 335 || Nat.beq g 337 with
      | true => none
      | false => lookE fnTable2 g }
noncomputable def env2r : Env := { gl := sgl2, lps := lookL lpTable2, fns := fun g => match env2.fns g with
    | some e => some e
    | none => lookE fnTable2 g }
noncomputable def env2z : Env := frzEnv env2r [335, 337]
theorem le22r : EnvLe env2 env2r := ⟨rfl, fun g e h => by simp only [env2r]; rw [h], fun s c h => h, rfl⟩
theorem env2r_ext (g : Nat) (F : List LV → Obs → Option LV) (hg : env2r.fns g = some (.ext F)) : g = 353 ∧ F = numF := by
  simp only [env2r] at hg
  split at hg
  · rename_i e h
    injection hg with hg; subst hg
    simp only [env2] at h
    split at h
    · rename_i h1; injection h with h; injection h with h; exact ⟨Nat.eq_of_beq_eq_true h1, h.symm⟩
    · split at h
      · cases h
      · exact (lookE_ext h).elim
  · exact (lookE_ext hg).elim
end Tree
