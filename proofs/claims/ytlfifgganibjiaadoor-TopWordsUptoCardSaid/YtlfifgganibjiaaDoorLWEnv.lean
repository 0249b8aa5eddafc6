/- The law TopWords: the environment of its functions: those of the layers 1 and 2, and its own. -/
import Derived.Test.YtlfifgganibjiaaDoorLWCode
import Derived.Test.YtlfifgganibjiaaDoorL2Env
import Derived.Test.YtlfifgganibjiaaDoorL1Env
set_option autoImplicit false
namespace Tree
open Go
theorem lookE_mem {l : List (Nat × TFn)} {g : Nat} {e : Entry} (h : lookE l g = some e) : g ∈ l.map (·.1) := by
  induction l with
  | nil => cases h
  | cons x r ih =>
    obtain ⟨a, f⟩ := x
    have h' : (match Nat.beq a g with | true => some (.code f) | false => lookE r g) = some e := h
    split at h'
    · rename_i e; obtain rfl := Nat.eq_of_beq_eq_true e; exact List.mem_cons_self ..
    · exact List.mem_cons_of_mem _ (ih h')
noncomputable def envW : Env := { gl := env1.gl, lps := lookL lpTable2, fns := fun g => match env1.fns g with
  | some e => some e
  | none => match env2z.fns g with
    | some e => some e
    | none => lookE [(626, tf626)] g }
theorem le1W : EnvLe env1 envW := ⟨rfl, fun g e h => by simp only [envW]; rw [h], lps0 rfl, rfl⟩
def keys2 : List Nat := 353 :: 335 :: 337 :: fnTable2.map (·.1)
theorem keys2_of {g : Nat} {e : Entry} (h : env2z.fns g = some e) : g ∈ keys2 := by
  have h' : (match ([335, 337] : List Nat).contains g with | true => some (.ext (frzF env2r g)) | false => env2r.fns g) = some e := h
  split at h'
  · rename_i hc
    have hm : g ∈ ([335, 337] : List Nat) := by simpa using hc
    exact List.mem_cons_of_mem _ (by simp at hm ⊢; omega)
  · simp only [env2r] at h'
    split at h'
    · rename_i e' h2
      simp only [env2] at h2
      split at h2
      · rename_i h3; obtain rfl := Nat.eq_of_beq_eq_true h3; exact List.mem_cons_self ..
      · split at h2
        · cases h2
        · exact List.mem_cons_of_mem _ (List.mem_cons_of_mem _ (List.mem_cons_of_mem _ (lookE_mem h2)))
    · exact List.mem_cons_of_mem _ (List.mem_cons_of_mem _ (List.mem_cons_of_mem _ (lookE_mem h')))
theorem keys2_none : keys2.all (fun g => (env1.fns g).isNone) = true := by decide +kernel
theorem gl2W : env2z.gl = env1.gl := by
  funext g
  match g with
  | 0 => rfl
  | g + 1 => rfl
theorem le2W : EnvLe env2z envW := ⟨gl2W, fun g e h => by
  have h1 := List.all_eq_true.1 keys2_none g (keys2_of h)
  have h2 : env1.fns g = none := by simpa using h1
  show (match env1.fns g with | some e => some e | none => match env2z.fns g with | some e => some e | none => lookE [(626, tf626)] g) = some e
  rw [h2, h], fun s c h => h, rfl⟩
end Tree
