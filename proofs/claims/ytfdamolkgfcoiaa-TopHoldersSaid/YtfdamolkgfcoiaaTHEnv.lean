/- The law TopHolders: the environment of its functions: those of the layers 15 and 16, and its own. -/
import Derived.Test.YtfdamolkgfcoiaaTHCode
import Derived.Test.YtfdamolkgfcoiaaL15Env
import Derived.Test.YtfdamolkgfcoiaaR16Live
set_option autoImplicit false
namespace Tree.TH
open Go Tree
theorem lookE_mem {l : List (Nat × TFn)} {g : Nat} {e : Entry} (h : lookE l g = some e) : g ∈ l.map (·.1) := by
  induction l with
  | nil => cases h
  | cons x r ih =>
    obtain ⟨a, f⟩ := x
    have h' : (match Nat.beq a g with | true => some (.code f) | false => lookE r g) = some e := h
    split at h'
    · rename_i e; obtain rfl := Nat.eq_of_beq_eq_true e; exact List.mem_cons_self ..
    · exact List.mem_cons_of_mem _ (ih h')
noncomputable def envH : Env := { gl := fun _ => [], fns := fun g => match env15.fns g with
  | some e => some e
  | none => match R16.env16z.fns g with
    | some e => some e
    | none => lookE fnTableH g }
theorem le15H : EnvLe env15 envH := ⟨rfl, fun g e h => by simp only [envH]; rw [h], lps0 rfl, rfl, fx0 rfl⟩
def keys16 : List Nat := 395 :: 418 :: 401 :: R16.fnTable16.map (·.1)
theorem keys16_of {g : Nat} {e : Entry} (h : R16.env16z.fns g = some e) : g ∈ keys16 := by
  have h' : (match ([395] : List Nat).contains g with | true => some (.ext (frzF R16.env16 g)) | false => R16.env16.fns g) = some e := h
  split at h'
  · rename_i hc
    have hm : g ∈ ([395] : List Nat) := by simpa using hc
    simp at hm
    rw [hm]; exact List.mem_cons_self ..
  · simp only [R16.env16] at h'
    split at h'
    · rename_i h2; obtain rfl := Nat.eq_of_beq_eq_true h2; simp [keys16]
    · split at h'
      · rename_i h2; obtain rfl := Nat.eq_of_beq_eq_true h2; simp [keys16]
      · exact List.mem_cons_of_mem _ (List.mem_cons_of_mem _ (List.mem_cons_of_mem _ (lookE_mem h')))
theorem keys16_none : keys16.all (fun g => (env15.fns g).isNone) = true := by decide +kernel
theorem le16H : EnvLe R16.env16z envH := ⟨rfl, fun g e h => by
  have h1 := List.all_eq_true.1 keys16_none g (keys16_of h)
  have h2 : env15.fns g = none := by simpa using h1
  simp only [envH]; rw [h2, h], lps0 rfl, rfl, fx0 rfl⟩
theorem envH_ext (g : Nat) (F : List LV → Obs → Option LV) (hg : envH.fns g = some (.ext F)) : env15.fns g = some (.ext F) ∨ (g = 418 ∧ F = rowsF) ∨ (g = 401 ∧ F = exportedF) ∨ (g = 395 ∧ F = frzF R16.env16 395) := by
  simp only [envH] at hg
  split at hg
  · rename_i e h
    injection hg with hg; subst hg; exact .inl h
  · split at hg
    · rename_i e h
      injection hg with hg; subst hg
      have h' : (match ([395] : List Nat).contains g with | true => some (.ext (frzF R16.env16 g)) | false => R16.env16.fns g) = some (.ext F) := h
      split at h'
      · rename_i hc
        have hm : g = 395 := by simpa using hc
        injection h' with h'; injection h' with h'
        subst hm
        exact .inr (.inr (.inr ⟨rfl, h'.symm⟩))
      · rcases R16.env16_ext g F h' with h | h
        · exact .inr (.inl h)
        · exact .inr (.inr (.inl h))
    · exact (lookE_ext hg).elim
end Tree.TH
