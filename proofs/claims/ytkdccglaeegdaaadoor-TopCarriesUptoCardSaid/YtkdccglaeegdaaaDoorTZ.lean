/- A call whose result is frozen: what it made stays as it is, and nothing of it is an object any more. -/
import Derived.Test.YtkdccglaeegdaaaDoorTE
import Derived.Test.YtkdccglaeegdaaaDoorTW
set_option autoImplicit false
set_option linter.unusedVariables false
set_option linter.unusedSimpArgs false
namespace Tree
open Go

def frzRows (cs : List LV) (off cap sz : Nat) : List (List LV) := (List.range cap).map fun i => ((cs.drop (off + i * sz)).take sz).map LV.bare1
def frz (ob : Obs) : LV → Option LV
  | .msl id off len cap sz => match ob[id]? with
    | some cs => if isMapC cs = false ∧ off + cap * sz ≤ cs.length ∧ len ≤ cap ∧ LV.noRefs 0 cs = true then some (.sl false 0 sz ((frzRows cs off cap sz).take len) ((frzRows cs off cap sz).drop len)) else none
    | none => none
  | v => if v.noRef 0 then some v.bare else none

def unobj : Kd → Kd
  | .obj _ => .other
  | .tail ⟨.obj _, _⟩ => .other
  | k => k
section
variable {T : Tab} {E : Env} {pb : Nat} {m m' : Mem}
open Classical in
noncomputable def Mem.back (m m' : Mem) (B : Option Nat) : Mem :=
  { w := m'.w, ob := m.ob, n := m.n,
    k := fun b o => if b < m.w.heap.size then (match m.k b o with
        | .obj i => .obj i
        | .tail ⟨.obj i, c⟩ => .tail ⟨.obj i, c⟩
        | _ => m'.k b o)
      else if B = some b then .imm 0 else unobj (m'.k b o) }
end
end Tree

set_option autoImplicit false
set_option linter.unusedVariables false
set_option linter.unusedSimpArgs false
namespace Tree
open Go
/-- Objects from number n on are nobody's. -/
def lowobj (n : Nat) : Kd → Kd
  | .obj i => if i < n then .obj i else .other
  | .tail ⟨.obj i, c⟩ => if i < n then .tail ⟨.obj i, c⟩ else .other
  | k => k
section
variable {T : Tab} {E : Env} {pb : Nat} {m m' : Mem}
def Mem.low (m : Mem) : Mem := m.ren (lowobj m.n)
end
end Tree

set_option autoImplicit false
set_option linter.unusedVariables false
namespace Tree
open Go
open Classical in
noncomputable def frzF0 (E0 : Env) (g : Nat) (args : List LV) : Option LV :=
  if h : LV.noRefs 0 args = true ∧ LV.noLs args = true ∧ ∃ r', ∃ n r ob1, call E0 n g args [] 0 = some (r, ob1) ∧ frz ob1 r = some r' then some (Classical.choose h.2.2) else none
noncomputable def frzF (E0 : Env) (g : Nat) (args : List LV) (_ : Obs) : Option LV := frzF0 E0 g args
/-- An environment some of whose functions are frozen. -/
noncomputable def frzEnv (E0 : Env) (l : List Nat) : Env := { gl := E0.gl, lps := E0.lps, fx := E0.fx, fns := fun g => match l.contains g with
  | true => some (.ext (frzF E0 g))
  | false => E0.fns g }
end Tree
