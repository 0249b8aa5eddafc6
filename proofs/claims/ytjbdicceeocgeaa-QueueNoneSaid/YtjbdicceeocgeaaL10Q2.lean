/- A part of the interpreter over trees and of its proof. -/
import Derived.Test.YtjbdicceeocgeaaL10Q1
set_option autoImplicit false
set_option linter.unusedVariables false
set_option linter.unusedSimpArgs false
namespace Tree.Q10
open Go
set_option maxHeartbeats 8000000
set_option maxRecDepth 100000
def Gl.key (g : Gl) : Int × Int × List C := (g.a, g.b, g.cs)
section
variable {ob : Obs} {id pb : Nat} {rd : List Gl} {wt : List Wt} (hob : ob[id]? = some (qC rd wt))
include hob
end
end Tree.Q10
