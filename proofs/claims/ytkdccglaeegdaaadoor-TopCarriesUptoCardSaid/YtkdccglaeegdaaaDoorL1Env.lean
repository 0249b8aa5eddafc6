/- Layer 1: the environment of its functions. -/
import Derived.Test.YtkdccglaeegdaaaDoorL1Code
import Derived.Test.YtkdccglaeegdaaaDoorTX
import Derived.Test.YtkdccglaeegdaaaDoorTW
set_option autoImplicit false
namespace Tree
open Go
def signs : List LV := [[61],[58,61],[64],[43],[45],[42],[60],[61,60],[62],[62,61],[61,58,61],[61,92,61]].map fun l => LV.str ⟨(l.map (UInt8.ofNat ·)).toArray⟩
noncomputable def env1 : Env := { fns := fun g => match Nat.beq g 564 with
    | true => some (.ext (growF 5 48))
    | false => match Nat.beq g 39 with
      | true => some (.ext (cloneF 5 48))
      | false => lookE fnTable g, gl := fun g => match g with | 0 => signs | _ => [] }
end Tree
