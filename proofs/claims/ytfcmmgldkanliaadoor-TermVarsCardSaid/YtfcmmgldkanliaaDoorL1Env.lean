/- Layer 1: the environment of its functions. -/
import Derived.Test.YtfcmmgldkanliaaDoorL1Code
import Derived.Test.YtfcmmgldkanliaaDoorTX
import Derived.Test.YtfcmmgldkanliaaDoorTW
set_option autoImplicit false
namespace Tree
open Go
def signs : List LV := [[61],[58,61],[64],[43],[45],[42],[60],[61,60],[62],[62,61],[61,58,61],[61,92,61]].map fun l => LV.str ⟨(l.map (UInt8.ofNat ·)).toArray⟩
def env1 : Env := { fns := fun g => if g = 564 then some (.ext (growF 5 48)) else if g = 39 then some (.ext (cloneF 5 48)) else (fnTable.find? (fun e => e.1 == g)).map (fun e => Entry.code e.2), gl := fun g => if g = 0 then signs else [] }
def nm (a b : Int) : LV := .agg [.int .i64 a, .int .i64 b]
end Tree
