/- Layer 11: numbers as bytes. -/
import Derived.Test.YtoofpbdalgopgaaDoorL11Live
import Derived.Test.YtoofpbdalgopgaaDoorTW
import Derived.Test.YtoofpbdalgopgaaDoorTLb
set_option autoImplicit false
set_option linter.unusedVariables false
set_option linter.unusedSimpArgs false
namespace Tree.W11
open Go
set_option maxHeartbeats 8000000
set_option maxRecDepth 100000
def brw (b : Int) : List LV := [.int .u8 b]
abbrev slB (o : Bool) (bs : List Int) : LV := .sl o 0 1 (bs.map brw) []
def obW (bs : List Int) : List LV := [slB true bs]
def numB (n : Nat) : List Int := if h : n < 128 then [(n : Int)] else ((n % 128 + 128 : Nat) : Int) :: numB (n / 128)
termination_by n
decreasing_by omega
theorem numB_lt {n : Nat} (h : n < 128) : numB n = [(n : Int)] := by rw [numB, dif_pos h]
theorem numB_ge {n : Nat} (h : ¬ n < 128) : numB n = ((n % 128 + 128 : Nat) : Int) :: numB (n / 128) := by rw [numB, dif_neg h]
theorem or128 (n : Int) (h : 0 ≤ n) : IntKind.u8.wrap (BitVec.ofInt IntKind.u8.bits (IntKind.u8.wrap n) ||| BitVec.ofInt IntKind.u8.bits 128).toNat = n % 128 + 128 := by
  have key : ∀ b : Fin 256, IntKind.u8.wrap (BitVec.ofInt IntKind.u8.bits ((b : Nat) : Int) ||| BitVec.ofInt IntKind.u8.bits 128).toNat = (((b : Nat) % 128 + 128 : Nat) : Int) := by decide +kernel
  have e : IntKind.u8.wrap n = ((n % 256).toNat : Int) := by
    show n.emod 256 = _
    have : n.emod 256 = n % 256 := rfl
    rw [this]; omega
  have hb : (n % 256).toNat < 256 := by omega
  have := key ⟨(n % 256).toNat, hb⟩
  rw [e, this]
  show ((((n % 256).toNat % 128 + 128 : Nat)) : Int) = _
  omega
end Tree.W11
