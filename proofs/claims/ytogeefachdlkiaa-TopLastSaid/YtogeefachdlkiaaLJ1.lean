/- Numbers of four bytes. -/
import Derived.Test.YtogeefachdlkiaaTW
set_option autoImplicit false
set_option linter.unusedVariables false
set_option linter.unusedSimpArgs false
namespace Tree.J14
open Go
theorem wrapU32 {x : Int} (h1 : 0 ≤ x) (h2 : x < 4294967296) : IntKind.u32.wrap x = x := by
  simp only [IntKind.wrap, IntKind.bits, IntKind.signed, Bool.false_and, Bool.false_eq_true, if_false]
  omega
theorem wrapU32_range (x : Int) : 0 ≤ IntKind.u32.wrap x ∧ IntKind.u32.wrap x < 4294967296 := by
  simp only [IntKind.wrap, IntKind.bits, IntKind.signed, Bool.false_and, Bool.false_eq_true, if_false]
  omega
theorem wrapU8 (x : Int) : IntKind.u8.wrap x = x % 256 := by
  simp only [IntKind.wrap, IntKind.bits, IntKind.signed, Bool.false_and, Bool.false_eq_true, if_false]
  omega
theorem or_nat (x y : Nat) (hx : x < 4294967296) (hy : y < 4294967296) : IntKind.u32.wrap ((BitVec.ofInt IntKind.u32.bits (x : Int) ||| BitVec.ofInt IntKind.u32.bits (y : Int)).toNat : Int) = ((x ||| y : Nat) : Int) := by
  have e : ∀ z : Nat, z < 4294967296 → (BitVec.ofInt IntKind.u32.bits (z : Int)).toNat = z := fun z hz => by
    show (BitVec.ofInt 32 (z : Int)).toNat = z
    rw [BitVec.toNat_ofInt]; omega
  have h := Nat.or_lt_two_pow (n := 32) (show x < 2 ^ 32 by omega) (show y < 2 ^ 32 by omega)
  rw [BitVec.toNat_or, e x hx, e y hy, wrapU32 (by omega) (by omega)]
theorem or_add (a k y : Nat) (h : y < 2 ^ k) : a * 2 ^ k ||| y = a * 2 ^ k + y := by
  have := Nat.shiftLeft_add_eq_or_of_lt h a
  rw [Nat.shiftLeft_eq] at this
  exact this.symm
/-- A number's four bytes, the highest first. -/
def fourL (n : Int) : List Int := [n / 16777216 % 256, n / 65536 % 256, n / 256 % 256, n % 256]
/-- What E makes of four bytes. -/
def ofE (a b c d : Int) : Int :=
  let w := IntKind.u32.wrap
  let o := fun x y : Int => w ((BitVec.ofInt IntKind.u32.bits x ||| BitVec.ofInt IntKind.u32.bits y).toNat : Int)
  o (o (o (w (w a * 2 ^ min (24 : Int).toNat IntKind.u32.bits)) (w (w b * 2 ^ min (16 : Int).toNat IntKind.u32.bits))) (w (w c * 2 ^ min (8 : Int).toNat IntKind.u32.bits))) (w d)
theorem ofE_nat (a b c d : Nat) (ha : a < 256) (hb : b < 256) (hc : c < 256) (hd : d < 256) : ofE a b c d = ((a * 16777216 + b * 65536 + c * 256 + d : Nat) : Int) := by
  unfold ofE
  have e24 : (2 : Int) ^ min (24 : Int).toNat IntKind.u32.bits = 16777216 := by decide
  have e16 : (2 : Int) ^ min (16 : Int).toNat IntKind.u32.bits = 65536 := by decide
  have e8 : (2 : Int) ^ min (8 : Int).toNat IntKind.u32.bits = 256 := by decide
  have w1 : ∀ x : Nat, x < 4294967296 → IntKind.u32.wrap (x : Int) = (x : Int) := fun x hx => wrapU32 (by omega) (by omega)
  dsimp only
  rw [e24, e16, e8, w1 a (by omega), w1 b (by omega), w1 c (by omega), w1 d (by omega)]
  have m1 : ((a : Int) * 16777216) = ((a * 16777216 : Nat) : Int) := by omega
  have m2 : ((b : Int) * 65536) = ((b * 65536 : Nat) : Int) := by omega
  have m3 : ((c : Int) * 256) = ((c * 256 : Nat) : Int) := by omega
  rw [m1, m2, m3, w1 (a * 16777216) (by omega), w1 (b * 65536) (by omega), w1 (c * 256) (by omega)]
  rw [or_nat _ _ (by omega) (by omega)]
  have o1 : a * 16777216 ||| b * 65536 = a * 16777216 + b * 65536 := or_add a 24 (b * 65536) (by omega)
  rw [o1, or_nat _ _ (by omega) (by omega)]
  have o2 : a * 16777216 + b * 65536 ||| c * 256 = a * 16777216 + b * 65536 + c * 256 := by
    have := or_add (a * 256 + b) 16 (c * 256) (by omega)
    have e : (a * 256 + b) * 2 ^ 16 = a * 16777216 + b * 65536 := by omega
    rw [e] at this; exact this
  rw [o2, or_nat _ _ (by omega) (by omega)]
  have o3 : a * 16777216 + b * 65536 + c * 256 ||| d = a * 16777216 + b * 65536 + c * 256 + d := by
    have := or_add (a * 65536 + b * 256 + c) 8 d (by omega)
    have e : (a * 65536 + b * 256 + c) * 2 ^ 8 = a * 16777216 + b * 65536 + c * 256 := by omega
    rw [e] at this; exact this
  rw [o3]
theorem ofE_four (n : Int) (h1 : 0 ≤ n) (h2 : n < 4294967296) : ofE (n / 16777216 % 256) (n / 65536 % 256) (n / 256 % 256) (n % 256) = n := by
  have := ofE_nat (n / 16777216 % 256).toNat (n / 65536 % 256).toNat (n / 256 % 256).toNat (n % 256).toNat (by omega) (by omega) (by omega) (by omega)
  rw [Int.toNat_of_nonneg (by omega), Int.toNat_of_nonneg (by omega), Int.toNat_of_nonneg (by omega), Int.toNat_of_nonneg (by omega)] at this
  rw [this]
  omega
end Tree.J14
