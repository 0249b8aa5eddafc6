/- Numbers of four bytes. -/
import Derived.Test.YtkdccglaeegdaaaDoorTW
set_option autoImplicit false
set_option linter.unusedVariables false
set_option linter.unusedSimpArgs false
namespace Tree.J14
open Go
theorem or_add (a k y : Nat) (h : y < 2 ^ k) : a * 2 ^ k ||| y = a * 2 ^ k + y := by
  have := Nat.shiftLeft_add_eq_or_of_lt h a
  rw [Nat.shiftLeft_eq] at this
  exact this.symm
end Tree.J14
