/-
  Differences; the document's sums and differences.
-/
import Derived.Test.YtdlddbclcmecjaaDoorNat6
import Derived.Test.YtdlddbclcmecjaaDoorVc22
set_option linter.unusedVariables false
set_option linter.unusedSimpArgs false
namespace Go.Vc
open Go
open Go.Proofs



theorem bit_and_sr (a b : Nat) : (a &&& b) / 2147483648 = (a / 2147483648) &&& (b / 2147483648) := by
  have := Nat.shiftRight_and_distrib (a := a) (b := b) (i := 31)
  simpa [Nat.shiftRight_eq_div_pow] using this
theorem bit_or_sr (a b : Nat) : (a ||| b) / 2147483648 = (a / 2147483648) ||| (b / 2147483648) := by
  have := Nat.shiftRight_or_distrib (a := a) (b := b) (i := 31)
  simpa [Nat.shiftRight_eq_div_pow] using this
theorem bit_xor_sr (a b : Nat) : (a ^^^ b) / 2147483648 = (a / 2147483648) ^^^ (b / 2147483648) := by
  have := Nat.shiftRight_xor_distrib (a := a) (b := b) (i := 31)
  simpa [Nat.shiftRight_eq_div_pow] using this

theorem borrow_bit (x y c d : Nat) (hx : x < 4294967296) (hy : y < 4294967296) (hc : c ≤ 1) (hd : d = (x + 4294967296 + 4294967296 - y - c) % 4294967296) :
    (((4294967295 - x) &&& y) ||| ((4294967295 - (x ^^^ y)) &&& d)) / 2147483648 = if x < y + c then 1 else 0 := by
  have hz : x ^^^ y < 4294967296 := Nat.xor_lt_two_pow (n := 32) hx hy
  have hzz := bit_xor_sr x y
  have h1 : (4294967295 - x) / 2147483648 = 1 - x / 2147483648 := by omega
  have h2 : (4294967295 - (x ^^^ y)) / 2147483648 = 1 - (x ^^^ y) / 2147483648 := by omega
  rw [bit_or_sr, bit_and_sr, bit_and_sr, h1, h2, hzz]
  have hxl : x / 2147483648 = 0 ∨ x / 2147483648 = 1 := by omega
  have hyl : y / 2147483648 = 0 ∨ y / 2147483648 = 1 := by omega
  have hdl : d / 2147483648 = 0 ∨ d / 2147483648 = 1 := by omega
  rcases hxl with a | a <;> rcases hyl with b | b <;> rcases hdl with e | e <;> rw [a, b, e] <;> simp <;> omega

end Go.Vc
