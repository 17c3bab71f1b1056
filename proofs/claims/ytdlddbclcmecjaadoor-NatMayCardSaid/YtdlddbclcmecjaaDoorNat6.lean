/-
  Sums: natural.plus, sloperef1.plus.
-/
import Derived.Test.YtdlddbclcmecjaaDoorNat5
import Derived.Test.YtdlddbclcmecjaaDoorVal
set_option linter.unusedVariables false
set_option linter.unusedSimpArgs false
namespace Go.Vc
open Go
open Go.Proofs



theorem add_step {P Z p w c v A B : Int} (hv : Z + P * c = A + B) : Z + P * ((p + w + c) % 4294967296) + P * 4294967296 * ((p + w + c) / 4294967296) = A + P * p + (B + P * w) := by
  have h := Int.mul_ediv_add_emod (p + w + c) 4294967296
  generalize (p + w + c) % 4294967296 = m at *
  generalize (p + w + c) / 4294967296 = d at *
  have h1 : P * (p + w + c) = P * (4294967296 * d + m) := by rw [h]
  rw [Int.mul_add, Int.mul_add, Int.mul_add, ← Int.mul_assoc] at h1
  omega

end Go.Vc
