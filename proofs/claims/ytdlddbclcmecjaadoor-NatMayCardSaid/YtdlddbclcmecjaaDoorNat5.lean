/-
  Sums and differences, limb by limb.
-/
import Derived.Test.YtdlddbclcmecjaaDoorNat1
set_option linter.unusedVariables false
set_option linter.unusedSimpArgs false
namespace Go.Vc
open Go
open Go.Proofs



end Go.Vc
