/-
  Results that fit; several naturals.
-/
import Derived.Test.YtdlddbclcmecjaaDoorVal
import Derived.Test.YtdlddbclcmecjaaDoorVc22
set_option linter.unusedVariables false
set_option linter.unusedSimpArgs false
namespace Go.Vc
open Go
open Go.Proofs



/-- a result, or that it is too big -/
def fitL (v : Int) : List Int := if (limbs v).length ≤ 2048 then limbs v else []
def fitE (v : Int) : Int := if (limbs v).length ≤ 2048 then 0 else 2
abbrev lE (l : List Int) (e : Int) : AV := .tup [uL true l, .int .i64 e]

theorem fitL_len (v : Int) : (fitL v).length ≤ 2048 := by unfold fitL; split <;> simp_all
theorem fitL_lim (v : Int) : lim (fitL v) := by unfold fitL; split; exact limbs_lim v; exact lim.nil
theorem fitL_may (v : Int) : may (fitL v) := by unfold fitL; split; exact may_of_len ‹_›; simp [may]

/-- lists of lists of limbs -/
abbrev uLL (fr : Bool) (L : List (List Int)) : AV := .ro fr 1 (encR 1 (encI .u32)) L

end Go.Vc
