/-
  Add, Sub, Diff: the program's and the document's.
-/
import Derived.Test.YtdlddbclcmecjaaDoorNat7
import Derived.Test.YtdlddbclcmecjaaDoorNat8
set_option linter.unusedVariables false
set_option linter.unusedSimpArgs false
namespace Go.Vc
open Go
open Go.Proofs



def addL (a b : List Int) : List Int := if may a ∧ may b then fitL (val a + val b) else []
def addE (a b : List Int) : Int := if may a ∧ may b then fitE (val a + val b) else 20
def subL' (a b : List Int) : List Int := if may a ∧ may b ∧ val b ≤ val a then limbs (val a - val b) else []
def subE (a b : List Int) : Int := if may a ∧ may b then if val a < val b then 21 else 0 else 20
def diffL (a b : List Int) : List Int := if may a ∧ may b then if val a < val b then limbs (val b - val a) else limbs (val a - val b) else []
def diffB (a b : List Int) : Prop := may a ∧ may b ∧ val a < val b
instance (a b : List Int) : Decidable (diffB a b) := inferInstanceAs (Decidable (_ ∧ _ ∧ _))
def diffE (a b : List Int) : Int := if may a ∧ may b then 0 else 20

theorem len_le_of_val {xs ys : List Int} (hx : lim xs) (hy : lim ys) (ty : top ys) (h : val ys ≤ val xs) : ys.length ≤ xs.length := by
  refine Nat.le_of_not_lt fun hl => ?_
  have := val_lt_len hx hy ty hl
  omega
theorem cmp_neg {a b : Int} : cmpI a b < 0 ↔ a < b := by unfold cmpI; split; simp_all; split <;> simp_all

end Go.Vc
