/-
  Mul: the program's and the document's; alive.
-/
import Derived.Test.YtdlddbclcmecjaaDoorNat9
import Derived.Test.YtdlddbclcmecjaaDoorNat11
set_option linter.unusedVariables false
set_option linter.unusedSimpArgs false
namespace Go.Vc
open Go
open Go.Proofs



def mulL (a b : List Int) : List Int := if may a ∧ may b then fitL (val a * val b) else []
def mulE (a b : List Int) : Int := if may a ∧ may b then fitE (val a * val b) else 20

theorem limbs_cons {v x : Int} {xs : List Int} (h : v = val (x :: xs)) (hl : lim (x :: xs)) (ht : top (x :: xs)) : limbs v = x :: xs := by rw [h]; exact limbs_of hl ht

theorem alive_1 : fromL 4294967295 = [4294967295] := by
  unfold fromL
  rw [trimL_limbs (by intro x hx; simp at hx; omega)]
  exact limbs_cons (by simp [val]) (by intro x hx; simp at hx; omega) (by simp [top])
theorem alive_2 : mulL [4294967295] [4294967295] = [1, 4294967294] ∧ mulE [4294967295] [4294967295] = 0 := by
  have h : may [4294967295] ∧ may [4294967295] := by simp [may]
  have e : limbs (val [4294967295] * val [4294967295]) = [1, 4294967294] := limbs_cons (by simp [val]) (by intro x hx; simp at hx; omega) (by simp [top])
  rw [mulL, mulE, if_pos h, if_pos h, fitL, fitE, e]
  simp
theorem alive_3 (a : List Int) : mulE a [1, 0] = 20 := by rw [mulE, if_neg]; intro h; simp [may] at h

end Go.Vc
