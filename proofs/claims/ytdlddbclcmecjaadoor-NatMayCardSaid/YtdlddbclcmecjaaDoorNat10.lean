/-
  Products, limb by limb.
-/
import Derived.Test.YtdlddbclcmecjaaDoorVal
import Derived.Test.YtdlddbclcmecjaaDoorVc25
set_option linter.unusedVariables false
set_option linter.unusedSimpArgs false
namespace Go.Vc
open Go
open Go.Proofs



theorem pow_add' (m n : Nat) : (4294967296 : Int) ^ (m + n) = 4294967296 ^ m * 4294967296 ^ n := Int.pow_add _ _ _

theorem mul_bound {x y : Int} (hx : 0 ≤ x ∧ x < 4294967296) (hy : 0 ≤ y ∧ y < 4294967296) : 0 ≤ x * y ∧ x * y ≤ 18446744065119617025 := by
  refine ⟨Int.mul_nonneg hx.1 hy.1, ?_⟩
  have h1 : x * y ≤ 4294967295 * y := Int.mul_le_mul_of_nonneg_right (by omega) hy.1
  omega

theorem row_step {us : List Int} {p : Nat} {x y c u : Int} (lu : lim us) (hu : us[p]? = some u) (hx : 0 ≤ x ∧ x < 4294967296) (hy : 0 ≤ y ∧ y < 4294967296) (hc : 0 ≤ c ∧ c < 4294967296) :
    0 ≤ x * y + u + c ∧ x * y + u + c < 18446744073709551616 ∧ ((x * y % 18446744073709551616 + u) % 18446744073709551616 + c) % 18446744073709551616 = x * y + u + c ∧ 0 ≤ (x * y + u + c) / 4294967296 ∧ (x * y + u + c) / 4294967296 < 4294967296 ∧
    lim (us.set p ((x * y + u + c) % 4294967296)) ∧ val (us.set p ((x * y + u + c) % 4294967296)) + 4294967296 ^ (p + 1) * ((x * y + u + c) / 4294967296) = val us + 4294967296 ^ p * (x * y + c) := by
  have hxy := mul_bound hx hy
  have hU := lu.get hu
  rw [val_set hu, pow_s]
  generalize x * y = q at *
  have hs := Int.mul_ediv_add_emod (q + u + c) 4294967296
  refine ⟨by omega, by omega, by omega, by omega, by omega, lu.set p (by omega), ?_⟩
  generalize (q + u + c) % 4294967296 = m at *
  generalize (q + u + c) / 4294967296 = d at *
  have h1 : (4294967296 : Int) ^ p * (q + u + c) = 4294967296 ^ p * (4294967296 * d + m) := by rw [hs]
  simp only [Int.mul_add, Int.mul_sub, ← Int.mul_assoc] at h1 ⊢
  omega

theorem row_next {Z Y x y c V : Int} {i k : Nat} {T : Int} (h : V + 4294967296 ^ (i + k) * c = Z + 4294967296 ^ i * x * T) (h2 : Y = V + 4294967296 ^ (i + k) * (x * y + c)) : Y = Z + 4294967296 ^ i * x * (T + 4294967296 ^ k * y) := by
  rw [h2, pow_add'] at *
  have e : (4294967296 : Int) ^ i * 4294967296 ^ k * (x * y + c) = 4294967296 ^ i * 4294967296 ^ k * c + 4294967296 ^ i * x * (4294967296 ^ k * y) := by
    rw [Int.mul_add, Int.add_comm]; congr 1
    rw [Int.mul_assoc, Int.mul_assoc, Int.mul_left_comm (4294967296 ^ k) x y]
  rw [e, Int.mul_add]
  omega

theorem set_mid {us : List Int} {n p : Nat} {e x : Int} (hp : p < us.length) : (us ++ List.replicate n x).set p e = us.set p e ++ List.replicate n x := by
  rw [List.set_append, if_pos hp]
theorem get_mid {us vs : List Int} {p : Nat} (hp : p < us.length) : (us ++ vs)[p]? = us[p]? := List.getElem?_append_left hp

theorem set_rep2 (us : List Int) (N i p : Nat) (e x : Int) (hp : us.length = p) (hi : i < N) : (us ++ List.replicate (N - i) x).set p e = (us ++ [e]) ++ List.replicate (N - (i + 1)) x := by
  rw [List.set_append, if_neg (by omega), hp, Nat.sub_self, show N - i = (N - (i + 1)) + 1 by omega, List.replicate_succ, List.set_cons_zero, List.append_assoc, List.singleton_append]

end Go.Vc
