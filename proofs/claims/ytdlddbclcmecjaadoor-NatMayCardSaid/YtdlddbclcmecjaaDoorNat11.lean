/-
  Products: adding into a row; the split product.
-/
import Derived.Test.YtdlddbclcmecjaaDoorNat7
import Derived.Test.YtdlddbclcmecjaaDoorNat10
import Derived.Test.YtdlddbclcmecjaaDoorNat8
set_option linter.unusedVariables false
set_option linter.unusedSimpArgs false
namespace Go.Vc
open Go
open Go.Proofs



abbrev rowU (xs : List Int) : Heap := [(1000, .arr 46 false true 1 (encI .u32) xs)]

theorem ret_row {env : Env} {xs : List Int} {post : AV → Heap → Prop} {lent : List Int} (h : post (.tup []) (rowU xs)) : Ret [] (rowU lent) post ⟨env, rowU xs⟩ :=
  ⟨.tup [], rowU xs, trivial, by simp [rowU, retH, hget, retO], by simp [rowU, keptH, hget, OB.fixed], h⟩

theorem val_drop_getD (b : List Int) (i : Nat) : val (b.drop i) = b.getD i 0 + 4294967296 * val (b.drop (i + 1)) := by
  by_cases h : i < b.length
  · have he : b[i]? = some b[i] := List.getElem?_eq_getElem h
    rw [val_drop he, getD_of he]
  · rw [List.drop_eq_nil_of_le (by omega), List.drop_eq_nil_of_le (by omega), getD_out (by omega)]; simp [val]

theorem none_left {V X : Int} {p n : Nat} (hV : 0 ≤ V) (hX : 0 ≤ X) (h : V + 4294967296 ^ p * X < 4294967296 ^ n) (hp : n ≤ p) : X = 0 := by
  have h1 : (4294967296 : Int) ^ n ≤ 4294967296 ^ p := pow_mono hp
  have h2 := pow_pos' p
  by_cases h3 : X = 0
  · exact h3
  · have : (4294967296 : Int) ^ p * 1 ≤ 4294967296 ^ p * X := Int.mul_le_mul_of_nonneg_left (by omega) (by omega)
    omega

theorem into_step {V P e w c T D : Int} (hv : V + P * (c + (w + 4294967296 * D)) = T) : V + P * ((e + w + c) % 4294967296 - e) + P * 4294967296 * ((e + w + c) / 4294967296 + D) = T := by
  have hs := Int.mul_ediv_add_emod (e + w + c) 4294967296
  generalize (e + w + c) % 4294967296 = m at *
  generalize (e + w + c) / 4294967296 = d at *
  have h1 : P * (e + w + c) = P * (4294967296 * d + m) := by rw [hs]
  simp only [Int.mul_add, Int.mul_sub, ← Int.mul_assoc] at h1 hv ⊢
  omega

theorem prod_lt {xs ys : List Int} (hx : lim xs) (hy : lim ys) : val xs * val ys < 4294967296 ^ (xs.length + ys.length) := by
  have h1 := val_bound hx
  have h2 := val_bound hy
  rw [pow_add']
  have h3 : val xs * val ys ≤ val xs * 4294967296 ^ ys.length := Int.mul_le_mul_of_nonneg_left (by omega) h1.1
  have h4 : val xs * 4294967296 ^ ys.length < 4294967296 ^ xs.length * 4294967296 ^ ys.length := Int.mul_lt_mul_of_pos_right h1.2 (pow_pos' _)
  omega

end Go.Vc
