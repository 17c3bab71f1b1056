/-
  Shl and Shr: the program's and the document's.
-/
import Derived.Test.YtdlddbclcmecjaaDoorNat12
import Derived.Test.YtdlddbclcmecjaaDoorNat11
set_option linter.unusedVariables false
set_option linter.unusedSimpArgs false
namespace Go.Vc
open Go
open Go.Proofs



/-! ### plain -/
theorem pq_split {s : Nat} (hs : s < 32) : (2 : Int) ^ s * 2 ^ (32 - s) = 4294967296 ∧ (0 : Int) < 2 ^ s ∧ (0 : Int) < 2 ^ (32 - s) := by
  refine ⟨?_, Int.pow_pos (by omega), Int.pow_pos (by omega)⟩
  rw [← Int.pow_add, show s + (32 - s) = 32 by omega]; rfl

theorem shl_step {p q w c : Int} (hpq : p * q = 4294967296) (hp : 0 < p) (hq : 0 < q) (hw : 0 ≤ w ∧ w < 4294967296) (hc : 0 ≤ c ∧ c < p) :
    (w * p) % 4294967296 = (w % q) * p ∧ (w * p) / 4294967296 = w / q ∧ 0 ≤ w / q ∧ w / q < p ∧ 0 ≤ (w % q) * p ∧ c + (w % q) * p < 4294967296 ∧ 0 ≤ w * p ∧ w * p < 18446744073709551616 := by
  have h1 : 0 ≤ w % q := Int.emod_nonneg _ (by omega)
  have h2 : w % q < q := Int.emod_lt_of_pos _ hq
  have h3 := Int.mul_ediv_add_emod w q
  have hp1 : p ≤ 4294967296 := by
    have : p * 1 ≤ p * q := Int.mul_le_mul_of_nonneg_left (by omega) (by omega)
    omega
  have hdiv : w / q < p := Int.ediv_lt_of_lt_mul hq (by rw [Int.mul_comm]; rw [Int.mul_comm] at hpq; rw [hpq] ; exact hw.2)
  have hd0 : 0 ≤ w / q := Int.ediv_nonneg hw.1 (by omega)
  have e : w * p = 4294967296 * (w / q) + (w % q) * p := by
    have : w * p = (q * (w / q) + w % q) * p := by rw [h3]
    rw [this, Int.add_mul, ← hpq, Int.mul_comm q (w / q), Int.mul_assoc (w / q) q p, Int.mul_comm q p, Int.mul_comm (w / q) (p * q)]
  have hm : (w % q) * p ≤ 4294967296 - p := by
    have : (w % q) * p ≤ (q - 1) * p := Int.mul_le_mul_of_nonneg_right (by omega) (by omega)
    rw [Int.sub_mul, Int.mul_comm q p, hpq] at this; omega
  have hm0 : 0 ≤ (w % q) * p := Int.mul_nonneg h1 (by omega)
  have hwp : 0 ≤ w * p := Int.mul_nonneg hw.1 (by omega)
  have hwp2 : w * p ≤ w * 4294967296 := Int.mul_le_mul_of_nonneg_left hp1 hw.1
  refine ⟨?_, ?_, hd0, hdiv, hm0, by omega, hwp, by omega⟩
  · rw [e]; omega
  · rw [e]; omega

theorem or_mul {p : Nat} {c y : Int} (hc : 0 ≤ c ∧ c < 2 ^ p) (hy : 0 ≤ y) : ((c.toNat ||| (y * 2 ^ p).toNat : Nat) : Int) = c + y * 2 ^ p := by
  obtain ⟨c, rfl⟩ := Int.eq_ofNat_of_zero_le hc.1
  obtain ⟨y, rfl⟩ := Int.eq_ofNat_of_zero_le hy
  have h1 : ((y : Int) * 2 ^ p).toNat = y <<< p := by rw [Nat.shiftLeft_eq]; exact_mod_cast Int.toNat_natCast _
  have hlt : c < 2 ^ p := by exact_mod_cast hc.2
  rw [h1, Int.toNat_natCast, Nat.or_comm, ← Nat.shiftLeft_add_eq_or_of_lt hlt y, Nat.shiftLeft_eq]
  push_cast
  omega

theorem two_pow_k (k : Nat) : (4294967296 : Int) ^ (k / 32) * 2 ^ (k % 32) = 2 ^ k := by
  rw [show (4294967296 : Int) = 2 ^ 32 from rfl, ← Int.pow_mul, ← Int.pow_add, Nat.div_add_mod]

theorem shl_val {V P c x y p w q : Int} (h : V + P * c = x * p) (e : w * p = 4294967296 * (w / q) + y) : V + P * (c + y) + P * 4294967296 * (w / q) = (x + P * w) * p := by
  rw [Int.add_mul, Int.mul_assoc P w p, e, ← h]
  simp only [Int.mul_add, ← Int.mul_assoc]
  omega

/-- what stands in the row: zeros, what is done, the limb that is begun, zeros -/
abbrev shlRow (at_ n i : Nat) (vs : List Int) (c : Int) : List Int := List.replicate at_ 0 ++ (vs ++ (c :: List.replicate (n - i) 0))
theorem shlRow_len {at_ n i : Nat} {vs : List Int} {c : Int} (hv : vs.length = i) (hi : i ≤ n) : (shlRow at_ n i vs c).length = n + at_ + 1 := by simp [shlRow, hv]; omega
theorem shlRow_get {at_ n i : Nat} {vs : List Int} {c : Int} (hv : vs.length = i) : (shlRow at_ n i vs c)[i + at_]? = some c := by
  rw [shlRow, List.getElem?_append_right (by simp), List.length_replicate, List.getElem?_append_right (by omega), show i + at_ - at_ - vs.length = 0 by omega]; rfl
theorem shlRow_set {at_ n i : Nat} {vs : List Int} {c x y : Int} (hv : vs.length = i) (hi : i < n) : ((shlRow at_ n i vs c).set (i + at_) x).set (i + at_ + 1) y = shlRow at_ n (i + 1) (vs ++ [x]) y := by
  unfold shlRow
  have e1 : (List.replicate at_ (0 : Int) ++ (vs ++ (c :: List.replicate (n - i) 0))).set (i + at_) x = List.replicate at_ 0 ++ (vs ++ (x :: List.replicate (n - i) 0)) := by
    rw [List.set_append_right _ _ (by simp), List.length_replicate, List.set_append_right _ _ (by omega), show i + at_ - at_ - vs.length = 0 by omega, List.set_cons_zero]
  rw [e1, List.set_append_right _ _ (by simp; omega), List.length_replicate, List.set_append_right _ _ (by omega), show i + at_ + 1 - at_ - vs.length = 1 by omega, show n - i = (n - (i + 1)) + 1 by omega, List.replicate_succ]
  simp
theorem shlRow_lim {at_ n i : Nat} {vs : List Int} {c : Int} (lv : lim vs) (hc : 0 ≤ c ∧ c < 4294967296) : lim (shlRow at_ n i vs c) :=
  (lim.rep _).append (lv.append fun x hx => by rcases List.mem_cons.1 hx with rfl | h; exact hc; exact lim.rep _ x h)
theorem shlRow_val {at_ n : Nat} {vs : List Int} {c : Int} (hv : vs.length = n) : val (shlRow at_ n n vs c) = 4294967296 ^ at_ * (val vs + 4294967296 ^ n * c) := by
  rw [shlRow, val_append, val_rep, List.length_replicate, val_append, hv, Nat.sub_self]; simp [val]

theorem shr_step {p q x y D E : Int} (hpq : p * q = 4294967296) (hp : 0 < p) (hq : 0 < q) (hx : 0 ≤ x ∧ x < 4294967296) (hD : D = y + 4294967296 * E) :
    0 ≤ (x + 4294967296 * y) / p % 4294967296 ∧ (x + 4294967296 * y) / p % 4294967296 < 4294967296 ∧ (x + 4294967296 * D) / p = (x + 4294967296 * y) / p % 4294967296 + 4294967296 * (D / p) := by
  have hf : D % p = y % p := by
    rw [hD, ← hpq, Int.mul_assoc, Int.add_mul_emod_self_left]
  have f0 : 0 ≤ y % p := Int.emod_nonneg _ (by omega)
  have f1 : y % p < p := Int.emod_lt_of_pos _ hp
  have e1 : (x + 4294967296 * D) / p = (x + 4294967296 * (y % p)) / p + 4294967296 * (D / p) := by
    have h := Int.mul_ediv_add_emod D p
    have : x + 4294967296 * D = x + 4294967296 * (y % p) + p * (4294967296 * (D / p)) := by
      rw [hf] at h
      rw [← Int.mul_assoc, Int.mul_comm p 4294967296, Int.mul_assoc]; omega
    rw [this, Int.add_mul_ediv_left _ _ (by omega)]
  have e2 : (x + 4294967296 * y) / p = (x + 4294967296 * (y % p)) / p + 4294967296 * (y / p) := by
    have h := Int.mul_ediv_add_emod y p
    have : x + 4294967296 * y = x + 4294967296 * (y % p) + p * (4294967296 * (y / p)) := by
      rw [← Int.mul_assoc, Int.mul_comm p 4294967296, Int.mul_assoc]; omega
    rw [this, Int.add_mul_ediv_left _ _ (by omega)]
  have g0 : 0 ≤ (x + 4294967296 * (y % p)) / p := Int.ediv_nonneg (by omega) (by omega)
  have g1 : (x + 4294967296 * (y % p)) / p < 4294967296 := by
    apply Int.ediv_lt_of_lt_mul hp
    have : 4294967296 * (y % p) ≤ 4294967296 * (p - 1) := Int.mul_le_mul_of_nonneg_left (by omega) (by omega)
    omega
  refine ⟨by omega, by omega, ?_⟩
  rw [e1, e2]; omega

theorem div_drop {n : List Int} (ln : lim n) (i : Nat) (hi : i ≤ n.length) : val n / 4294967296 ^ i = val (n.drop i) := by
  have h := val_split n i hi
  have hb := val_bound (ln.take i)
  rw [List.length_take, Nat.min_eq_left hi] at hb
  rw [h, Int.add_mul_ediv_left _ _ (by have := pow_pos' i; omega), Int.ediv_eq_zero_of_lt hb.1 hb.2, Int.zero_add]

theorem shr_small {n : List Int} (ln : lim n) (k : Nat) (h : n.length ≤ k / 32) : val n / 2 ^ k = 0 := by
  have hb := val_bound ln
  refine Int.ediv_eq_zero_of_lt hb.1 ?_
  have h1 : (4294967296 : Int) ^ n.length ≤ 4294967296 ^ (k / 32) := pow_mono h
  have h2 := two_pow_k k
  have h3 : (0 : Int) < 2 ^ (k % 32) := Int.pow_pos (by omega)
  have h4 : (4294967296 : Int) ^ (k / 32) * 1 ≤ 4294967296 ^ (k / 32) * 2 ^ (k % 32) := Int.mul_le_mul_of_nonneg_left (by omega) (Int.le_of_lt (pow_pos' _))
  omega

theorem shr_whole {n : List Int} (ln : lim n) (k : Nat) (h : k / 32 ≤ n.length) : val n / 2 ^ k = val (n.drop (k / 32)) / 2 ^ (k % 32) := by
  rw [← two_pow_k k, ← Int.ediv_ediv_of_nonneg (Int.le_of_lt (pow_pos' _)), div_drop ln _ h]

/-- which error -/
def movE (n : List Int) (k : Int) : Int := if may n then if k < 0 ∨ 65536 < k then 1 else 0 else 20
def shlL (n : List Int) (k : Int) : List Int := if may n ∧ 0 ≤ k ∧ k ≤ 65536 then fitL (val n * 2 ^ k.toNat) else []
def shlE (n : List Int) (k : Int) : Int := if may n ∧ 0 ≤ k ∧ k ≤ 65536 then fitE (val n * 2 ^ k.toNat) else movE n k
def shrL (n : List Int) (k : Int) : List Int := if may n ∧ 0 ≤ k ∧ k ≤ 65536 then limbs (val n / 2 ^ k.toNat) else []

theorem movE_zero (n : List Int) (k : Int) : movE n k = 0 ↔ may n ∧ 0 ≤ k ∧ k ≤ 65536 := by
  unfold movE
  by_cases h : may n
  · rw [if_pos h]
    by_cases h1 : k < 0 ∨ 65536 < k
    · rw [if_pos h1]; exact ⟨fun h => by omega, fun h => by omega⟩
    · rw [if_neg h1]; exact ⟨fun _ => ⟨h, by omega, by omega⟩, fun _ => rfl⟩
  · rw [if_neg h]; exact ⟨fun h => by omega, fun h' => absurd h'.1 h⟩
theorem mov_no {n : List Int} {k : Int} (h : ¬ (may n ∧ 0 ≤ k ∧ k ≤ 65536)) : shlL n k = [] ∧ shlE n k = movE n k ∧ shrL n k = [] := by rw [shlL, shlE, shrL, if_neg h, if_neg h, if_neg h]; exact ⟨rfl, rfl, rfl⟩
theorem mov_yes {n : List Int} {k : Int} (h : may n ∧ 0 ≤ k ∧ k ≤ 65536) : shlL n k = fitL (val n * 2 ^ k.toNat) ∧ shlE n k = fitE (val n * 2 ^ k.toNat) ∧ shrL n k = limbs (val n / 2 ^ k.toNat) ∧ movE n k = 0 := by
  rw [shlL, shlE, shrL, if_pos h, if_pos h, if_pos h]; exact ⟨rfl, rfl, rfl, (movE_zero n k).2 h⟩

theorem shl_len {n : List Int} (ln : lim n) (k : Nat) (hn : n.length ≤ 1000000) (hk : k ≤ 1000000) : (limbs (val n * 2 ^ k)).length ≤ 2000002 := by
  have hb := val_bound ln
  have h2 : (0 : Int) < 2 ^ k := Int.pow_pos (by omega)
  refine Nat.le_trans ((limbs_len_le (Int.mul_nonneg hb.1 (Int.le_of_lt h2)) (n.length + (k / 32 + 1))).2 ?_) (by omega)
  rw [pow_add']
  have h3 : (2 : Int) ^ k ≤ 4294967296 ^ (k / 32 + 1) := by
    rw [← two_pow_k k, pow_s]
    refine Int.mul_le_mul_of_nonneg_left ?_ (Int.le_of_lt (pow_pos' _))
    obtain ⟨a, b, c⟩ := pq_split (s := k % 32) (by omega)
    have : (2 : Int) ^ (k % 32) * 1 ≤ 2 ^ (k % 32) * 2 ^ (32 - k % 32) := Int.mul_le_mul_of_nonneg_left (by omega) (by omega)
    omega
  have h4 : val n * 2 ^ k ≤ val n * 4294967296 ^ (k / 32 + 1) := Int.mul_le_mul_of_nonneg_left h3 hb.1
  have h5 : val n * 4294967296 ^ (k / 32 + 1) < 4294967296 ^ n.length * 4294967296 ^ (k / 32 + 1) := Int.mul_lt_mul_of_pos_right hb.2 (pow_pos' _)
  omega

end Go.Vc
