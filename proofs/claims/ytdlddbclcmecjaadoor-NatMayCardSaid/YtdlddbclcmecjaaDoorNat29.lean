/-
  Ones and Tail by bits; the lowest 1 of a limb (plain laws).
-/
import Derived.Test.YtdlddbclcmecjaaDoorNat16
import Derived.Test.YtdlddbclcmecjaaDoorNat24b
set_option linter.unusedVariables false
set_option linter.unusedSimpArgs false
namespace Go.Vc
open Go
open Go.Proofs

/-! ### one limb -/
/-- zeros below the lowest 1; k, if there is none below place k -/
def tzF : Nat → Nat → Nat
  | 0, _ => 0
  | k + 1, x => if x % 2 = 1 then 0 else 1 + tzF k (x / 2)

theorem tzF_lt {k x : Nat} (h0 : x ≠ 0) (h : x < 2 ^ k) : tzF k x < k := by
  induction k generalizing x with
  | zero => simp at h; omega
  | succ k ih =>
    rw [Nat.pow_succ] at h
    simp only [tzF]
    split
    · omega
    · have := ih (x := x / 2) (by omega) (by omega)
      omega
theorem tzF_bit {k x : Nat} (h0 : x ≠ 0) (h : x < 2 ^ k) : x / 2 ^ tzF k x % 2 = 1 ∧ ∀ j, j < tzF k x → x / 2 ^ j % 2 = 0 := by
  induction k generalizing x with
  | zero => simp at h; omega
  | succ k ih =>
    rw [Nat.pow_succ] at h
    simp only [tzF]
    split
    · exact ⟨by simpa using (by assumption : x % 2 = 1), fun j hj => by omega⟩
    · obtain ⟨h1, h2⟩ := ih (x := x / 2) (by omega) (by omega)
      refine ⟨by rw [Nat.add_comm, Nat.pow_succ, Nat.mul_comm, ← Nat.div_div_eq_div_mul]; exact h1, fun j hj => ?_⟩
      cases j with
      | zero => simp; omega
      | succ j => rw [Nat.pow_succ, Nat.mul_comm, ← Nat.div_div_eq_div_mul]; exact h2 j (by omega)

theorem and_comp (k : Nat) : ∀ a : Nat, a < 2 ^ k → a &&& (2 ^ k - 1 - a) = 0 := by
  induction k with
  | zero => intro a h; simp at h; subst h; rfl
  | succ k ih =>
    intro a h
    have h' := h
    rw [Nat.pow_succ] at h
    have h1 := ih (a / 2) (by omega)
    have d := and2 a (2 ^ (k + 1) - 1 - a)
    have m := andm a (2 ^ (k + 1) - 1 - a)
    have e : (2 ^ (k + 1) - 1 - a) / 2 = 2 ^ k - 1 - a / 2 := by rw [Nat.pow_succ]; omega
    rw [e, h1] at d
    have m0 : a % 2 * ((2 ^ (k + 1) - 1 - a) % 2) = 0 := by
      rw [Nat.pow_succ]
      rcases Nat.mod_two_eq_zero_or_one a with x | x
      · rw [x, Nat.zero_mul]
      · rw [show (2 ^ k * 2 - 1 - a) % 2 = 0 by omega, Nat.mul_zero]
    rw [m0] at m
    omega
theorem and_neg (k : Nat) : ∀ x : Nat, x ≠ 0 → x < 2 ^ k → x &&& (2 ^ k - x) = 2 ^ tzF k x := by
  induction k with
  | zero => intro x h0 h; simp at h; omega
  | succ k ih =>
    intro x h0 h
    have h' := h
    rw [Nat.pow_succ] at h
    have d := and2 x (2 ^ (k + 1) - x)
    have m := andm x (2 ^ (k + 1) - x)
    simp only [tzF]
    split
    · rename_i h1
      have e : (2 ^ (k + 1) - x) / 2 = 2 ^ k - 1 - x / 2 := by rw [Nat.pow_succ]; omega
      rw [e, and_comp k (x / 2) (by omega)] at d
      have m1 : x % 2 * ((2 ^ (k + 1) - x) % 2) = 1 := by rw [Nat.pow_succ, h1, show (2 ^ k * 2 - x) % 2 = 1 by omega]
      rw [m1] at m
      omega
    · rename_i h1
      have e : (2 ^ (k + 1) - x) / 2 = 2 ^ k - x / 2 := by rw [Nat.pow_succ]; omega
      rw [e, ih (x / 2) (by omega) (by omega)] at d
      have m1 : x % 2 * ((2 ^ (k + 1) - x) % 2) = 0 := by rw [show x % 2 = 0 by omega, Nat.zero_mul]
      rw [m1] at m
      rw [show 1 + tzF k (x / 2) = tzF k (x / 2) + 1 from Nat.add_comm _ _, Nat.pow_succ 2 (tzF k (x / 2))]
      omega

theorem pop_bits (k x : Nat) : popF k x = ((List.range k).map fun j => x / 2 ^ j % 2).sum := by
  induction k generalizing x with
  | zero => rfl
  | succ k ih =>
    rw [List.range_succ_eq_map, List.map_cons, List.sum_cons, List.map_map, popF, ih]
    congr 1
    · simp
    · congr 1
      refine List.map_congr_left fun j _ => ?_
      simp only [Function.comp, Nat.succ_eq_add_one]
      rw [Nat.pow_succ, Nat.mul_comm, Nat.div_div_eq_div_mul]

/-! ### a list of limbs -/
def bitL (n : List Int) (i : Nat) : Int := n.getD (i / 32) 0 / 2 ^ (i % 32) % 2
theorem bitL_range (n : List Int) (i : Nat) : bitL n i = 0 ∨ bitL n i = 1 := by unfold bitL; omega
def sumB (n : List Int) (k : Nat) : Int := ((List.range k).map (bitL n)).sum
theorem sumB_succ (n : List Int) (k : Nat) : sumB n (k + 1) = sumB n k + bitL n k := by simp [sumB, List.range_succ]
theorem sumB_le (n : List Int) (k : Nat) : 0 ≤ sumB n k ∧ sumB n k ≤ k := by
  induction k with
  | zero => simp [sumB]
  | succ k ih => rw [sumB_succ]; have := bitL_range n k; omega

theorem sum_ofNat (L : List Nat) : ((L.sum : Nat) : Int) = (L.map fun (x : Nat) => (x : Int)).sum := by
  induction L with
  | nil => rfl
  | cons x L ih => simp only [List.sum_cons, List.map_cons]; omega

theorem sumB_limb {n : List Int} (ln : lim n) (i : Nat) : sumB n (32 * i + 32) = sumB n (32 * i) + ((popF 32 (n.getD i 0).toNat : Nat) : Int) := by
  unfold sumB
  rw [List.range_add, List.map_append, List.sum_append, List.map_map, pop_bits, sum_ofNat, List.map_map]
  congr 2
  refine List.map_congr_left fun j hj => ?_
  have hj : j < 32 := List.mem_range.1 hj
  simp only [Function.comp, bitL]
  rw [show (32 * i + j) / 32 = i by omega, show (32 * i + j) % 32 = j by omega]
  have h := ln.getD i
  push_cast
  rw [Int.toNat_of_nonneg h.1]

theorem sumB_ones {n : List Int} (ln : lim n) : ∀ i, i ≤ n.length → sumB n (32 * i) = onesL (n.take i) := fun i => by
  induction i with
  | zero => intro _; simp [sumB, onesL]
  | succ i ih =>
    intro h
    have hg : n[i]? = some n[i] := List.getElem?_eq_getElem (by omega)
    rw [show 32 * (i + 1) = 32 * i + 32 by omega, sumB_limb ln, ih (by omega), take_step hg, onesL_append, getD_of hg]
    simp [onesL]

/-- zeros below the lowest 1 -/
def tailL : List Int → Int
  | [] => 0
  | x :: t => if x ≠ 0 then (tzF 32 x.toNat : Nat) else if (t.all fun y => y == 0) = true then 0 else 32 + tailL t
def tailR (n : List Int) : Int := if may n then tailL n else 0

theorem tailL_at {n : List Int} (ln : lim n) : ∀ (i : Nat) (e : Int), n[i]? = some e → e ≠ 0 → (∀ x, x ∈ n.take i → x = 0) → tailL n = 32 * i + (tzF 32 e.toNat : Nat) := fun i => by
  induction i generalizing n with
  | zero =>
    intro e he h0 _
    cases n with
    | nil => simp at he
    | cons x t => simp at he; subst he; simp [tailL, h0]
  | succ i ih =>
    intro e he h0 hz
    cases n with
    | nil => simp at he
    | cons x t =>
      have hx : x = 0 := hz x (by simp)
      subst hx
      have he : t[i]? = some e := by simpa using he
      have hne : ¬ (t.all fun y => y == 0) = true := fun h => h0 (by simpa using List.all_eq_true.1 h e (List.mem_of_getElem? he))
      have := ih ln.tail e he h0 (fun x hx => hz x (by simp [hx]))
      simp only [tailL, ne_eq, not_true_eq_false, if_false, if_neg hne, this]
      push_cast; omega
theorem tailL_zero {n : List Int} (h : ∀ x, x ∈ n → x = 0) : tailL n = 0 := by
  cases n with
  | nil => rfl
  | cons x t =>
    have hx : x = 0 := h x (by simp)
    have ht : (t.all fun y => y == 0) = true := List.all_eq_true.2 fun y hy => by simpa using h y (by simp [hy])
    simp [tailL, hx, ht]

/-- the first place that holds a 1 -/
theorem tail_bits {n : List Int} (ln : lim n) (i : Nat) (h1 : bitL n i = 1) (h0 : ∀ j, j < i → bitL n j = 0) : tailL n = i := by
  have hne : n.getD (i / 32) 0 ≠ 0 := fun e => by rw [bitL, e] at h1; simp at h1
  have hlt : i / 32 < n.length := Nat.lt_of_not_le fun h => hne (getD_out (by omega))
  have hg : n[i / 32]? = some n[i / 32] := List.getElem?_eq_getElem hlt
  have hgd := getD_of hg
  have L := ln.get hg
  -- limbs below are 0
  have zero : ∀ k, k < i / 32 → n.getD k 0 = 0 := fun k hk => by
    refine Classical.byContradiction fun hn => ?_
    have L2 := ln.getD k
    obtain ⟨b1, _⟩ := tzF_bit (k := 32) (x := (n.getD k 0).toNat) (by omega) (by omega)
    have b2 := tzF_lt (k := 32) (x := (n.getD k 0).toNat) (by omega) (by omega)
    have := h0 (32 * k + tzF 32 (n.getD k 0).toNat) (by omega)
    unfold bitL at this
    rw [show (32 * k + tzF 32 (n.getD k 0).toNat) / 32 = k by omega, show (32 * k + tzF 32 (n.getD k 0).toNat) % 32 = tzF 32 (n.getD k 0).toNat by omega] at this
    have e : (((n.getD k 0).toNat / 2 ^ tzF 32 (n.getD k 0).toNat % 2 : Nat) : Int) = n.getD k 0 / 2 ^ tzF 32 (n.getD k 0).toNat % 2 := by push_cast; rw [Int.toNat_of_nonneg L2.1]
    omega
  have hz : ∀ x, x ∈ n.take (i / 32) → x = 0 := fun x hx => by
    obtain ⟨k, hk⟩ := List.getElem?_of_mem hx
    rw [List.getElem?_take] at hk
    split at hk
    · have := zero k (by assumption); rw [getD_of hk] at this; exact this
    · cases hk
  rw [hgd] at hne
  rw [tailL_at ln (i / 32) _ hg hne hz]
  obtain ⟨b1, b2⟩ := tzF_bit (k := 32) (x := (n[i / 32]).toNat) (by omega) (by omega)
  have b3 := tzF_lt (k := 32) (x := (n[i / 32]).toNat) (by omega) (by omega)
  generalize tzF 32 (n[i / 32]).toNat = t at *
  have key : ∀ j, ((n[i / 32].toNat / 2 ^ j % 2 : Nat) : Int) = n[i / 32] / 2 ^ j % 2 := fun j => by push_cast; rw [Int.toNat_of_nonneg L.1]
  have ht : t = i % 32 := by
    rcases (by omega : t < i % 32 ∨ t = i % 32 ∨ i % 32 < t) with h | h | h
    · have := h0 (32 * (i / 32) + t) (by omega)
      unfold bitL at this
      rw [show (32 * (i / 32) + t) / 32 = i / 32 by omega, show (32 * (i / 32) + t) % 32 = t by omega, hgd] at this
      have := key t; omega
    · exact h
    · have h5 := b2 _ h
      unfold bitL at h1
      rw [hgd] at h1
      have := key (i % 32); omega
  omega

/-- the table of TrailingZeros32 -/
def tzTab : List Int := [0, 1, 28, 2, 29, 14, 24, 3, 30, 22, 20, 15, 25, 17, 4, 8, 31, 27, 13, 23, 21, 19, 16, 7, 26, 12, 18, 6, 11, 5, 10, 9]
theorem tz_table : ∀ t : Nat, t < 32 → tzTab[2 ^ t * 125613361 % 4294967296 / 134217728]? = some (t : Int) := by decide

end Go.Vc
