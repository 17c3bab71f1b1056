/-
  Lists of limbs as numbers: plain laws.
-/
import Derived.Test.YtdlddbclcmecjaaDoorNat1
set_option linter.unusedVariables false
set_option linter.unusedSimpArgs false
namespace Go.Vc
open Go

theorem val_snoc (zs : List Int) (s : Int) : val (zs ++ [s]) = val zs + 4294967296 ^ zs.length * s := by
  rw [val_append]; simp [val]

theorem val_take_succ {xs : List Int} {i : Nat} {e : Int} (h : xs[i]? = some e) : val (xs.take (i + 1)) = val (xs.take i) + 4294967296 ^ i * e := by
  obtain ⟨h1, _⟩ := get_of_some h
  rw [take_step h, val_snoc, List.length_take, Nat.min_eq_left (by omega)]

theorem val_take_getD (xs : List Int) (i : Nat) : val (xs.take (i + 1)) = val (xs.take i) + 4294967296 ^ i * xs.getD i 0 := by
  by_cases h : i < xs.length
  · have : xs[i]? = some xs[i] := List.getElem?_eq_getElem h
    rw [val_take_succ this]; simp [List.getD, this]
  · rw [List.take_of_length_le (by omega), List.take_of_length_le (by omega)]
    simp [List.getD, List.getElem?_eq_none (by omega : xs.length ≤ i)]

theorem lim.getD {xs : List Int} (h : lim xs) (i : Nat) : 0 ≤ xs.getD i 0 ∧ xs.getD i 0 < 4294967296 := by
  by_cases hi : i < xs.length
  · have : xs[i]? = some xs[i] := List.getElem?_eq_getElem hi
    simp only [List.getD, this, Option.getD_some]; exact h.get this
  · simp [List.getD, List.getElem?_eq_none (by omega : xs.length ≤ i)]

theorem getD_of {xs : List Int} {i : Nat} {e : Int} (h : xs[i]? = some e) : xs.getD i 0 = e := by simp [List.getD, h]
theorem getD_out {xs : List Int} {i : Nat} (h : ¬ (i : Int) < xs.length) : xs.getD i 0 = 0 := by simp [List.getD, List.getElem?_eq_none (by omega : xs.length ≤ i)]

theorem lim.snoc {xs : List Int} {e : Int} (h : lim xs) (he : 0 ≤ e ∧ e < 4294967296) : lim (xs ++ [e]) := fun x hx => by
  rcases List.mem_append.1 hx with h1 | h1
  · exact h x h1
  · simp at h1; subst h1; exact he
theorem lim.append {xs ys : List Int} (h : lim xs) (h' : lim ys) : lim (xs ++ ys) := fun x hx => by
  rcases List.mem_append.1 hx with h1 | h1
  · exact h x h1
  · exact h' x h1
theorem lim.nil : lim [] := fun x hx => by cases hx
theorem lim.rep (n : Nat) : lim (List.replicate n 0) := fun x hx => by have := List.eq_of_mem_replicate hx; omega
theorem lim.set {xs : List Int} {e : Int} (h : lim xs) (i : Nat) (he : 0 ≤ e ∧ e < 4294967296) : lim (xs.set i e) := fun x hx => by
  rcases List.mem_or_eq_of_mem_set hx with h1 | rfl
  · exact h x h1
  · exact he

theorem pow_pos' (n : Nat) : (0 : Int) < 4294967296 ^ n := Int.pow_pos (by omega)
theorem pow_s (n : Nat) : (4294967296 : Int) ^ (n + 1) = 4294967296 ^ n * 4294967296 := Int.pow_succ _ _

theorem pow_mono {m n : Nat} (h : m ≤ n) : (4294967296 : Int) ^ m ≤ 4294967296 ^ n := by
  obtain ⟨k, rfl⟩ := Nat.le.dest h
  induction k with
  | zero => exact Int.le_refl _
  | succ k ih =>
    have h1 := ih (by omega)
    have h2 := pow_pos' (m + k)
    have h3 := pow_s (m + k)
    rw [show m + (k + 1) = m + k + 1 by omega]; omega

theorem set_rep (zs : List Int) (n i : Nat) (e x : Int) (hz : zs.length = i) (hi : i < n) : (zs ++ List.replicate (n - i) x).set i e = (zs ++ [e]) ++ List.replicate (n - (i + 1)) x := by
  rw [List.set_append, if_neg (by omega), hz, Nat.sub_self, show n - i = (n - (i + 1)) + 1 by omega, List.replicate_succ, List.set_cons_zero, List.append_assoc, List.singleton_append]

theorem val_rep (n : Nat) : val (List.replicate n 0) = 0 := val_zero fun x hx => List.eq_of_mem_replicate hx
theorem val_set {xs : List Int} {i : Nat} {e : Int} (h : xs[i]? = some e) (x : Int) : val (xs.set i x) = val xs + 4294967296 ^ i * (x - e) := by
  induction xs generalizing i with
  | nil => simp at h
  | cons a t ih =>
    cases i with
    | zero => simp at h; subst h; simp [val]; omega
    | succ i =>
      have := ih (by simpa using h)
      simp only [List.set_cons_succ, val, this, pow_s]
      rw [Int.mul_add, Int.mul_comm (4294967296 ^ i) 4294967296, Int.mul_assoc, Int.add_assoc]

/-! ### The one list of limbs of a number -/
def limbsN (n : Nat) : List Int := if h : n = 0 then [] else ((n % 4294967296 : Nat) : Int) :: limbsN (n / 4294967296)
termination_by n
decreasing_by omega
def limbs (v : Int) : List Int := limbsN v.toNat

theorem limbsN_zero : limbsN 0 = [] := by unfold limbsN; simp
theorem limbsN_pos {n : Nat} (h : n ≠ 0) : limbsN n = ((n % 4294967296 : Nat) : Int) :: limbsN (n / 4294967296) := by rw [limbsN]; simp [h]

theorem limbsN_spec (n : Nat) : lim (limbsN n) ∧ val (limbsN n) = n ∧ (limbsN n)[(limbsN n).length - 1]? ≠ some 0 := by
  induction n using Nat.strongRecOn with
  | ind n ih =>
    by_cases h : n = 0
    · subst h; rw [limbsN_zero]; exact ⟨lim.nil, rfl, by simp⟩
    · obtain ⟨h1, h2, h3⟩ := ih (n / 4294967296) (by omega)
      rw [limbsN_pos h]
      refine ⟨fun x hx => ?_, ?_, ?_⟩
      · rcases List.mem_cons.1 hx with rfl | hx
        · omega
        · exact h1 x hx
      · simp only [val, h2]; omega
      · by_cases hn : n / 4294967296 = 0
        · rw [hn, limbsN_zero]; simp; omega
        · rw [limbsN_pos hn] at h3 ⊢
          simpa using h3

theorem limbs_lim (v : Int) : lim (limbs v) := (limbsN_spec _).1
theorem limbs_val {v : Int} (h : 0 ≤ v) : val (limbs v) = v := by rw [limbs, (limbsN_spec _).2.1]; omega
theorem limbs_top (v : Int) : (limbs v)[(limbs v).length - 1]? ≠ some 0 := (limbsN_spec _).2.2
theorem limbs_zero : limbs 0 = [] := limbsN_zero

theorem limbs_of : ∀ {xs : List Int}, lim xs → xs[xs.length - 1]? ≠ some 0 → limbs (val xs) = xs
  | [], _, _ => limbs_zero
  | x :: xs, h, ht => by
    have hb := val_bound h.tail
    have hx := h.head
    have ht' : xs[xs.length - 1]? ≠ some 0 := by
      cases xs with
      | nil => simp
      | cons y ys => simpa using ht
    have ih := limbs_of h.tail ht'
    have hne : val (x :: xs) ≠ 0 := by
      intro e
      simp only [val] at e
      have e1 : val xs = 0 := by omega
      have e2 : x = 0 := by omega
      rw [e1, limbs_zero] at ih
      subst ih; simp at ht; exact ht e2
    have hv : val (x :: xs) = x + 4294967296 * val xs := rfl
    unfold limbs
    rw [limbsN_pos (by omega)]
    have a1 : (((val (x :: xs)).toNat % 4294967296 : Nat) : Int) = x := by omega
    have a2 : (val (x :: xs)).toNat / 4294967296 = (val xs).toNat := by omega
    rw [a1, a2]
    exact congrArg (x :: ·) ih

theorem trimL_top (xs : List Int) : (trimL xs)[(trimL xs).length - 1]? ≠ some 0 := by
  obtain ⟨n, h1, h2, h3, e⟩ := trimL_spec xs
  rw [e, List.length_take, Nat.min_eq_left h1]
  cases n with
  | zero => simp
  | succ n =>
    rw [Nat.add_sub_cancel, List.getElem?_take, if_pos (by omega)]
    exact h3 (by omega)

theorem trimL_limbs {xs : List Int} (h : lim xs) : trimL xs = limbs (val xs) := by
  rw [← limbs_of (trimL_lim h) (trimL_top xs), val_trimL]

theorem may_limbs {xs : List Int} (h : lim xs) (hm : may xs) : limbs (val xs) = xs := limbs_of h hm.2
theorem may_of_len {v : Int} (h : (limbs v).length ≤ 2048) : may (limbs v) := ⟨h, limbs_top v⟩
theorem may_trim {xs : List Int} (hm : may xs) (h : lim xs) : trimL xs = xs := by rw [trimL_limbs h, may_limbs h hm]

theorem limbs_len_le {v : Int} (h0 : 0 ≤ v) (k : Nat) : (limbs v).length ≤ k ↔ v < 4294967296 ^ k := by
  constructor
  · intro h
    have h1 := (val_bound (limbs_lim v)).2
    rw [limbs_val h0] at h1
    exact Int.lt_of_lt_of_le h1 (pow_mono h)
  · intro h
    refine Nat.le_of_not_lt fun hl => ?_
    have key : ∀ (xs : List Int), lim xs → xs[xs.length - 1]? ≠ some 0 → xs ≠ [] → (4294967296 : Int) ^ (xs.length - 1) ≤ val xs := by
      intro xs
      induction xs with
      | nil => intro _ _ h; exact absurd rfl h
      | cons x xs ih =>
        intro hl ht _
        have hx := hl.head
        cases xs with
        | nil => simp [val] at ht ⊢; omega
        | cons y ys =>
          have := ih hl.tail (by simpa using ht) (by simp)
          simp only [List.length_cons, Nat.add_sub_cancel, val] at this ⊢
          rw [pow_s]
          omega
    have := key (limbs v) (limbs_lim v) (limbs_top v) (by intro e; rw [e] at hl; simp at hl)
    rw [limbs_val h0] at this
    have h2 : (4294967296 : Int) ^ k ≤ 4294967296 ^ ((limbs v).length - 1) := pow_mono (by omega)
    omega

theorem limbs_inj {a b : Int} (ha : 0 ≤ a) (hb : 0 ≤ b) (h : limbs a = limbs b) : a = b := by rw [← limbs_val ha, h, limbs_val hb]
theorem val_inj {xs ys : List Int} (hx : lim xs) (hy : lim ys) (tx : xs[xs.length - 1]? ≠ some 0) (ty : ys[ys.length - 1]? ≠ some 0) (h : val xs = val ys) : xs = ys := by
  rw [← limbs_of hx tx, h, limbs_of hy ty]

end Go.Vc
