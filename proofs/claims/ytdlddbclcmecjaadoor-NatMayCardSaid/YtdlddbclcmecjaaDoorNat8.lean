/-
  Comparisons.
-/
import Derived.Test.YtdlddbclcmecjaaDoorNat4
set_option linter.unusedVariables false
set_option linter.unusedSimpArgs false
namespace Go.Vc
open Go
open Go.Proofs



def cmpI (a b : Int) : Int := if a < b then -1 else if b < a then 1 else 0
def top (xs : List Int) : Prop := xs[xs.length - 1]? ≠ some 0
theorem top_may {xs : List Int} (h : may xs) : top xs := h.2
theorem top_limbs (v : Int) : top (limbs v) := limbs_top v

theorem val_top : ∀ {xs : List Int}, lim xs → top xs → xs ≠ [] → (4294967296 : Int) ^ (xs.length - 1) ≤ val xs
  | [], _, _, h => absurd rfl h
  | [x], hl, ht, _ => by
    have hx := hl.head
    simp [top, val] at ht ⊢; omega
  | x :: y :: ys, hl, ht, _ => by
    have hx := hl.head
    have := val_top (xs := y :: ys) hl.tail (by simpa [top] using ht) (by simp)
    simp only [List.length_cons, Nat.add_sub_cancel, val] at this ⊢
    rw [pow_s]
    omega

theorem val_lt_len {xs ys : List Int} (hx : lim xs) (hy : lim ys) (ty : top ys) (h : xs.length < ys.length) : val xs < val ys := by
  have h1 := (val_bound hx).2
  have h2 := val_top hy ty (by intro e; subst e; simp at h)
  have h3 : (4294967296 : Int) ^ xs.length ≤ 4294967296 ^ (ys.length - 1) := pow_mono (by omega)
  omega

theorem val_split (xs : List Int) (i : Nat) (hi : i ≤ xs.length) : val xs = val (xs.take i) + 4294967296 ^ i * val (xs.drop i) := by
  conv => lhs; rw [← List.take_append_drop i xs, val_append, List.length_take, Nat.min_eq_left hi]

theorem val_lt_at {xs ys : List Int} (hx : lim xs) (hy : lim ys) {i : Nat} {a b : Int} (ha : xs[i]? = some a) (hb : ys[i]? = some b) (hd : xs.drop (i + 1) = ys.drop (i + 1)) (h : a < b) : val xs < val ys := by
  obtain ⟨h1, _⟩ := get_of_some ha
  obtain ⟨h2, _⟩ := get_of_some hb
  rw [val_split xs i (by omega), val_split ys i (by omega), val_drop ha, val_drop hb, hd]
  have b1 := (val_bound (hx.take i)).2
  have b2 := (val_bound (hy.take i)).1
  rw [List.length_take, Nat.min_eq_left (by omega)] at b1
  have hp := pow_pos' i
  have : (4294967296 : Int) ^ i * (a + 1) ≤ 4294967296 ^ i * b := Int.mul_le_mul_of_nonneg_left (by omega) (by omega)
  rw [Int.mul_add] at this ⊢
  rw [Int.mul_add]
  omega

theorem cmp_lt {a b : Int} (h : a < b) : cmpI a b = -1 := by simp [cmpI, h]
theorem cmp_gt {a b : Int} (h : b < a) : cmpI a b = 1 := by unfold cmpI; rw [if_neg (by omega), if_pos h]
theorem cmp_eq {a b : Int} (h : a = b) : cmpI a b = 0 := by subst h; simp [cmpI]

theorem drop_step {α : Type} {xs ys : List α} {i : Nat} {e : α} (h : xs[i]? = some e) (h' : ys[i]? = some e) (hd : xs.drop (i + 1) = ys.drop (i + 1)) : xs.drop i = ys.drop i := by
  obtain ⟨h1, rfl⟩ := get_of_some h
  obtain ⟨h2, e2⟩ := get_of_some h'
  rw [List.drop_eq_getElem_cons h1, List.drop_eq_getElem_cons h2, hd, e2]

def cmpR (a b : List Int) : Int := if may a ∧ may b then cmpI (val a) (val b) else 0

theorem all_two (a b : List Int) : (∀ x, x ∈ [a, b] → may x) = (may a ∧ may b) := by simp

end Go.Vc
