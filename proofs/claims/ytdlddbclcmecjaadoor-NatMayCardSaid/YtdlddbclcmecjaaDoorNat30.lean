/-
  The lowest 1 of a limb by the table: TrailingZeros32, walked with the kit's own words; Tail, Bit, Uint, Ones.
-/
import Derived.Test.YtdlddbclcmecjaaDoorNat29
import Derived.WalkKit
set_option linter.unusedVariables false
set_option linter.unusedSimpArgs false
namespace Go.Vc
open Go
open Go.Proofs

theorem and_u32 (a b : Nat) (ha : a < 4294967296) (hb : b < 4294967296) : bits .and .u32 (a : Int) (b : Int) = ((a &&& b : Nat) : Int) := by
  have hx : a &&& b < 2 ^ 32 := Nat.and_lt_two_pow _ (by omega)
  have h1 : (BitVec.ofInt 32 (a : Int)).toNat = a := by
    rw [BitVec.ofInt_natCast, BitVec.toNat_ofNat]; exact Nat.mod_eq_of_lt (by omega)
  have h2 : (BitVec.ofInt 32 (b : Int)).toNat = b := by
    rw [BitVec.ofInt_natCast, BitVec.toNat_ofNat]; exact Nat.mod_eq_of_lt (by omega)
  show IntKind.u32.wrap ((BitVec.ofInt 32 (a : Int) &&& BitVec.ofInt 32 (b : Int)).toNat : Int) = _
  have e : ∀ n : Int, IntKind.u32.wrap n = n % 4294967296 := fun n => by simp [IntKind.wrap, IntKind.signed, IntKind.bits]
  rw [BitVec.toNat_and, h1, h2, e]
  omega

theorem tz_key (x a : Nat) (hx : x < 4294967296) (h0 : x ≠ 0) (h : x &&& (2 ^ 32 - x) = a) : bits BinOp.and IntKind.u32 (x : Int) (-(x : Int) % 4294967296) * 125613361 % 4294967296 / 134217728 = ((a * 125613361 % 4294967296 / 134217728 : Nat) : Int) := by
  have e : -(x : Int) % 4294967296 = ((4294967296 - x : Nat) : Int) := by omega
  rw [e, and_u32 x _ hx (by omega), show (4294967296 : Nat) - x = 2 ^ 32 - x from rfl, h]
  omega

set_option maxHeartbeats 1000000 in
theorem tz_core (x k idx : Nat) (w : World) (hx0 : ((x : Int) == 0) = false) (key : bits BinOp.and IntKind.u32 (x : Int) (-(x : Int) % 4294967296) * 125613361 % 4294967296 / 134217728 = (idx : Int))
    (hi : idx < 32) (hk : k < 32) (hcell : w.cell? ⟨0, idx, none⟩ = some (.int .u8 k)) : Calls Tryd.prog 21 #[.int .u32 x] w fun e w' => e = .returned (.int .i64 k) ∧ w' = w := by
  go_enter Tryd.func21, Tryd.ntmps21
  go_wp2_with (simp only [key])
  go_ret
  exact ⟨rfl, rfl⟩
theorem tz_none (w : World) : Calls Tryd.prog 21 #[.int .u32 0] w fun e w' => e = .returned (.int .i64 32) ∧ w' = w := by
  go_enter Tryd.func21, Tryd.ntmps21
  go_wp2
  go_ret
  exact ⟨rfl, rfl⟩

def tzR (x : Int) : Int := if x = 0 then 32 else (tzF 32 x.toNat : Nat)
theorem tz_walk (w : World) (x : Int) (hx : 0 ≤ x ∧ x < 4294967296) (hg : Glob w) : Calls Tryd.prog 21 #[.int .u32 x] w fun e w' => e = .returned (.int .i64 (tzR x)) ∧ w' = w := by
  obtain ⟨n, rfl⟩ := Int.eq_ofNat_of_zero_le hx.1
  by_cases h0 : n = 0
  · subst h0; exact tz_none w
  · have ht := tzF_lt (k := 32) (x := n) h0 (by omega)
    have hb := and_neg 32 n h0 (by omega)
    have hc := hg _ _ (tz_table _ ht)
    have hi : 2 ^ tzF 32 n * 125613361 % 4294967296 / 134217728 < 32 := by omega
    have hn : ¬ (n : Int) = 0 := by omega
    rw [tzR, if_neg hn, Int.toNat_natCast]
    exact tz_core n _ _ w (by simpa using h0) (tz_key n _ (by omega) h0 hb) hi ht hc

theorem bits_TrailingZeros32 (x : Int) : FSpec0 Tryd.prog 21 [.int .u32 x] (fun r => r = .int .i64 (tzR x)) := by
  intro w S ρ xs hH
  have h1 := hH.args 0 _ rfl
  have hs := hH.size
  obtain ⟨e1, hx⟩ : xs.getD 0 undef = .int .u32 x ∧ inK .u32 x := h1
  obtain rfl : xs = #[.int .u32 x] := by
    refine Array.ext (by simpa using hs) fun i h2 h3 => ?_
    have : i = 0 := by simp at h3; omega
    subst this
    simpa [Array.getD, h2] using e1
  refine (tz_walk w x hx hH.glob.1).mono ?_
  rintro e w' ⟨rfl, rfl⟩
  refine ⟨_, [], _, ρ, rfl, ⟨rfl, rfl⟩, Ext.refl _ _, ?_, (fun i ob h => by cases h), (fun i j g c d h => absurd rfl h), (fun i g c h => absurd rfl h), (fun i h => absurd rfl h), (fun i ob h => by cases h), (fun i ob ob' h => by cases h), (fun i g c h => absurd rfl h)⟩
  refine ⟨rfl, ?_⟩
  unfold tzR
  split
  · simp [inK]
  · have := tzF_lt (k := 32) (x := x.toNat) (by simp [inK] at hx; omega) (by simp [inK] at hx; omega)
    simp only [inK]; omega

end Go.Vc
