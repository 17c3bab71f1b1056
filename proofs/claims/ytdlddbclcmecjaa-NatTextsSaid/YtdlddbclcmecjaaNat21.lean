/-
  Print: the program's and the document's.
-/
import Derived.Test.YtdlddbclcmecjaaNat20
import Derived.Test.YtdlddbclcmecjaaNat18
set_option linter.unusedVariables false
set_option linter.unusedSimpArgs false
namespace Go.Vc
open Go
open Go.Proofs

/- natural.Print: arguments 2, results in [4, 5]; slots in use where its loops begin: [[1, 6, 7, 8, 9], [1, 6, 7, 8, 10, 11, 12], [8, 13, 14]] -/
def tb34_0 : ByteArray := ⟨#[48, 49, 50, 51, 52, 53, 54, 55, 56, 57, 97, 98, 99, 100, 101, 102, 103, 104, 105, 106, 107, 108, 109, 110, 111, 112, 113, 114, 115, 116, 117, 118, 119, 120, 121, 122]⟩
def c34 : MC := .seq (.ops [ .op (some 4) none (.p (.mv (.s ⟨#[]⟩))), .op (some 5) none (.p (.mv (.i .i64 (0)))), .gh (.drop [4, 5])]) (.seq (.block 0 (.seq (.ops [ .op (some 16) none (.p (.mv (.t 0))), .op (some 17) none (.call 79 [(.t 16)]), .op (some 18) none (.p (.un .not (.t 17))), .op (some 15) none (.p (.mv (.t 18))), .gh (.drop [16, 17, 18])]) (.cond (.t 15) (.seq (.ops [ .op (some 4) none (.p (.mv (.s ⟨#[]⟩))), .op (some 5) none (.p (.mv (.i .i64 (20))))]) (.ret)) (.seq (.ops [ .op (some 20) none (.p (.mv (.t 1))), .op (some 21) none (.p (.bin .lss (.t 20) (.i .i64 (2)))), .op (some 22) none (.p (.mv (.t 21))), .op (some 23) (some (22, false)) (.p (.mv (.t 1))), .op (some 24) (some (22, false)) (.p (.bin .gtr (.t 23) (.i .i64 (36)))), .op (some 25) none (.pick (.t 22) (.b true) (.t 24)), .op (some 19) none (.p (.mv (.t 25))), .gh (.drop [20, 21, 22, 23, 24, 25])]) (.cond (.t 19) (.seq (.ops [ .op (some 4) none (.p (.mv (.s ⟨#[]⟩))), .op (some 5) none (.p (.mv (.i .i64 (22))))]) (.ret)) (.seq (.ops [ .op (some 27) none (.p (.mv (.t 0))), .op (some 28) none (.p (.len (.t 27))), .op (some 29) none (.p (.bin .eql (.t 28) (.i .i64 (0)))), .op (some 26) none (.p (.mv (.t 29))), .gh (.drop [27, 28, 29])]) (.cond (.t 26) (.seq (.ops [ .op (some 4) none (.p (.mv (.s ⟨#[48]⟩))), .op (some 5) none (.p (.mv (.i .i64 (0))))]) (.ret)) (.skip)))))))) (.seq (.ops [ .op (some 31) none (.p (.mv (.t 1))), .op (some 32) none (.call 93 [(.t 31)]), .op (some 30) none (.p (.mv (.t 32))), .op (some 33) none (.p (.ex (.t 30) 0)), .op (some 34) none (.p (.ex (.t 30) 1)), .op (some 6) none (.p (.mv (.t 33))), .op (some 7) none (.p (.mv (.t 34))), .gh (.drop [30, 31, 32, 33, 34])]) (.seq (.ops [ .op (some 8) none (.p (.mv .nil))]) (.seq (.seq (.ops [ .op (some 35) none (.p (.mv (.t 0))), .op (some 36) none (.call 81 [(.t 35)]), .op (some 9) none (.p (.mv (.t 36))), .gh (.drop [0, 35, 36])]) (.cut (.block 1 (.loop (.seq (.seq (.ops [ .op (some 37) none (.p (.mv (.t 9))), .op (some 38) none (.p (.len (.t 37))), .op (some 39) none (.p (.bin .gtr (.t 38) (.i .i64 (0)))), .gh (.drop [37, 38])]) (.cond (.t 39) (.skip) (.exit 1))) (.block 2 (.seq (.ops [ .op (some 41) none (.p (.mv (.t 9))), .op (some 42) none (.p (.mv (.t 6))), .op (some 43) none (.call 94 [(.t 41), (.t 42)]), .op (some 40) none (.p (.mv (.t 43))), .op (some 44) none (.p (.ex (.t 40) 0)), .op (some 45) none (.p (.ex (.t 40) 1)), .op (some 10) none (.p (.mv (.t 44))), .op (some 11) none (.p (.mv (.t 45))), .gh (.drop [9, 40, 41, 42, 43, 44, 45])]) (.seq (.seq (.ops [ .op (some 12) none (.p (.mv (.i .i64 (0))))]) (.cut (.block 3 (.loop (.seq (.seq (.ops [ .op (some 46) none (.p (.mv (.t 12))), .op (some 47) none (.p (.mv (.t 7))), .op (some 48) none (.p (.bin .lss (.t 46) (.t 47))), .op (some 49) none (.p (.mv (.t 48))), .op (some 50) (some (49, true)) (.p (.mv (.t 10))), .op (some 51) (some (49, true)) (.p (.len (.t 50))), .op (some 52) (some (49, true)) (.p (.bin .gtr (.t 51) (.i .i64 (0)))), .op (some 53) (some (49, true)) (.p (.mv (.t 52))), .op (some 54) (some (53, false)) (.p (.mv (.t 11))), .op (some 55) (some (53, false)) (.p (.bin .gtr (.t 54) (.i .u32 (0)))), .op (some 56) (some (49, true)) (.pick (.t 53) (.b true) (.t 55)), .op (some 57) none (.pick (.t 49) (.t 56) (.b false)), .gh (.drop [46, 47, 48, 49, 50, 51, 52, 53, 54, 55, 56])]) (.cond (.t 57) (.skip) (.exit 3))) (.seq (.block 4 (.seq (.ops [ .op (some 60) none (.p (.mv (.t 8))), .op (some 61) none (.p (.mv (.t 11))), .op (some 62) none (.p (.mv (.t 1))), .op (some 63) none (.p (.cv .u32 (.t 62))), .op (some 64) none (.p (.bin .rem (.t 61) (.t 63))), .op (some 65) none (.p (.ix (.s tb34_0) (.t 64))), .op (some 66) none (.w (.bs 5 1 [(.t 65)])), .op (some 67) none (.w (.ap 5 1 1 (encI .u8) (.t 60) (.t 66))), .op (some 8) none (.p (.mv (.t 67))), .gh (.drop [60, 61, 62, 63, 64, 65, 66, 67])]) (.ops [ .op (some 68) none (.p (.mv (.t 11))), .op (some 69) none (.p (.mv (.t 1))), .op (some 70) none (.p (.cv .u32 (.t 69))), .op (some 71) none (.p (.bin .quo (.t 68) (.t 70))), .op (some 11) none (.p (.mv (.t 71))), .gh (.drop [68, 69, 70, 71])]))) (.ops [ .op (some 58) none (.p (.mv (.t 12))), .op (some 59) none (.p (.bin .add (.t 58) (.i .i64 (1)))), .op (some 12) none (.p (.mv (.t 59))), .gh (.drop [58, 59])]))))))) (.ops [ .op (some 72) none (.p (.mv (.t 10))), .op (some 9) none (.p (.mv (.t 72))), .gh (.drop [10, 72])]))))))))) (.seq (.seq (.ops [ .op (some 73) none (.p (.mv (.t 8))), .op (some 74) none (.p (.len (.t 73))), .op (some 75) none (.p (.bin .sub (.t 74) (.i .i64 (1)))), .op (some 13) none (.p (.mv (.i .i64 (0)))), .op (some 14) none (.p (.mv (.t 75))), .gh (.drop [73, 74, 75])]) (.cut (.block 5 (.loop (.seq (.seq (.ops [ .op (some 76) none (.p (.mv (.t 13))), .op (some 77) none (.p (.mv (.t 14))), .op (some 78) none (.p (.bin .lss (.t 76) (.t 77))), .gh (.drop [76, 77])]) (.cond (.t 78) (.skip) (.exit 5))) (.seq (.block 6 (.dr (.op 0 (.op (some 83) none (.p (.mv (.t 8)))) (.op 1 (.op (some 84) none (.p (.mv (.t 13)))) (.op 2 (.op (some 85) none (.p (.mv (.t 8)))) (.op 3 (.op (some 86) none (.p (.mv (.t 14)))) (.op 4 (.op (some 87) none (.p (.mv (.t 8)))) (.op 5 (.op (some 88) none (.p (.mv (.t 14)))) (.op 8 (.op (some 91) none (.p (.mv (.t 8)))) (.op 9 (.op (some 92) none (.p (.mv (.t 13)))) (.alt (.op 6 (.op (some 89) none (.p (.ia 1 (.t 87) (.t 88)))) (.alt (.op 7 (.op (some 90) none (.p (.ld 1 false (.t 89)))) (.op 10 (.op (some 93) none (.p (.ia 1 (.t 91) (.t 92)))) (.op 11 (.op (some 94) none (.p (.ld 1 false (.t 93)))) (.op 12 (.op (some 95) none (.p (.ia 1 (.t 83) (.t 84)))) (.op 13 (.op none none (.w (.st 1 (.t 95) (.t 90)))) (.op 14 (.op (some 96) none (.p (.ia 1 (.t 85) (.t 86)))) (.op 15 (.op none none (.w (.st 1 (.t 96) (.t 94)))) (.nil)))))))) (.op 10 (.op (some 93) none (.p (.ia 1 (.t 91) (.t 92)))) (.alt (.op 7 (.op (some 90) none (.p (.ld 1 false (.t 89)))) (.op 11 (.op (some 94) none (.p (.ld 1 false (.t 93)))) (.op 12 (.op (some 95) none (.p (.ia 1 (.t 83) (.t 84)))) (.op 13 (.op none none (.w (.st 1 (.t 95) (.t 90)))) (.op 14 (.op (some 96) none (.p (.ia 1 (.t 85) (.t 86)))) (.op 15 (.op none none (.w (.st 1 (.t 96) (.t 94)))) (.nil))))))) (.op 11 (.op (some 94) none (.p (.ld 1 false (.t 93)))) (.op 7 (.op (some 90) none (.p (.ld 1 false (.t 89)))) (.op 12 (.op (some 95) none (.p (.ia 1 (.t 83) (.t 84)))) (.op 13 (.op none none (.w (.st 1 (.t 95) (.t 90)))) (.op 14 (.op (some 96) none (.p (.ia 1 (.t 85) (.t 86)))) (.op 15 (.op none none (.w (.st 1 (.t 96) (.t 94)))) (.nil))))))))))) (.op 10 (.op (some 93) none (.p (.ia 1 (.t 91) (.t 92)))) (.alt (.op 6 (.op (some 89) none (.p (.ia 1 (.t 87) (.t 88)))) (.alt (.op 7 (.op (some 90) none (.p (.ld 1 false (.t 89)))) (.op 11 (.op (some 94) none (.p (.ld 1 false (.t 93)))) (.op 12 (.op (some 95) none (.p (.ia 1 (.t 83) (.t 84)))) (.op 13 (.op none none (.w (.st 1 (.t 95) (.t 90)))) (.op 14 (.op (some 96) none (.p (.ia 1 (.t 85) (.t 86)))) (.op 15 (.op none none (.w (.st 1 (.t 96) (.t 94)))) (.nil))))))) (.op 11 (.op (some 94) none (.p (.ld 1 false (.t 93)))) (.op 7 (.op (some 90) none (.p (.ld 1 false (.t 89)))) (.op 12 (.op (some 95) none (.p (.ia 1 (.t 83) (.t 84)))) (.op 13 (.op none none (.w (.st 1 (.t 95) (.t 90)))) (.op 14 (.op (some 96) none (.p (.ia 1 (.t 85) (.t 86)))) (.op 15 (.op none none (.w (.st 1 (.t 96) (.t 94)))) (.nil))))))))) (.op 11 (.op (some 94) none (.p (.ld 1 false (.t 93)))) (.op 6 (.op (some 89) none (.p (.ia 1 (.t 87) (.t 88)))) (.op 7 (.op (some 90) none (.p (.ld 1 false (.t 89)))) (.op 12 (.op (some 95) none (.p (.ia 1 (.t 83) (.t 84)))) (.op 13 (.op none none (.w (.st 1 (.t 95) (.t 90)))) (.op 14 (.op (some 96) none (.p (.ia 1 (.t 85) (.t 86)))) (.op 15 (.op none none (.w (.st 1 (.t 96) (.t 94)))) (.nil))))))))))))))))))))) (.ops [ .op (some 79) none (.p (.mv (.t 13))), .op (some 80) none (.p (.bin .add (.t 79) (.i .i64 (1)))), .op (some 81) none (.p (.mv (.t 14))), .op (some 82) none (.p (.bin .sub (.t 81) (.i .i64 (1)))), .op (some 13) none (.p (.mv (.t 80))), .op (some 14) none (.p (.mv (.t 82))), .gh (.drop [79, 80, 81, 82])]))))))) (.seq (.ops [ .op (some 97) none (.p (.mv (.t 8))), .op (some 98) none (.p (.cs (.t 97))), .op (some 4) none (.p (.mv (.t 98))), .op (some 5) none (.p (.mv (.i .i64 (0)))), .gh (.drop [8, 97, 98])]) (.ret)))))))
theorem k34 : chkF Try.prog 34 2 [4, 5] c34 = true := by kernel_rfl

/- sloperef1.Print: arguments 2, results in [4, 5]; slots in use where its loops begin: [[1, 6, 7], [6, 10, 11]] -/
def c35 : MC := .seq (.ops [ .op (some 4) none (.p (.mv (.s ⟨#[]⟩))), .op (some 5) none (.p (.mv (.i .i64 (0)))), .gh (.drop [4, 5])]) (.seq (.seq (.ops [ .op (some 12) none (.p (.mv (.t 0))), .op (some 13) none (.call 85 [(.t 12)]), .op (some 14) none (.p (.un .not (.t 13))), .gh (.drop [12, 13])]) (.cond (.t 14) (.seq (.ops [ .op (some 4) none (.p (.mv (.s ⟨#[]⟩))), .op (some 5) none (.p (.mv (.i .i64 (20))))]) (.ret)) (.skip))) (.seq (.seq (.ops [ .op (some 15) none (.p (.mv (.t 1))), .op (some 16) none (.p (.bin .lss (.t 15) (.i .i64 (2)))), .op (some 17) none (.p (.mv (.t 16))), .op (some 18) (some (17, false)) (.p (.mv (.t 1))), .op (some 19) (some (17, false)) (.p (.bin .gtr (.t 18) (.i .i64 (36)))), .op (some 20) none (.pick (.t 17) (.b true) (.t 19)), .gh (.drop [15, 16, 17, 18, 19])]) (.cond (.t 20) (.seq (.ops [ .op (some 4) none (.p (.mv (.s ⟨#[]⟩))), .op (some 5) none (.p (.mv (.i .i64 (22))))]) (.ret)) (.skip))) (.seq (.seq (.ops [ .op (some 21) none (.p (.mv (.t 0))), .op (some 22) none (.p (.len (.t 21))), .op (some 23) none (.p (.bin .eql (.t 22) (.i .i64 (0)))), .gh (.drop [21, 22])]) (.cond (.t 23) (.seq (.ops [ .op (some 4) none (.p (.mv (.s ⟨#[48]⟩))), .op (some 5) none (.p (.mv (.i .i64 (0))))]) (.ret)) (.skip))) (.seq (.ops [ .op (some 6) none (.p (.mv .nil))]) (.seq (.ops [ .op (some 24) none (.p (.mv (.t 0))), .op (some 25) none (.call 83 [(.t 24)]), .op (some 7) none (.p (.mv (.t 25))), .gh (.drop [0, 24, 25])]) (.seq (.cut (.block 0 (.loop (.seq (.seq (.ops [ .op (some 26) none (.p (.mv (.t 7))), .op (some 27) none (.p (.len (.t 26))), .op (some 28) none (.p (.bin .gtr (.t 27) (.i .i64 (0)))), .gh (.drop [26, 27])]) (.cond (.t 28) (.skip) (.exit 0))) (.block 1 (.seq (.ops [ .op (some 30) none (.p (.mv (.t 7))), .op (some 31) none (.p (.mv (.t 1))), .op (some 32) none (.p (.cv .u64 (.t 31))), .op (some 33) none (.call 95 [(.t 30), (.t 32)]), .op (some 29) none (.p (.mv (.t 33))), .op (some 34) none (.p (.ex (.t 29) 0)), .op (some 35) none (.p (.ex (.t 29) 1)), .op (some 8) none (.p (.mv (.t 34))), .op (some 9) none (.p (.mv (.t 35))), .gh (.drop [7, 29, 30, 31, 32, 33, 34, 35])]) (.seq (.cut (.seq (.ops [ .op (some 36) none (.p (.mv (.t 9))), .op (some 37) none (.p (.bin .lss (.t 36) (.i .u64 (10)))), .gh (.drop [36])]) (.cond (.t 37) (.ops [ .op (some 38) none (.p (.mv (.t 6))), .op (some 39) none (.p (.mv (.t 9))), .op (some 40) none (.p (.bin .add (.i .u64 (48)) (.t 39))), .op (some 41) none (.p (.cv .u8 (.t 40))), .op (some 42) none (.w (.bs 5 1 [(.t 41)])), .op (some 43) none (.w (.ap 5 1 1 (encI .u8) (.t 38) (.t 42))), .op (some 6) none (.p (.mv (.t 43))), .gh (.drop [9, 38, 39, 40, 41, 42, 43])]) (.ops [ .op (some 44) none (.p (.mv (.t 6))), .op (some 45) none (.p (.mv (.t 9))), .op (some 46) none (.p (.bin .add (.i .u64 (97)) (.t 45))), .op (some 47) none (.p (.bin .sub (.t 46) (.i .u64 (10)))), .op (some 48) none (.p (.cv .u8 (.t 47))), .op (some 49) none (.w (.bs 5 1 [(.t 48)])), .op (some 50) none (.w (.ap 5 1 1 (encI .u8) (.t 44) (.t 49))), .op (some 6) none (.p (.mv (.t 50))), .gh (.drop [9, 44, 45, 46, 47, 48, 49, 50])])))) (.ops [ .op (some 51) none (.p (.mv (.t 8))), .op (some 7) none (.p (.mv (.t 51))), .gh (.drop [8, 51])])))))))) (.seq (.ops [ .op (some 52) none (.p (.mv (.t 6))), .op (some 53) none (.p (.len (.t 52))), .op (some 54) none (.w (.mk 5 1 1 [.int .u8] (encI .u8) (0 : Int) (.t 53) (.t 53))), .op (some 10) none (.p (.mv (.t 54))), .gh (.drop [52, 53, 54])]) (.seq (.seq (.ops [ .op (some 11) none (.p (.mv (.i .i64 (0))))]) (.cut (.block 2 (.loop (.seq (.seq (.ops [ .op (some 55) none (.p (.mv (.t 11))), .op (some 56) none (.p (.mv (.t 6))), .op (some 57) none (.p (.len (.t 56))), .op (some 58) none (.p (.bin .lss (.t 55) (.t 57))), .gh (.drop [55, 56, 57])]) (.cond (.t 58) (.skip) (.exit 2))) (.seq (.block 3 (.ops [ .op (some 61) none (.p (.mv (.t 10))), .op (some 62) none (.p (.mv (.t 11))), .op (some 63) none (.p (.mv (.t 6))), .op (some 64) none (.p (.mv (.t 6))), .op (some 65) none (.p (.len (.t 64))), .op (some 66) none (.p (.bin .sub (.t 65) (.i .i64 (1)))), .op (some 67) none (.p (.mv (.t 11))), .op (some 68) none (.p (.bin .sub (.t 66) (.t 67))), .op (some 69) none (.p (.ia 1 (.t 63) (.t 68))), .op (some 70) none (.p (.ld 1 false (.t 69))), .op (some 71) none (.p (.ia 1 (.t 61) (.t 62))), .op none none (.w (.st 1 (.t 71) (.t 70))), .gh (.drop [61, 62, 63, 64, 65, 66, 67, 68, 69, 70, 71])])) (.ops [ .op (some 59) none (.p (.mv (.t 11))), .op (some 60) none (.p (.bin .add (.t 59) (.i .i64 (1)))), .op (some 11) none (.p (.mv (.t 60))), .gh (.drop [59, 60])]))))))) (.seq (.ops [ .op (some 72) none (.p (.mv (.t 10))), .op (some 73) none (.p (.cs (.t 72))), .op (some 4) none (.p (.mv (.t 73))), .op (some 5) none (.p (.mv (.i .i64 (0)))), .gh (.drop [10, 72, 73])]) (.ret))))))))))
theorem k35 : chkF Try.prog 35 2 [4, 5] c35 = true := by kernel_rfl



/-! ### plain -/
def digs (b n : Nat) : List Int := if h : n = 0 ∨ b < 2 then [] else ((n % b : Nat) : Int) :: digs b (n / b)
termination_by n
decreasing_by exact Nat.div_lt_self (by omega) (by omega)
/-- the digits, the least first -/
def digsI (b v : Int) : List Int := digs b.toNat v.toNat
theorem digs_zero (b : Int) : digsI b 0 = [] := by rw [digsI, digs]; simp
theorem digs_step {b v : Int} (hb : 2 ≤ b) (hv : 0 < v) : digsI b v = v % b :: digsI b (v / b) := by
  obtain ⟨m, rfl⟩ := Int.eq_ofNat_of_zero_le (show 0 ≤ b by omega)
  obtain ⟨n, rfl⟩ := Int.eq_ofNat_of_zero_le (show 0 ≤ v by omega)
  have e1 : ((n : Int) / (m : Int)).toNat = n / m := rfl
  rw [digsI, digsI, e1, Int.toNat_natCast, Int.toNat_natCast, digs, dif_neg (by omega)]; rfl
theorem digs_len {b : Int} (hb : 2 ≤ b) : ∀ (k : Nat) {v : Int}, 0 ≤ v → v < 2 ^ k → (digsI b v).length ≤ k := fun k => by
  induction k with
  | zero => intro v h0 h1; rw [show v = 0 by simp at h1; omega, digs_zero]; simp
  | succ k ih =>
    intro v h0 h1
    by_cases hv : v = 0
    · rw [hv, digs_zero]; simp
    · rw [digs_step hb (by omega), List.length_cons]
      have h2 : v / b ≤ v / 2 := by
        apply Int.le_ediv_of_mul_le (by omega)
        have h3 := Int.mul_ediv_add_emod v b
        have h4 := Int.emod_nonneg v (show b ≠ 0 by omega)
        have h5 : v / b * 2 ≤ v / b * b := Int.mul_le_mul_of_nonneg_left hb (Int.ediv_nonneg h0 (by omega))
        rw [Int.mul_comm b] at h3
        omega
      rw [Int.pow_succ] at h1
      have := ih (Int.ediv_nonneg h0 (show 0 ≤ b by omega)) (by omega : v / b < 2 ^ k)
      omega
theorem digs_range {b : Int} (hb : 2 ≤ b) : ∀ (k : Nat) {v : Int}, 0 ≤ v → v.toNat ≤ k → ∀ d, d ∈ digsI b v → 0 ≤ d ∧ d < b := fun k => by
  induction k with
  | zero => intro v h0 h1 d hd; rw [show v = 0 by omega, digs_zero] at hd; cases hd
  | succ k ih =>
    intro v h0 h1 d hd
    by_cases hv : v = 0
    · rw [hv, digs_zero] at hd; cases hd
    · rw [digs_step hb (by omega)] at hd
      have h2 : v / b < v := Int.ediv_lt_self_of_pos_of_ne_one (by omega) (by omega)
      rcases List.mem_cons.1 hd with rfl | hd
      · exact ⟨Int.emod_nonneg _ (by omega), Int.emod_lt_of_pos _ (by omega)⟩
      · exact ih (Int.ediv_nonneg h0 (show 0 ≤ b by omega)) (by omega) d hd
/-- one digit of a piece -/
theorem digs_piece {b q r : Int} (hb : 2 ≤ b) (m : Nat) : (q * b ^ (m + 1) + r) % b = r % b ∧ (q * b ^ (m + 1) + r) / b = q * b ^ m + r / b := by
  rw [Int.pow_succ, ← Int.mul_assoc, Int.mul_comm _ b, Int.add_comm, Int.add_mul_emod_self_left, Int.add_mul_ediv_left _ _ (by omega), Int.add_comm]
  exact ⟨rfl, rfl⟩
/-- a digit's character -/
def chr (d : Int) : Int := if d < 10 then 48 + d else 87 + d
def digC (b v : Int) : List Int := (digsI b v).map chr
theorem digC_zero (b : Int) : digC b 0 = [] := by rw [digC, digs_zero]; rfl
theorem digC_step {b v : Int} (hb : 2 ≤ b) (hv : 0 < v) : digC b v = chr (v % b) :: digC b (v / b) := by rw [digC, digs_step hb hv]; rfl
theorem digC_len {b v : Int} (hb : 2 ≤ b) {n : List Int} (hm : n.length ≤ 2048) (ln : lim n) (hv : v = val n) : (digC b v).length ≤ 65536 := by
  have h1 := val_bound ln
  have h2 := pow_mono (m := n.length) (n := 2048) hm
  have h3 : (4294967296 : Int) ^ 2048 = 2 ^ 65536 := by rw [show (4294967296 : Int) = 2 ^ 32 from rfl, ← Int.pow_mul]
  rw [digC, List.length_map]
  exact digs_len hb 65536 (by omega) (by rw [← h3]; omega)
theorem digC_range {b v : Int} (hb : 2 ≤ b) (hb2 : b ≤ 36) (hv : 0 ≤ v) : ∀ x, x ∈ digC b v → 0 ≤ x ∧ x < 256 := fun x hx => by
  obtain ⟨d, hd, rfl⟩ := List.mem_map.1 hx
  have := digs_range hb v.toNat hv (Nat.le_refl _) d hd
  unfold chr
  split <;> omega
theorem limbs_nil_iff {v : Int} (h : 0 ≤ v) : (limbs v).length = 0 ↔ v = 0 := by
  constructor
  · intro h1
    have e := limbs_val h
    rw [List.eq_nil_of_length_eq_zero h1] at e
    exact e.symm
  · rintro rfl; rw [limbs_zero]; rfl
theorem tb_chr : ∀ d : Nat, d < 36 → ((tb34_0.data.toList.getD d 0).toNat : Int) = chr d := by decide
theorem tb_size : tb34_0.size = 36 := by decide
def printS (n : List Int) (b : Int) : ByteArray := if ¬ may n ∨ b < 2 ∨ 36 < b then ⟨#[]⟩ else if n.length = 0 then ⟨#[48]⟩ else strOfNums (digC b (val n)).reverse
def printE (n : List Int) (b : Int) : Int := if ¬ may n then 20 else if b < 2 ∨ 36 < b then 22 else 0

theorem swap_done {D ys : List Int} {i : Nat} (h5 : ¬ (i : Int) < (D.length : Int) - 1 - i) (hy : ∀ j, ys[j]? = if j < i ∨ D.length - i ≤ j then D.reverse[j]? else D[j]?) : ys = D.reverse := by
  apply List.ext_getElem?
  intro j
  rw [hy j]
  by_cases hj : j < i ∨ D.length - i ≤ j
  · rw [if_pos hj]
  · rw [if_neg hj, List.getElem?_reverse (by omega), show D.length - 1 - j = j by omega]
theorem swap_step {D ys : List Int} {i : Nat} (hyl : ys.length = D.length) (h5 : (i : Int) < (D.length : Int) - 1 - i) (hy : ∀ j, ys[j]? = if j < i ∨ D.length - i ≤ j then D.reverse[j]? else D[j]?) :
    ∃ x y, ys[i]? = some x ∧ ys[D.length - 1 - i]? = some y ∧ ∀ j, ((ys.set i y).set (D.length - 1 - i) x)[j]? = if j < i + 1 ∨ D.length - (i + 1) ≤ j then D.reverse[j]? else D[j]? := by
  have hrev : ∀ j, j < D.length → D.reverse[j]? = D[D.length - 1 - j]? := fun j hj => List.getElem?_reverse hj
  obtain ⟨x, hyi⟩ : ∃ x, ys[i]? = some x := ⟨_, List.getElem?_eq_getElem (by omega)⟩
  obtain ⟨y, hyj⟩ : ∃ y, ys[D.length - 1 - i]? = some y := ⟨_, List.getElem?_eq_getElem (by omega)⟩
  have hDx : D[i]? = some x := by rw [← hyi, hy i, if_neg (by omega)]
  have hDy : D[D.length - 1 - i]? = some y := by rw [← hyj, hy, if_neg (by omega)]
  refine ⟨x, y, hyi, hyj, fun j => ?_⟩
  rw [List.getElem?_set, List.length_set, hyl, List.getElem?_set, hyl]
  by_cases h6 : D.length - 1 - i = j
  · rw [if_pos h6, if_pos (by omega), if_pos (by omega), hrev j (by omega), show D.length - 1 - j = i by omega, hDx]
  · rw [if_neg h6]
    by_cases h7 : i = j
    · rw [if_pos h7, if_pos (by omega), if_pos (by omega), hrev j (by omega), ← h7, hDy]
    · rw [if_neg h7, hy j]
      by_cases h8 : j < i ∨ D.length - i ≤ j
      · rw [if_pos h8, if_pos (by omega)]
      · rw [if_neg h8, if_neg (by omega)]

theorem fill_step {L : List Int} {i n : Nat} {e : Int} (hl : i ≤ L.length) (hi : i < n) (he : L[i]? = some e) : (L.take i ++ List.replicate (n - i) 0).set i e = L.take (i + 1) ++ List.replicate (n - (i + 1)) 0 := by
  have h1 : (L.take i).length = i := by rw [List.length_take]; omega
  rw [List.set_append_right _ _ (by omega), h1, Nat.sub_self, show n - i = n - (i + 1) + 1 by omega, List.replicate_succ, List.set_cons_zero, take_step he, List.append_assoc]; rfl

theorem natural_Print (fr : Bool) (n : List Int) (b : Int) : FSpec0 Try.prog 34 [uL fr n, .int .i64 b] (fun r => r = .tup [.str (printS n b), .int .i64 (printE n b)]) := by
  refine FSpec0.of_facts fun hf => fspec0_of_run k34 ?_
  have ln : lim n := lim_of_factL hf.1
  simp only [uL, c34, W1, W2, W3, popTo, memb, res, wres, env0, byteAt, optI, cutB, cutL, sliceR, strR, ldCells, ldR, iaR, faR, lenR, lenSR, ixR, exR, nchkR, mxR, csR, up, ZV.av, ZV.fit, zfits, fits, fitsL, cellsOf, down, downL, downLL, stR, mkR, bsR, boxR, alR, apR, cpR, srcQ, solid, killC, killV, killE, killO, killH, hget, hset, hdel, pubV, pubC, pubO, renV, renC, renO, reduceIte, reduceCtorEq, Nat.reduceEqDiff, Nat.reduceLT, Nat.reduceAdd, Int.reduceToNat, Nat.reduceLeDiff, Int.reducePow, Int.reduceLE, Int.reduceLT]
  refine call1 (natural_May fr n) (by repeat (first | exact subs_nil | refine subs_int ?_ | refine subs_ro ?_ | refine subs_bool ?_ | refine subs_str ?_ | refine subs_nilro ?_ | refine subs_lits rfl ?_ | refine subs_all rfl rfl (by simp) ?_ | refine subs_own rfl rfl ?_ | refine subs_fn ?_)) ?_
  simp only [uL, W1, W2, W3, popTo, memb, res, wres, env0, byteAt, optI, cutB, cutL, sliceR, strR, ldCells, ldR, iaR, faR, lenR, lenSR, ixR, exR, nchkR, mxR, csR, up, ZV.av, ZV.fit, zfits, fits, fitsL, cellsOf, down, downL, downLL, stR, mkR, bsR, boxR, alR, apR, cpR, srcQ, solid, killC, killV, killE, killO, killH, hget, hset, hdel, pubV, pubC, pubO, renV, renC, renO, reduceIte, reduceCtorEq, Nat.reduceEqDiff, Nat.reduceLT, Nat.reduceAdd, Int.reduceToNat, Nat.reduceLeDiff, Int.reducePow, Int.reduceLE, Int.reduceLT]
  refine ⟨fun h => ret1' (by rw [printS, printE, if_pos (.inl h), if_pos h]; simp only [uL, retR, retA, retL, ret1, ret1L, eget, hget, hset, St.set, eset, List.map_cons, List.map_nil, reduceIte, reduceCtorEq, Nat.reduceEqDiff, Nat.reduceLT, true_and, and_true, false_or, or_true, true_or, List.drop_zero, List.take_length, scalE_I, scalE_B, scalE_S]), fun h => ?_⟩
  have hm := Classical.not_not.1 h
  have hl := hm.1
  refine ⟨fun h1 => ret1' (by rw [printS, printE, if_pos (by omega), if_neg h, if_pos (by omega)]; simp only [uL, retR, retA, retL, ret1, ret1L, eget, hget, hset, St.set, eset, List.map_cons, List.map_nil, reduceIte, reduceCtorEq, Nat.reduceEqDiff, Nat.reduceLT, true_and, and_true, false_or, or_true, true_or, List.drop_zero, List.take_length, scalE_I, scalE_B, scalE_S]), fun h1 =>
    ⟨fun h2 => ret1' (by rw [printS, printE, if_pos (by omega), if_neg h, if_pos (by omega)]; simp only [uL, retR, retA, retL, ret1, ret1L, eget, hget, hset, St.set, eset, List.map_cons, List.map_nil, reduceIte, reduceCtorEq, Nat.reduceEqDiff, Nat.reduceLT, true_and, and_true, false_or, or_true, true_or, List.drop_zero, List.take_length, scalE_I, scalE_B, scalE_S]), fun h2 _ => ⟨fun h3 => ret1' (by rw [printS, printE, if_neg (by rintro (h5 | h5); exact h h5; omega), if_pos (by omega), if_neg h, if_neg (by omega)]; simp only [uL, retR, retA, retL, ret1, ret1L, eget, hget, hset, St.set, eset, List.map_cons, List.map_nil, reduceIte, reduceCtorEq, Nat.reduceEqDiff, Nat.reduceLT, true_and, and_true, false_or, or_true, true_or, List.drop_zero, List.take_length, scalE_I, scalE_B, scalE_S]), fun h3 => ?_⟩⟩⟩
  rw [printS, printE, if_neg (by rintro (h5 | h5); exact h h5; omega), if_neg (by omega), if_neg h, if_neg (by omega)]
  refine callK0 (natural_piece b (by omega) (by omega)) (by repeat (first | exact subs_nil | refine subs_int ?_)) fun r hr => ?_
  obtain ⟨z, z1, z2, z3, rfl⟩ := hr
  simp only [uL, W1, W2, W3, popTo, memb, res, wres, env0, byteAt, optI, cutB, cutL, sliceR, strR, ldCells, ldR, iaR, faR, lenR, lenSR, ixR, exR, nchkR, mxR, csR, up, ZV.av, ZV.fit, zfits, fits, fitsL, cellsOf, down, downL, downLL, stR, mkR, bsR, boxR, alR, apR, cpR, srcQ, solid, killC, killV, killE, killO, killH, hget, hset, hdel, pubV, pubC, pubO, renV, renC, renO, reduceIte, reduceCtorEq, Nat.reduceEqDiff, Nat.reduceLT, Nat.reduceAdd, Int.reduceToNat, Nat.reduceLeDiff, Int.reducePow, Int.reduceLE, Int.reduceLT]
  refine call1 (natural_trim fr n (by omega)) (by repeat (first | exact subs_nil | refine subs_int ?_ | refine subs_ro ?_ | refine subs_bool ?_ | refine subs_str ?_ | refine subs_nilro ?_ | refine subs_lits rfl ?_ | refine subs_all rfl rfl (by simp) ?_ | refine subs_own rfl rfl ?_ | refine subs_fn ?_)) ?_
  rw [trimL_limbs ln]
  have hcl0 : (limbs (val n)).length ≤ 2048 := by have := trimL_len n; rw [trimL_limbs ln] at this; omega
  have hV0 := (val_bound ln).1
  have hDl := digC_len (b := b) (by omega) hl ln rfl
  have hDr := digC_range (b := b) (by omega) (by omega) hV0
  generalize val n = V at *
  generalize hD : digC b V = D at *
  simp only [uL, W1, W2, W3, popTo, memb, res, wres, env0, byteAt, optI, cutB, cutL, sliceR, strR, ldCells, ldR, iaR, faR, lenR, lenSR, ixR, exR, nchkR, mxR, csR, up, ZV.av, ZV.fit, zfits, fits, fitsL, cellsOf, down, downL, downLL, stR, mkR, bsR, boxR, alR, apR, cpR, srcQ, solid, killC, killV, killE, killO, killH, hget, hset, hdel, pubV, pubC, pubO, renV, renC, renO, reduceIte, reduceCtorEq, Nat.reduceEqDiff, Nat.reduceLT, Nat.reduceAdd, Int.reduceToNat, Nat.reduceLeDiff, Int.reducePow, Int.reduceLE, Int.reduceLT]
  have hpow : ∀ i, 0 < b ^ i := fun i => Int.pow_pos (by omega)
  refine cut_intro (fun st => st = ⟨[(8, .own 67 0 D.length true)], [(67, .arr 5 true true 1 (encI .u8) D)]⟩) ?_ ?_
  · simp only [W1, W2, W3, popTo, memb, res, wres, env0, byteAt, optI, cutB, cutL, sliceR, strR, ldCells, ldR, iaR, faR, lenR, lenSR, ixR, exR, nchkR, mxR, csR, up, ZV.av, ZV.fit, zfits, fits, fitsL, cellsOf, down, downL, downLL, stR, mkR, bsR, boxR, alR, apR, cpR, srcQ, solid, killC, killV, killE, killO, killH, hget, hset, hdel, pubV, pubC, pubO, renV, renC, renO, reduceIte, reduceCtorEq, Nat.reduceEqDiff, Nat.reduceLT, Nat.reduceAdd, Int.reduceToNat, Nat.reduceLeDiff, Int.reducePow, Int.reduceLE, Int.reduceLT]
    refine loop_introE (fun m st => ∃ (cv : Int) (out : List Int), 0 ≤ cv ∧ (limbs cv).length ≤ 2048 ∧ m = cv.toNat ∧ out ++ digC b cv = D ∧
      st = ⟨[(1, .int .i64 b), (6, .int .u32 (b ^ z)), (7, .int .i64 z), (8, .own 67 0 out.length true), (9, uL true (limbs cv))], [(67, .arr 5 true true 1 (encI .u8) out)]⟩) V.toNat
      (Ent.trans (Ent.nilv 8 67 5 1 (encI .u8) rfl rfl (by omega) (by omega)) (Ent.of_env (env' := [(1, .int .i64 b), (6, .int .u32 (b ^ z)), (7, .int .i64 z), (8, .own 67 0 0 true), (9, uL true (limbs V))]) (by simp [eget, eset, uL])))
      ⟨V, [], hV0, hcl0, rfl, by simpa using hD, rfl⟩ ?_
    rintro m st ⟨cv, out, hcv, hcl, rfl, hout, rfl⟩
    simp only [uL, W1, W2, W3, popTo, memb, res, wres, env0, byteAt, optI, cutB, cutL, sliceR, strR, ldCells, ldR, iaR, faR, lenR, lenSR, ixR, exR, nchkR, mxR, csR, up, ZV.av, ZV.fit, zfits, fits, fitsL, cellsOf, down, downL, downLL, stR, mkR, bsR, boxR, alR, apR, cpR, srcQ, solid, killC, killV, killE, killO, killH, hget, hset, hdel, pubV, pubC, pubO, renV, renC, renO, reduceIte, reduceCtorEq, Nat.reduceEqDiff, Nat.reduceLT, Nat.reduceAdd, Int.reduceToNat, Nat.reduceLeDiff, Int.reducePow, Int.reduceLE, Int.reduceLT]
    refine fun _ => ⟨fun h0 => ?_, fun h0 => ?_⟩
    rotate_left
    · have e := (limbs_nil_iff hcv).1 (by omega)
      rw [e, digC_zero, List.append_nil] at hout
      exact join_intro [(8, .own 67 0 D.length true)] (by simp [eget, hout]) (by rw [hout])
    have hcv0 : 0 < cv := by
      have := limbs_nil_iff hcv
      omega
    have hb2 : 2 ≤ b ^ z := by
      have e1 : b ^ (z - 1) * b = b ^ z := by rw [← Int.pow_succ]; congr 1; omega
      have e2 : 1 * b ≤ b ^ (z - 1) * b := Int.mul_le_mul_of_nonneg_right (hpow (z - 1)) (by omega)
      omega
    have hq0 := Int.ediv_nonneg hcv (show 0 ≤ b ^ z by omega)
    have hql : cv / b ^ z < cv := Int.ediv_lt_self_of_pos_of_ne_one hcv0 (by omega)
    have hr0 := Int.emod_nonneg cv (show b ^ z ≠ 0 by omega)
    have hr1 := Int.emod_lt_of_pos cv (hpow z)
    have hdm := Int.mul_ediv_add_emod cv (b ^ z)
    have hqb := limbs_mono hq0 (by omega) hcl
    have hqv := limbs_val hq0
    refine call1 (natural_short true (limbs cv) (b ^ z) (hpow z) (by omega)) (by repeat (first | exact subs_nil | refine subs_int ?_ | refine subs_ro ?_ | refine subs_bool ?_ | refine subs_str ?_ | refine subs_nilro ?_ | refine subs_lits rfl ?_ | refine subs_all rfl rfl (by simp) ?_ | refine subs_own rfl rfl ?_ | refine subs_fn ?_)) ?_
    rw [limbs_val hcv]
    generalize cv / b ^ z = q at *
    generalize cv % b ^ z = r0 at *
    simp only [uL, W1, W2, W3, popTo, memb, res, wres, env0, byteAt, optI, cutB, cutL, sliceR, strR, ldCells, ldR, iaR, faR, lenR, lenSR, ixR, exR, nchkR, mxR, csR, up, ZV.av, ZV.fit, zfits, fits, fitsL, cellsOf, down, downL, downLL, stR, mkR, bsR, boxR, alR, apR, cpR, srcQ, solid, killC, killV, killE, killO, killH, hget, hset, hdel, pubV, pubC, pubO, renV, renC, renO, reduceIte, reduceCtorEq, Nat.reduceEqDiff, Nat.reduceLT, Nat.reduceAdd, Int.reduceToNat, Nat.reduceLeDiff, Int.reducePow, Int.reduceLE, Int.reduceLT]
    refine cut_intro (fun st => ∃ out : List Int, out ++ digC b q = D ∧ st = ⟨[(1, .int .i64 b), (6, .int .u32 (b ^ z)), (7, .int .i64 z), (8, .own 67 0 out.length true), (10, uL true (limbs q))], [(67, .arr 5 true true 1 (encI .u8) out)]⟩) ?_ ?_
    · simp only [W1, W2, W3, popTo, memb, res, wres, env0, byteAt, optI, cutB, cutL, sliceR, strR, ldCells, ldR, iaR, faR, lenR, lenSR, ixR, exR, nchkR, mxR, csR, up, ZV.av, ZV.fit, zfits, fits, fitsL, cellsOf, down, downL, downLL, stR, mkR, bsR, boxR, alR, apR, cpR, srcQ, solid, killC, killV, killE, killO, killH, hget, hset, hdel, pubV, pubC, pubO, renV, renC, renO, reduceIte, reduceCtorEq, Nat.reduceEqDiff, Nat.reduceLT, Nat.reduceAdd, Int.reduceToNat, Nat.reduceLeDiff, Int.reducePow, Int.reduceLE, Int.reduceLT]
      refine loop_intro (fun m st => ∃ (i : Nat) (r : Int) (out : List Int), i ≤ z ∧ m = z - i ∧ 0 ≤ r ∧ r < b ^ (z - i) ∧ r ≤ r0 ∧ out ++ digC b (q * b ^ (z - i) + r) = D ∧
        st = ⟨[(1, .int .i64 b), (6, .int .u32 (b ^ z)), (7, .int .i64 z), (8, .own 67 0 out.length true), (10, uL true (limbs q)), (11, .int .u32 r), (12, .int .i64 i)], [(67, .arr 5 true true 1 (encI .u8) out)]⟩) z
        [(1, .int .i64 b), (6, .int .u32 (b ^ z)), (7, .int .i64 z), (8, .own 67 0 out.length true), (10, uL true (limbs q)), (11, .int .u32 r0), (12, .int .i64 (0 : Nat))] (by simp [eget, uL])
        ⟨0, r0, out, by omega, by omega, hr0, hr1, by omega, by rw [Nat.sub_zero, Int.mul_comm, hdm]; exact hout, rfl⟩ ?_
      rintro m st ⟨i, r, out, hi, rfl, hr2, hr3, hr4, hout, rfl⟩
      simp only [uL, W1, W2, W3, popTo, memb, res, wres, env0, byteAt, optI, cutB, cutL, sliceR, strR, ldCells, ldR, iaR, faR, lenR, lenSR, ixR, exR, nchkR, mxR, csR, up, ZV.av, ZV.fit, zfits, fits, fitsL, cellsOf, down, downL, downLL, stR, mkR, bsR, boxR, alR, apR, cpR, srcQ, solid, killC, killV, killE, killO, killH, hget, hset, hdel, pubV, pubC, pubO, renV, renC, renO, reduceIte, reduceCtorEq, Nat.reduceEqDiff, Nat.reduceLT, Nat.reduceAdd, Int.reduceToNat, Nat.reduceLeDiff, Int.reducePow, Int.reduceLE, Int.reduceLT]
      have hb3 : b % 4294967296 = b := by omega
      rw [hb3, tb_size]
      have hqz := limbs_nil_iff hq0
      have hdone : (i < z → q = 0 ∧ r = 0) → out ++ digC b q = D := fun h => by
        rw [← hout]
        congr 2
        by_cases hiz : i < z
        · obtain ⟨e1, e2⟩ := h hiz; rw [e1, e2]; simp
        · rw [show z - i = 0 by omega, Int.pow_zero] at hr3 ⊢; omega
      refine ⟨fun h5 _ => ?_, fun h5 => join_intro [(1, .int .i64 b), (6, .int .u32 (b ^ z)), (7, .int .i64 z), (8, .own 67 0 out.length true), (10, uL true (limbs q))] (by simp [eget, uL]) ⟨out, hdone (by omega), rfl⟩⟩
      have e0 := Int.emod_nonneg r (show b ≠ 0 by omega)
      have e1 := Int.emod_lt_of_pos r (show 0 < b by omega)
      have e2 := Int.ediv_nonneg hr2 (show 0 ≤ b by omega)
      have e3 : r / b ≤ r := Int.ediv_le_self _ hr2
      have e4 : r / b < b ^ (z - i - 1) := by
        apply Int.ediv_lt_of_lt_mul (by omega)
        rw [Int.mul_comm, Int.mul_comm, ← Int.pow_succ, show (z - i - 1).succ = z - i by omega]; exact hr3
      have htb : ((tb34_0.data.toList.getD (r % b).toNat 0).toNat : Int) = chr (r % b) := by
        have := tb_chr (r % b).toNat (by omega)
        rw [this]; congr 1; omega
      have hout2 : 0 < q ∨ 0 < r → (out ++ [chr (r % b)]) ++ digC b (q * b ^ (z - i - 1) + r / b) = D := fun h => by
        obtain ⟨w1, w2⟩ := digs_piece (q := q) (r := r) (show 2 ≤ b by omega) (z - i - 1)
        have hp := hpow (z - i)
        have hqp : 0 < q → 0 < q * b ^ (z - i) := fun h => Int.mul_pos h hp
        have hqp2 := Int.mul_nonneg hq0 (show 0 ≤ b ^ (z - i) by omega)
        have hw : 0 < q * b ^ (z - i) + r := by omega
        rw [show z - i - 1 + 1 = z - i by omega] at w1 w2
        rw [digC_step (by omega) hw, w1, w2] at hout
        rw [List.append_assoc]; exact hout
      refine ⟨fun h6 _ => ?_, fun h6 => ⟨fun h7 _ => ?_, fun h7 => join_intro [(1, .int .i64 b), (6, .int .u32 (b ^ z)), (7, .int .i64 z), (8, .own 67 0 out.length true), (10, uL true (limbs q))] (by simp [eget, uL]) ⟨out, hdone (by omega), rfl⟩⟩⟩
      all_goals
        have hol : (out ++ [chr (r % b)]).length ≤ 65536 := by
          have := congrArg List.length (hout2 (by omega))
          rw [List.length_append] at this
          omega
        rw [List.length_append, List.length_singleton] at hol
        refine ⟨by omega, by omega, [chr (r % b)], ⟨by rw [htb]; rfl, by simp; omega⟩, fun _ => ⟨by omega, by omega, ?_⟩⟩
        exact back_intro [(1, .int .i64 b), (6, .int .u32 (b ^ z)), (7, .int .i64 z), (8, .own 67 0 (out ++ [chr (r % b)]).length true), (10, uL true (limbs q)), (11, .int .u32 (r / b)), (12, .int .i64 ((i + 1 : Nat) : Int))] (by simp [eget, uL]) (by omega)
          ⟨i + 1, r / b, out ++ [chr (r % b)], by omega, rfl, by omega, by rw [show z - (i + 1) = z - i - 1 by omega]; exact e4, by omega, by rw [show z - (i + 1) = z - i - 1 by omega]; exact hout2 (by omega), rfl⟩
    rintro st ⟨out, hout, rfl⟩
    simp only [uL, W1, W2, W3, popTo, memb, res, wres, env0, byteAt, optI, cutB, cutL, sliceR, strR, ldCells, ldR, iaR, faR, lenR, lenSR, ixR, exR, nchkR, mxR, csR, up, ZV.av, ZV.fit, zfits, fits, fitsL, cellsOf, down, downL, downLL, stR, mkR, bsR, boxR, alR, apR, cpR, srcQ, solid, killC, killV, killE, killO, killH, hget, hset, hdel, pubV, pubC, pubO, renV, renC, renO, reduceIte, reduceCtorEq, Nat.reduceEqDiff, Nat.reduceLT, Nat.reduceAdd, Int.reduceToNat, Nat.reduceLeDiff, Int.reducePow, Int.reduceLE, Int.reduceLT]
    exact back_intro [(1, .int .i64 b), (6, .int .u32 (b ^ z)), (7, .int .i64 z), (8, .own 67 0 out.length true), (9, uL true (limbs q))] (by simp [eget, uL]) (by omega) ⟨q, out, hq0, hqb, rfl, hout, rfl⟩
  rintro st rfl
  simp only [W1, W2, W3, popTo, memb, res, wres, env0, byteAt, optI, cutB, cutL, sliceR, strR, ldCells, ldR, iaR, faR, lenR, lenSR, ixR, exR, nchkR, mxR, csR, up, ZV.av, ZV.fit, zfits, fits, fitsL, cellsOf, down, downL, downLL, stR, mkR, bsR, boxR, alR, apR, cpR, srcQ, solid, killC, killV, killE, killO, killH, hget, hset, hdel, pubV, pubC, pubO, renV, renC, renO, reduceIte, reduceCtorEq, Nat.reduceEqDiff, Nat.reduceLT, Nat.reduceAdd, Int.reduceToNat, Nat.reduceLeDiff, Int.reducePow, Int.reduceLE, Int.reduceLT]
  refine fun _ => ⟨by omega, ?_⟩
  refine cut_intro (fun st => st = ⟨[(8, .own 67 0 D.length true)], [(67, .arr 5 true true 1 (encI .u8) D.reverse)]⟩) ?_ ?_
  · simp only [W1, W2, W3, popTo, memb, res, wres, env0, byteAt, optI, cutB, cutL, sliceR, strR, ldCells, ldR, iaR, faR, lenR, lenSR, ixR, exR, nchkR, mxR, csR, up, ZV.av, ZV.fit, zfits, fits, fitsL, cellsOf, down, downL, downLL, stR, mkR, bsR, boxR, alR, apR, cpR, srcQ, solid, killC, killV, killE, killO, killH, hget, hset, hdel, pubV, pubC, pubO, renV, renC, renO, reduceIte, reduceCtorEq, Nat.reduceEqDiff, Nat.reduceLT, Nat.reduceAdd, Int.reduceToNat, Nat.reduceLeDiff, Int.reducePow, Int.reduceLE, Int.reduceLT]
    refine loop_intro (fun m st => ∃ (i : Nat) (ys : List Int), m = D.length - i ∧ ys.length = D.length ∧ 2 * i ≤ D.length + 1 ∧ (∀ j, ys[j]? = if j < i ∨ D.length - i ≤ j then D.reverse[j]? else D[j]?) ∧
      st = ⟨[(8, .own 67 0 D.length true), (13, .int .i64 i), (14, .int .i64 ((D.length : Int) - 1 - i))], [(67, .arr 5 true true 1 (encI .u8) ys)]⟩) D.length
      [(8, .own 67 0 D.length true), (13, .int .i64 (0 : Nat)), (14, .int .i64 ((D.length : Int) - 1))] (by simp [eget]) ⟨0, D, by omega, rfl, by omega, fun j => ?_, by simp⟩ ?_
    · by_cases hj : j < 0 ∨ D.length - 0 ≤ j
      · rw [if_pos hj, List.getElem?_eq_none (by omega), List.getElem?_eq_none (by simp; omega)]
      · rw [if_neg hj]
    rintro m st ⟨i, ys, rfl, hyl, hi, hy, rfl⟩
    simp only [W1, W2, W3, popTo, memb, res, wres, env0, byteAt, optI, cutB, cutL, sliceR, strR, ldCells, ldR, iaR, faR, lenR, lenSR, ixR, exR, nchkR, mxR, csR, up, ZV.av, ZV.fit, zfits, fits, fitsL, cellsOf, down, downL, downLL, stR, mkR, bsR, boxR, alR, apR, cpR, srcQ, solid, killC, killV, killE, killO, killH, hget, hset, hdel, pubV, pubC, pubO, renV, renC, renO, reduceIte, reduceCtorEq, Nat.reduceEqDiff, Nat.reduceLT, Nat.reduceAdd, Int.reduceToNat, Nat.reduceLeDiff, Int.reducePow, Int.reduceLE, Int.reduceLT]
    rw [hyl]
    have ej : ((D.length : Int) - 1 - i).toNat = D.length - 1 - i := by omega
    refine ⟨fun h5 => ?_, fun h5 => join_intro [(8, .own 67 0 D.length true)] (by simp [eget]) (by rw [swap_done (by omega) hy])⟩
    obtain ⟨x, y, hyi, hyj, hnew⟩ := swap_step hyl (by omega) hy
    simp only [ej, hyi, hyj, Option.some.injEq, forall_eq', exists_eq_left, List.length_set, hyl]
    have fin : ∃ s', Ent ⟨[(8, .own 67 0 D.length true), (13, .int .i64 ((i : Int) + 1)), (14, .int .i64 ((D.length : Int) - 1 - i - 1))], [(67, .arr 5 true true 1 (encI .u8) ((ys.set i y).set (D.length - 1 - i) x))]⟩ s' ∧
        ∃ n', n' < D.length - i ∧ ∃ (i : Nat) (ys : List Int), n' = D.length - i ∧ ys.length = D.length ∧ 2 * i ≤ D.length + 1 ∧ (∀ j, ys[j]? = if j < i ∨ D.length - i ≤ j then D.reverse[j]? else D[j]?) ∧
        s' = ⟨[(8, .own 67 0 D.length true), (13, .int .i64 i), (14, .int .i64 ((D.length : Int) - 1 - i))], [(67, .arr 5 true true 1 (encI .u8) ys)]⟩ :=
      back_intro [(8, .own 67 0 D.length true), (13, .int .i64 ((i + 1 : Nat) : Int)), (14, .int .i64 ((D.length : Int) - 1 - ((i + 1 : Nat) : Int)))] (by simp [eget] <;> omega) (by omega) ⟨i + 1, _, rfl, by simp [hyl], by omega, hnew, rfl⟩
    obtain ⟨s', hs', hI⟩ := fin
    have fin2 : ∀ env, eget env 8 = .own 67 0 D.length true → eget env 13 = .int .i64 ((i : Int) + 1) → eget env 14 = .int .i64 ((D.length : Int) - 1 - i - 1) → Ent ⟨env, [(67, .arr 5 true true 1 (encI .u8) ((ys.set i y).set (D.length - 1 - i) x))]⟩ s' := fun env g1 g2 g3 =>
      Ent.trans (Ent.of_env (by simp [g1, g2, g3, eget])) hs'
    repeat' (first
      | with_reducible refine And.intro ?_ ?_
      | intro _
      | omega
      | exact ⟨s', fin2 _ rfl rfl rfl, hI⟩)
  rintro st rfl
  simp only [W1, W2, W3, popTo, memb, res, wres, env0, byteAt, optI, cutB, cutL, sliceR, strR, ldCells, ldR, iaR, faR, lenR, lenSR, ixR, exR, nchkR, mxR, csR, up, ZV.av, ZV.fit, zfits, fits, fitsL, cellsOf, down, downL, downLL, stR, mkR, bsR, boxR, alR, apR, cpR, srcQ, solid, killC, killV, killE, killO, killH, hget, hset, hdel, pubV, pubC, pubO, renV, renC, renO, reduceIte, reduceCtorEq, Nat.reduceEqDiff, Nat.reduceLT, Nat.reduceAdd, Int.reduceToNat, Nat.reduceLeDiff, Int.reducePow, Int.reduceLE, Int.reduceLT]
  have htk : List.take D.length D.reverse = D.reverse := List.take_of_length_le (by simp)
  rw [htk]
  refine fun _ => ⟨fun x hx => ?_, ret1' (by simp only [retR, retA, retL, ret1, ret1L, eget, hget, hset, St.set, eset, List.map_cons, List.map_nil, reduceIte, reduceCtorEq, Nat.reduceEqDiff, Nat.reduceLT, true_and, and_true, false_or, or_true, true_or, List.drop_zero, List.take_length, scalE_I, scalE_B, scalE_S])⟩
  have := hDr x (List.mem_reverse.1 hx)
  simp [isB, this]

theorem sloperef1_Print (fr : Bool) (n : List Int) (b : Int) : FSpec0 Try.prog 35 [uL fr n, .int .i64 b] (fun r => r = .tup [.str (printS n b), .int .i64 (printE n b)]) := by
  refine FSpec0.of_facts fun hf => fspec0_of_run k35 ?_
  have ln : lim n := lim_of_factL hf.1
  simp only [uL, c35, W1, W2, W3, popTo, memb, res, wres, env0, byteAt, optI, cutB, cutL, sliceR, strR, ldCells, ldR, iaR, faR, lenR, lenSR, ixR, exR, nchkR, mxR, csR, up, ZV.av, ZV.fit, zfits, fits, fitsL, cellsOf, down, downL, downLL, stR, mkR, bsR, boxR, alR, apR, cpR, srcQ, solid, killC, killV, killE, killO, killH, hget, hset, hdel, pubV, pubC, pubO, renV, renC, renO, reduceIte, reduceCtorEq, Nat.reduceEqDiff, Nat.reduceLT, Nat.reduceAdd, Int.reduceToNat, Nat.reduceLeDiff, Int.reducePow, Int.reduceLE, Int.reduceLT]
  refine call1 (sloperef1_May fr n) (by repeat (first | exact subs_nil | refine subs_int ?_ | refine subs_ro ?_ | refine subs_bool ?_ | refine subs_str ?_ | refine subs_nilro ?_ | refine subs_lits rfl ?_ | refine subs_all rfl rfl (by simp) ?_ | refine subs_own rfl rfl ?_ | refine subs_fn ?_)) ?_
  simp only [uL, W1, W2, W3, popTo, memb, res, wres, env0, byteAt, optI, cutB, cutL, sliceR, strR, ldCells, ldR, iaR, faR, lenR, lenSR, ixR, exR, nchkR, mxR, csR, up, ZV.av, ZV.fit, zfits, fits, fitsL, cellsOf, down, downL, downLL, stR, mkR, bsR, boxR, alR, apR, cpR, srcQ, solid, killC, killV, killE, killO, killH, hget, hset, hdel, pubV, pubC, pubO, renV, renC, renO, reduceIte, reduceCtorEq, Nat.reduceEqDiff, Nat.reduceLT, Nat.reduceAdd, Int.reduceToNat, Nat.reduceLeDiff, Int.reducePow, Int.reduceLE, Int.reduceLT]
  refine ⟨fun h => ret1' (by rw [printS, printE, if_pos (.inl h), if_pos h]; simp only [uL, retR, retA, retL, ret1, ret1L, eget, hget, hset, St.set, eset, List.map_cons, List.map_nil, reduceIte, reduceCtorEq, Nat.reduceEqDiff, Nat.reduceLT, true_and, and_true, false_or, or_true, true_or, List.drop_zero, List.take_length, scalE_I, scalE_B, scalE_S]), fun h => ?_⟩
  have hm := Classical.not_not.1 h
  have hl := hm.1
  refine ⟨fun h1 => ret1' (by rw [printS, printE, if_pos (by omega), if_neg h, if_pos (by omega)]; simp only [uL, retR, retA, retL, ret1, ret1L, eget, hget, hset, St.set, eset, List.map_cons, List.map_nil, reduceIte, reduceCtorEq, Nat.reduceEqDiff, Nat.reduceLT, true_and, and_true, false_or, or_true, true_or, List.drop_zero, List.take_length, scalE_I, scalE_B, scalE_S]), fun h1 =>
    ⟨fun h2 => ret1' (by rw [printS, printE, if_pos (by omega), if_neg h, if_pos (by omega)]; simp only [uL, retR, retA, retL, ret1, ret1L, eget, hget, hset, St.set, eset, List.map_cons, List.map_nil, reduceIte, reduceCtorEq, Nat.reduceEqDiff, Nat.reduceLT, true_and, and_true, false_or, or_true, true_or, List.drop_zero, List.take_length, scalE_I, scalE_B, scalE_S]), fun h2 _ => ⟨fun h3 => ret1' (by rw [printS, printE, if_neg (by rintro (h5 | h5); exact h h5; omega), if_pos (by omega), if_neg h, if_neg (by omega)]; simp only [uL, retR, retA, retL, ret1, ret1L, eget, hget, hset, St.set, eset, List.map_cons, List.map_nil, reduceIte, reduceCtorEq, Nat.reduceEqDiff, Nat.reduceLT, true_and, and_true, false_or, or_true, true_or, List.drop_zero, List.take_length, scalE_I, scalE_B, scalE_S]), fun h3 => ?_⟩⟩⟩
  rw [printS, printE, if_neg (by rintro (h5 | h5); exact h h5; omega), if_neg (by omega), if_neg h, if_neg (by omega)]
  refine call1 (sloperef1_Trim fr n (by omega)) (by repeat (first | exact subs_nil | refine subs_int ?_ | refine subs_ro ?_ | refine subs_bool ?_ | refine subs_str ?_ | refine subs_nilro ?_ | refine subs_lits rfl ?_ | refine subs_all rfl rfl (by simp) ?_ | refine subs_own rfl rfl ?_ | refine subs_fn ?_)) ?_
  rw [trimL_limbs ln]
  have hcl0 : (limbs (val n)).length ≤ 2048 := by have := trimL_len n; rw [trimL_limbs ln] at this; omega
  have hV0 := (val_bound ln).1
  have hDl := digC_len (b := b) (by omega) hl ln rfl
  have hDr := digC_range (b := b) (by omega) (by omega) hV0
  generalize val n = V at *
  generalize hD : digC b V = D at *
  simp only [uL, W1, W2, W3, popTo, memb, res, wres, env0, byteAt, optI, cutB, cutL, sliceR, strR, ldCells, ldR, iaR, faR, lenR, lenSR, ixR, exR, nchkR, mxR, csR, up, ZV.av, ZV.fit, zfits, fits, fitsL, cellsOf, down, downL, downLL, stR, mkR, bsR, boxR, alR, apR, cpR, srcQ, solid, killC, killV, killE, killO, killH, hget, hset, hdel, pubV, pubC, pubO, renV, renC, renO, reduceIte, reduceCtorEq, Nat.reduceEqDiff, Nat.reduceLT, Nat.reduceAdd, Int.reduceToNat, Nat.reduceLeDiff, Int.reducePow, Int.reduceLE, Int.reduceLT]
  have hpow : ∀ i, 0 < b ^ i := fun i => Int.pow_pos (by omega)
  refine cut_intro (fun st => st = ⟨[(6, .own 43 0 D.length true)], [(43, .arr 5 true true 1 (encI .u8) D)]⟩) ?_ ?_
  · simp only [W1, W2, W3, popTo, memb, res, wres, env0, byteAt, optI, cutB, cutL, sliceR, strR, ldCells, ldR, iaR, faR, lenR, lenSR, ixR, exR, nchkR, mxR, csR, up, ZV.av, ZV.fit, zfits, fits, fitsL, cellsOf, down, downL, downLL, stR, mkR, bsR, boxR, alR, apR, cpR, srcQ, solid, killC, killV, killE, killO, killH, hget, hset, hdel, pubV, pubC, pubO, renV, renC, renO, reduceIte, reduceCtorEq, Nat.reduceEqDiff, Nat.reduceLT, Nat.reduceAdd, Int.reduceToNat, Nat.reduceLeDiff, Int.reducePow, Int.reduceLE, Int.reduceLT]
    refine loop_introE (fun m st => ∃ (cv : Int) (out : List Int), 0 ≤ cv ∧ (limbs cv).length ≤ 2048 ∧ m = cv.toNat ∧ out ++ digC b cv = D ∧
      st = ⟨[(1, .int .i64 b), (6, .own 43 0 out.length true), (7, uL true (limbs cv))], [(43, .arr 5 true true 1 (encI .u8) out)]⟩) V.toNat
      (Ent.trans (Ent.nilv 6 43 5 1 (encI .u8) rfl rfl (by omega) (by omega)) (Ent.of_env (env' := [(1, .int .i64 b), (6, .own 43 0 0 true), (7, uL true (limbs V))]) (by simp [eget, eset, uL])))
      ⟨V, [], hV0, hcl0, rfl, by simpa using hD, rfl⟩ ?_
    rintro m st ⟨cv, out, hcv, hcl, rfl, hout, rfl⟩
    simp only [uL, W1, W2, W3, popTo, memb, res, wres, env0, byteAt, optI, cutB, cutL, sliceR, strR, ldCells, ldR, iaR, faR, lenR, lenSR, ixR, exR, nchkR, mxR, csR, up, ZV.av, ZV.fit, zfits, fits, fitsL, cellsOf, down, downL, downLL, stR, mkR, bsR, boxR, alR, apR, cpR, srcQ, solid, killC, killV, killE, killO, killH, hget, hset, hdel, pubV, pubC, pubO, renV, renC, renO, reduceIte, reduceCtorEq, Nat.reduceEqDiff, Nat.reduceLT, Nat.reduceAdd, Int.reduceToNat, Nat.reduceLeDiff, Int.reducePow, Int.reduceLE, Int.reduceLT]
    refine fun _ => ⟨fun h0 => ?_, fun h0 => ?_⟩
    rotate_left
    · have e := (limbs_nil_iff hcv).1 (by omega)
      rw [e, digC_zero, List.append_nil] at hout
      exact join_intro [(6, .own 43 0 D.length true)] (by simp [eget, hout]) (by rw [hout])
    have hcv0 : 0 < cv := by
      have := limbs_nil_iff hcv
      omega
    have hq0 := Int.ediv_nonneg hcv (show 0 ≤ b by omega)
    have hql : cv / b < cv := Int.ediv_lt_self_of_pos_of_ne_one hcv0 (by omega)
    have hr0 := Int.emod_nonneg cv (show b ≠ 0 by omega)
    have hr1 := Int.emod_lt_of_pos cv (show 0 < b by omega)
    have hqb := limbs_mono hq0 (by omega) hcl
    rw [digC_step (by omega) hcv0] at hout
    rw [show b % 18446744073709551616 = b by omega]
    refine call1 (sloperef1_by true (limbs cv) b (by omega) (by omega) (by omega)) (by repeat (first | exact subs_nil | refine subs_int ?_ | refine subs_ro ?_ | refine subs_bool ?_ | refine subs_str ?_ | refine subs_nilro ?_ | refine subs_lits rfl ?_ | refine subs_all rfl rfl (by simp) ?_ | refine subs_own rfl rfl ?_ | refine subs_fn ?_)) ?_
    rw [limbs_val hcv]
    generalize cv / b = q at *
    generalize cv % b = r at *
    have hol : out.length + 1 ≤ 65536 := by
      have := congrArg List.length hout
      rw [List.length_append, List.length_cons] at this
      omega
    have hout2 : (out ++ [chr r]) ++ digC b q = D := by rw [List.append_assoc]; exact hout
    simp only [uL, W1, W2, W3, popTo, memb, res, wres, env0, byteAt, optI, cutB, cutL, sliceR, strR, ldCells, ldR, iaR, faR, lenR, lenSR, ixR, exR, nchkR, mxR, csR, up, ZV.av, ZV.fit, zfits, fits, fitsL, cellsOf, down, downL, downLL, stR, mkR, bsR, boxR, alR, apR, cpR, srcQ, solid, killC, killV, killE, killO, killH, hget, hset, hdel, pubV, pubC, pubO, renV, renC, renO, reduceIte, reduceCtorEq, Nat.reduceEqDiff, Nat.reduceLT, Nat.reduceAdd, Int.reduceToNat, Nat.reduceLeDiff, Int.reducePow, Int.reduceLE, Int.reduceLT]
    refine cut_intro (fun st => st = ⟨[(1, .int .i64 b), (6, .own 43 0 (out ++ [chr r]).length true), (8, uL true (limbs q))], [(43, .arr 5 true true 1 (encI .u8) (out ++ [chr r]))]⟩) ?_ ?_
    · simp only [W1, W2, W3, popTo, memb, res, wres, env0, byteAt, optI, cutB, cutL, sliceR, strR, ldCells, ldR, iaR, faR, lenR, lenSR, ixR, exR, nchkR, mxR, csR, up, ZV.av, ZV.fit, zfits, fits, fitsL, cellsOf, down, downL, downLL, stR, mkR, bsR, boxR, alR, apR, cpR, srcQ, solid, killC, killV, killE, killO, killH, hget, hset, hdel, pubV, pubC, pubO, renV, renC, renO, reduceIte, reduceCtorEq, Nat.reduceEqDiff, Nat.reduceLT, Nat.reduceAdd, Int.reduceToNat, Nat.reduceLeDiff, Int.reducePow, Int.reduceLE, Int.reduceLT]
      have e1 : r < 10 → (48 + r) % 18446744073709551616 % 256 = chr r := fun h => by rw [chr, if_pos h]; omega
      have e2 : ¬ r < 10 → ((97 + r) % 18446744073709551616 - 10) % 18446744073709551616 % 256 = chr r := fun h => by rw [chr, if_neg h]; omega
      exact ⟨fun h4 => ⟨[chr r], ⟨by rw [e1 h4]; rfl, by simp; omega⟩, join_intro [(1, .int .i64 b), (6, .own 43 0 (out ++ [chr r]).length true), (8, uL true (limbs q))] (by simp [eget, uL]) rfl⟩,
        fun h4 => ⟨[chr r], ⟨by rw [e2 h4]; rfl, by simp; omega⟩, join_intro [(1, .int .i64 b), (6, .own 43 0 (out ++ [chr r]).length true), (8, uL true (limbs q))] (by simp [eget, uL]) rfl⟩⟩
    rintro st rfl
    simp only [uL, W1, W2, W3, popTo, memb, res, wres, env0, byteAt, optI, cutB, cutL, sliceR, strR, ldCells, ldR, iaR, faR, lenR, lenSR, ixR, exR, nchkR, mxR, csR, up, ZV.av, ZV.fit, zfits, fits, fitsL, cellsOf, down, downL, downLL, stR, mkR, bsR, boxR, alR, apR, cpR, srcQ, solid, killC, killV, killE, killO, killH, hget, hset, hdel, pubV, pubC, pubO, renV, renC, renO, reduceIte, reduceCtorEq, Nat.reduceEqDiff, Nat.reduceLT, Nat.reduceAdd, Int.reduceToNat, Nat.reduceLeDiff, Int.reducePow, Int.reduceLE, Int.reduceLT]
    exact back_intro [(1, .int .i64 b), (6, .own 43 0 (out ++ [chr r]).length true), (7, uL true (limbs q))] (by simp [eget, uL]) (by omega) ⟨q, out ++ [chr r], hq0, hqb, rfl, hout2, rfl⟩
  rintro st rfl
  simp only [W1, W2, W3, popTo, memb, res, wres, env0, byteAt, optI, cutB, cutL, sliceR, strR, ldCells, ldR, iaR, faR, lenR, lenSR, ixR, exR, nchkR, mxR, csR, up, ZV.av, ZV.fit, zfits, fits, fitsL, cellsOf, down, downL, downLL, stR, mkR, bsR, boxR, alR, apR, cpR, srcQ, solid, killC, killV, killE, killO, killH, hget, hset, hdel, pubV, pubC, pubO, renV, renC, renO, reduceIte, reduceCtorEq, Nat.reduceEqDiff, Nat.reduceLT, Nat.reduceAdd, Int.reduceToNat, Nat.reduceLeDiff, Int.reducePow, Int.reduceLE, Int.reduceLT]
  refine fun _ => ⟨by omega, ?_⟩
  refine cut_intro (fun st => st = ⟨[(10, .own 54 0 D.length true)], [(43, .arr 5 true true 1 (encI .u8) D), (54, .arr 5 true true 1 (encI .u8) D.reverse)]⟩) ?_ ?_
  · simp only [W1, W2, W3, popTo, memb, res, wres, env0, byteAt, optI, cutB, cutL, sliceR, strR, ldCells, ldR, iaR, faR, lenR, lenSR, ixR, exR, nchkR, mxR, csR, up, ZV.av, ZV.fit, zfits, fits, fitsL, cellsOf, down, downL, downLL, stR, mkR, bsR, boxR, alR, apR, cpR, srcQ, solid, killC, killV, killE, killO, killH, hget, hset, hdel, pubV, pubC, pubO, renV, renC, renO, reduceIte, reduceCtorEq, Nat.reduceEqDiff, Nat.reduceLT, Nat.reduceAdd, Int.reduceToNat, Nat.reduceLeDiff, Int.reducePow, Int.reduceLE, Int.reduceLT]
    refine loop_intro (fun m st => ∃ i : Nat, i ≤ D.length ∧ m = D.length - i ∧
      st = ⟨[(6, .own 43 0 D.length true), (10, .own 54 0 D.length true), (11, .int .i64 i)], [(43, .arr 5 true true 1 (encI .u8) D), (54, .arr 5 true true 1 (encI .u8) (D.reverse.take i ++ List.replicate (D.length - i) 0))]⟩) D.length
      [(6, .own 43 0 D.length true), (10, .own 54 0 D.length true), (11, .int .i64 (0 : Nat))] (by simp [eget]) ⟨0, by omega, by omega, by simp⟩ ?_
    rintro m st ⟨i, hi, rfl, rfl⟩
    simp only [W1, W2, W3, popTo, memb, res, wres, env0, byteAt, optI, cutB, cutL, sliceR, strR, ldCells, ldR, iaR, faR, lenR, lenSR, ixR, exR, nchkR, mxR, csR, up, ZV.av, ZV.fit, zfits, fits, fitsL, cellsOf, down, downL, downLL, stR, mkR, bsR, boxR, alR, apR, cpR, srcQ, solid, killC, killV, killE, killO, killH, hget, hset, hdel, pubV, pubC, pubO, renV, renC, renO, reduceIte, reduceCtorEq, Nat.reduceEqDiff, Nat.reduceLT, Nat.reduceAdd, Int.reduceToNat, Nat.reduceLeDiff, Int.reducePow, Int.reduceLE, Int.reduceLT]
    have hl2 : (D.reverse.take i ++ List.replicate (D.length - i) (0 : Int)).length = D.length := by simp; omega
    rw [hl2]
    rw [show ((D.length : Int) - 1 - i).toNat = D.length - 1 - i by omega]
    refine fun _ => ⟨fun h0 _ => ⟨by omega, by omega, by omega, by omega, fun e he _ => ⟨by omega, by omega, _, rfl, by omega, ?_⟩⟩, fun h0 => ?_⟩
    · have hr : D.reverse[i]? = some e := by rw [List.getElem?_reverse (by omega)]; exact he
      rw [fill_step (by simp; omega) (by omega) hr]
      exact back_intro [(6, .own 43 0 D.length true), (10, .own 54 0 D.length true), (11, .int .i64 ((i + 1 : Nat) : Int))] (by simp [eget]) (by omega) ⟨i + 1, by omega, rfl, rfl⟩
    · obtain rfl : i = D.length := by omega
      exact join_intro [(10, .own 54 0 D.length true)] (by simp [eget]) (by rw [Nat.sub_self, List.take_of_length_le (by simp)]; simp)
  rintro st rfl
  simp only [W1, W2, W3, popTo, memb, res, wres, env0, byteAt, optI, cutB, cutL, sliceR, strR, ldCells, ldR, iaR, faR, lenR, lenSR, ixR, exR, nchkR, mxR, csR, up, ZV.av, ZV.fit, zfits, fits, fitsL, cellsOf, down, downL, downLL, stR, mkR, bsR, boxR, alR, apR, cpR, srcQ, solid, killC, killV, killE, killO, killH, hget, hset, hdel, pubV, pubC, pubO, renV, renC, renO, reduceIte, reduceCtorEq, Nat.reduceEqDiff, Nat.reduceLT, Nat.reduceAdd, Int.reduceToNat, Nat.reduceLeDiff, Int.reducePow, Int.reduceLE, Int.reduceLT]
  have htk : List.take D.length D.reverse = D.reverse := List.take_of_length_le (by simp)
  rw [htk]
  refine fun _ => ⟨fun x hx => ?_, ret1' (by simp only [retR, retA, retL, ret1, ret1L, eget, hget, hset, St.set, eset, List.map_cons, List.map_nil, reduceIte, reduceCtorEq, Nat.reduceEqDiff, Nat.reduceLT, true_and, and_true, false_or, or_true, true_or, List.drop_zero, List.take_length, scalE_I, scalE_B, scalE_S])⟩
  simp [isB]

end Go.Vc
