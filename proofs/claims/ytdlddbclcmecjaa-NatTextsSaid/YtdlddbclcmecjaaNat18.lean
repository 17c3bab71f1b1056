/-
  Bytes and FromBytes: the program's and the document's.
-/
import Derived.Test.YtdlddbclcmecjaaNat14
import Derived.Test.YtdlddbclcmecjaaNat15
set_option linter.unusedVariables false
set_option linter.unusedSimpArgs false
namespace Go.Vc
open Go
open Go.Proofs

/- natural.Bytes: arguments 1, results in [2, 3]; slots in use where its loops begin: [[0, 4, 5, 16, 17]] -/
def c26 : MC := .seq (.ops [ .op (some 2) none (.p (.mv .nil)), .op (some 3) none (.p (.mv (.i .i64 (0)))), .gh (.drop [2, 3])]) (.seq (.seq (.ops [ .op (some 7) none (.p (.mv (.t 0))), .op (some 8) none (.call 79 [(.t 7)]), .op (some 9) none (.p (.un .not (.t 8))), .gh (.drop [7, 8])]) (.cond (.t 9) (.seq (.ops [ .op (some 2) none (.p (.mv .nil)), .op (some 3) none (.p (.mv (.i .i64 (20))))]) (.ret)) (.skip))) (.seq (.ops [ .op (some 10) none (.p (.mv (.t 0))), .op (some 11) none (.call 67 [(.t 10)]), .op (some 12) none (.p (.bin .add (.t 11) (.i .i64 (7)))), .op (some 13) none (.p (.bin .quo (.t 12) (.i .i64 (8)))), .op (some 4) none (.p (.mv (.t 13))), .gh (.drop [10, 11, 12, 13])]) (.seq (.ops [ .op (some 14) none (.p (.mv (.t 4))), .op (some 15) none (.w (.mk 5 1 1 [.int .u8] (encI .u8) (0 : Int) (.t 14) (.t 14))), .op (some 5) none (.p (.mv (.t 15))), .gh (.drop [14, 15])]) (.seq (.seq (.ops [ .op (some 16) none (.p (.mv (.t 4))), .op (some 17) none (.p (.mv (.i .i64 (0))))]) (.cut (.block 0 (.loop (.seq (.ops [ .op (some 18) none (.p (.bin .lss (.t 17) (.t 16)))]) (.seq (.cond (.t 18) (.skip) (.exit 0)) (.seq (.block 1 (.seq (.ops [ .op (some 19) none (.p (.mv (.t 17))), .op (some 6) none (.p (.mv (.t 19))), .gh (.drop [19])]) (.ops [ .op (some 20) none (.p (.mv (.t 5))), .op (some 21) none (.p (.mv (.t 4))), .op (some 22) none (.p (.bin .sub (.t 21) (.i .i64 (1)))), .op (some 23) none (.p (.mv (.t 6))), .op (some 24) none (.p (.bin .sub (.t 22) (.t 23))), .op (some 25) none (.p (.mv (.t 0))), .op (some 26) none (.p (.mv (.t 6))), .op (some 27) none (.p (.bin .quo (.t 26) (.i .i64 (4)))), .op (some 28) none (.p (.ia 1 (.t 25) (.t 27))), .op (some 29) none (.p (.ld 1 false (.t 28))), .op (some 30) none (.p (.mv (.t 6))), .op (some 31) none (.p (.bin .rem (.t 30) (.i .i64 (4)))), .op (some 32) none (.p (.bin .mul (.i .i64 (8)) (.t 31))), .op (some 33) none (.p (.bin .shr (.t 29) (.t 32))), .op (some 34) none (.p (.cv .u8 (.t 33))), .op (some 35) none (.p (.ia 1 (.t 20) (.t 24))), .op none none (.w (.st 1 (.t 35) (.t 34))), .gh (.drop [6, 20, 21, 22, 23, 24, 25, 26, 27, 28, 29, 30, 31, 32, 33, 34, 35])]))) (.ops [ .op (some 36) none (.p (.bin .add (.t 17) (.i .i64 (1)))), .op (some 17) none (.p (.mv (.t 36))), .gh (.drop [36])])))))))) (.seq (.ops [ .op (some 37) none (.p (.mv (.t 5))), .op (some 2) none (.p (.mv (.t 37))), .op (some 3) none (.p (.mv (.i .i64 (0)))), .gh (.drop [5, 37])]) (.ret))))))
theorem k26 : chkF Try.prog 26 1 [2, 3] c26 = true := by kernel_rfl

/- sloperef1.Bytes: arguments 1, results in [2, 3]; slots in use where its loops begin: [[0, 4, 5]] -/
def c28 : MC := .seq (.ops [ .op (some 2) none (.p (.mv .nil)), .op (some 3) none (.p (.mv (.i .i64 (0)))), .gh (.drop [2, 3])]) (.seq (.seq (.ops [ .op (some 7) none (.p (.mv (.t 0))), .op (some 8) none (.call 85 [(.t 7)]), .op (some 9) none (.p (.un .not (.t 8))), .gh (.drop [7, 8])]) (.cond (.t 9) (.seq (.ops [ .op (some 2) none (.p (.mv .nil)), .op (some 3) none (.p (.mv (.i .i64 (20))))]) (.ret)) (.skip))) (.seq (.ops [ .op (some 4) none (.p (.mv .nil))]) (.seq (.seq (.ops [ .op (some 10) none (.p (.mv (.t 0))), .op (some 11) none (.p (.len (.t 10))), .op (some 12) none (.p (.bin .mul (.i .i64 (4)) (.t 11))), .op (some 13) none (.p (.bin .sub (.t 12) (.i .i64 (1)))), .op (some 5) none (.p (.mv (.t 13))), .gh (.drop [10, 11, 12, 13])]) (.cut (.block 0 (.loop (.seq (.seq (.ops [ .op (some 14) none (.p (.mv (.t 5))), .op (some 15) none (.p (.bin .geq (.t 14) (.i .i64 (0)))), .gh (.drop [14])]) (.cond (.t 15) (.skip) (.exit 0))) (.seq (.block 1 (.seq (.ops [ .op (some 18) none (.p (.mv (.t 0))), .op (some 19) none (.p (.mv (.t 5))), .op (some 20) none (.p (.bin .quo (.t 19) (.i .i64 (4)))), .op (some 21) none (.p (.ia 1 (.t 18) (.t 20))), .op (some 22) none (.p (.ld 1 false (.t 21))), .op (some 23) none (.p (.mv (.t 5))), .op (some 24) none (.p (.bin .rem (.t 23) (.i .i64 (4)))), .op (some 25) none (.p (.bin .mul (.i .i64 (8)) (.t 24))), .op (some 26) none (.p (.cv .u64 (.t 25))), .op (some 27) none (.p (.bin .shr (.t 22) (.t 26))), .op (some 28) none (.p (.cv .u8 (.t 27))), .op (some 6) none (.p (.mv (.t 28))), .gh (.drop [18, 19, 20, 21, 22, 23, 24, 25, 26, 27, 28])]) (.seq (.ops [ .op (some 29) none (.p (.mv (.t 6))), .op (some 30) none (.p (.bin .neq (.t 29) (.i .u8 (0)))), .op (some 31) none (.p (.mv (.t 30))), .op (some 32) (some (31, false)) (.p (.mv (.t 4))), .op (some 33) (some (31, false)) (.p (.len (.t 32))), .op (some 34) (some (31, false)) (.p (.bin .gtr (.t 33) (.i .i64 (0)))), .op (some 35) none (.pick (.t 31) (.b true) (.t 34)), .gh (.drop [29, 30, 31, 32, 33, 34])]) (.cond (.t 35) (.ops [ .op (some 36) none (.p (.mv (.t 4))), .op (some 37) none (.p (.mv (.t 6))), .op (some 38) none (.w (.bs 5 1 [(.t 37)])), .op (some 39) none (.w (.ap 5 1 1 (encI .u8) (.t 36) (.t 38))), .op (some 4) none (.p (.mv (.t 39))), .gh (.drop [6, 36, 37, 38, 39])]) (.skip))))) (.ops [ .op (some 16) none (.p (.mv (.t 5))), .op (some 17) none (.p (.bin .sub (.t 16) (.i .i64 (1)))), .op (some 5) none (.p (.mv (.t 17))), .gh (.drop [16, 17])]))))))) (.seq (.ops [ .op (some 40) none (.p (.mv (.t 4))), .op (some 2) none (.p (.mv (.t 40))), .op (some 3) none (.p (.mv (.i .i64 (0)))), .gh (.drop [4, 40])]) (.ret)))))
theorem k28 : chkF Try.prog 28 1 [2, 3] c28 = true := by kernel_rfl

/- natural.FromBytes: arguments 1, results in [2, 3]; slots in use where its loops begin: [[0], [0, 4, 26, 27]] -/
def c29 : MC := .seq (.ops [ .op (some 2) none (.p (.mv .nil)), .op (some 3) none (.p (.mv (.i .i64 (0)))), .gh (.drop [2, 3])]) (.seq (.cut (.block 0 (.loop (.seq (.seq (.ops [ .op (some 6) none (.p (.mv (.t 0))), .op (some 7) none (.p (.len (.t 6))), .op (some 8) none (.p (.bin .gtr (.t 7) (.i .i64 (0)))), .op (some 9) none (.p (.mv (.t 8))), .op (some 10) (some (9, true)) (.p (.mv (.t 0))), .op (some 11) (some (9, true)) (.p (.ia 1 (.t 10) (.i .i64 (0)))), .op (some 12) (some (9, true)) (.p (.ld 1 false (.t 11))), .op (some 13) (some (9, true)) (.p (.bin .eql (.t 12) (.i .u8 (0)))), .op (some 14) none (.pick (.t 9) (.t 13) (.b false)), .gh (.drop [6, 7, 8, 9, 10, 11, 12, 13])]) (.cond (.t 14) (.skip) (.exit 0))) (.block 1 (.ops [ .op (some 15) none (.p (.mv (.t 0))), .op (some 16) none (.p (.sl 1 (.t 15) (some (.i .i64 (1))) none none)), .op (some 0) none (.p (.mv (.t 16))), .gh (.drop [15, 16])])))))) (.seq (.seq (.ops [ .op (some 17) none (.p (.mv (.t 0))), .op (some 18) none (.p (.len (.t 17))), .op (some 19) none (.p (.bin .gtr (.t 18) (.i .i64 (8192)))), .gh (.drop [17, 18])]) (.cond (.t 19) (.seq (.ops [ .op (some 2) none (.p (.mv .nil)), .op (some 3) none (.p (.mv (.i .i64 (2))))]) (.ret)) (.skip))) (.seq (.ops [ .op (some 20) none (.p (.mv (.t 0))), .op (some 21) none (.p (.len (.t 20))), .op (some 22) none (.p (.bin .add (.t 21) (.i .i64 (3)))), .op (some 23) none (.p (.bin .quo (.t 22) (.i .i64 (4)))), .op (some 24) none (.w (.mk 99 1 4 [.int .u32] (encI .u32) (0 : Int) (.t 23) (.t 23))), .op (some 4) none (.p (.mv (.t 24))), .gh (.drop [20, 21, 22, 23, 24])]) (.seq (.seq (.ops [ .op (some 25) none (.p (.mv (.t 0))), .op (some 26) none (.p (.len (.t 25))), .op (some 27) none (.p (.mv (.i .i64 (0)))), .gh (.drop [25])]) (.cut (.block 2 (.loop (.seq (.ops [ .op (some 28) none (.p (.bin .lss (.t 27) (.t 26)))]) (.seq (.cond (.t 28) (.skip) (.exit 2)) (.seq (.block 3 (.seq (.ops [ .op (some 29) none (.p (.mv (.t 27))), .op (some 5) none (.p (.mv (.t 29))), .gh (.drop [29])]) (.ops [ .op (some 30) none (.p (.mv (.t 4))), .op (some 31) none (.p (.mv (.t 5))), .op (some 32) none (.p (.bin .quo (.t 31) (.i .i64 (4)))), .op (some 33) none (.p (.ia 1 (.t 30) (.t 32))), .op (some 34) none (.p (.ld 1 false (.t 33))), .op (some 35) none (.p (.mv (.t 0))), .op (some 36) none (.p (.mv (.t 0))), .op (some 37) none (.p (.len (.t 36))), .op (some 38) none (.p (.bin .sub (.t 37) (.i .i64 (1)))), .op (some 39) none (.p (.mv (.t 5))), .op (some 40) none (.p (.bin .sub (.t 38) (.t 39))), .op (some 41) none (.p (.ia 1 (.t 35) (.t 40))), .op (some 42) none (.p (.ld 1 false (.t 41))), .op (some 43) none (.p (.cv .u32 (.t 42))), .op (some 44) none (.p (.mv (.t 5))), .op (some 45) none (.p (.bin .rem (.t 44) (.i .i64 (4)))), .op (some 46) none (.p (.bin .mul (.i .i64 (8)) (.t 45))), .op (some 47) none (.p (.bin .shl (.t 43) (.t 46))), .op (some 48) none (.p (.bin .or (.t 34) (.t 47))), .op (some 49) none (.p (.ia 1 (.t 30) (.t 32))), .op none none (.w (.st 1 (.t 49) (.t 48)))]))) (.ops [ .op (some 50) none (.p (.bin .add (.t 27) (.i .i64 (1)))), .op (some 27) none (.p (.mv (.t 50))), .gh (.drop [50])])))))))) (.seq (.ops [ .op (some 51) none (.p (.mv (.t 4))), .op (some 52) none (.call 81 [(.t 51)]), .op (some 2) none (.p (.mv (.t 52))), .op (some 3) none (.p (.mv (.i .i64 (0)))), .gh (.drop [4, 51, 52])]) (.ret))))))
theorem k29 : chkF Try.prog 29 1 [2, 3] c29 = true := by kernel_rfl

/- sloperef1.FromBytes: arguments 1, results in [2, 3]; slots in use where its loops begin: [[0, 4], [0, 4, 5, 6]] -/
def c30 : MC := .seq (.ops [ .op (some 2) none (.p (.mv .nil)), .op (some 3) none (.p (.mv (.i .i64 (0)))), .gh (.drop [2, 3])]) (.seq (.ops [ .op (some 4) none (.p (.mv (.i .i64 (0))))]) (.seq (.cut (.block 0 (.loop (.seq (.seq (.ops [ .op (some 7) none (.p (.mv (.t 4))), .op (some 8) none (.p (.mv (.t 0))), .op (some 9) none (.p (.len (.t 8))), .op (some 10) none (.p (.bin .lss (.t 7) (.t 9))), .op (some 11) none (.p (.mv (.t 10))), .op (some 12) (some (11, true)) (.p (.mv (.t 0))), .op (some 13) (some (11, true)) (.p (.mv (.t 4))), .op (some 14) (some (11, true)) (.p (.ia 1 (.t 12) (.t 13))), .op (some 15) (some (11, true)) (.p (.ld 1 false (.t 14))), .op (some 16) (some (11, true)) (.p (.bin .eql (.t 15) (.i .u8 (0)))), .op (some 17) none (.pick (.t 11) (.t 16) (.b false)), .gh (.drop [7, 8, 9, 10, 11, 12, 13, 14, 15, 16])]) (.cond (.t 17) (.skip) (.exit 0))) (.block 1 (.ops [ .op (some 18) none (.p (.mv (.t 4))), .op (some 19) none (.p (.bin .add (.t 18) (.i .i64 (1)))), .op (some 4) none (.p (.mv (.t 19))), .gh (.drop [18, 19])])))))) (.seq (.seq (.ops [ .op (some 20) none (.p (.mv (.t 0))), .op (some 21) none (.p (.len (.t 20))), .op (some 22) none (.p (.mv (.t 4))), .op (some 23) none (.p (.bin .sub (.t 21) (.t 22))), .op (some 24) none (.p (.bin .gtr (.t 23) (.i .i64 (8192)))), .gh (.drop [20, 21, 22, 23])]) (.cond (.t 24) (.seq (.ops [ .op (some 2) none (.p (.mv .nil)), .op (some 3) none (.p (.mv (.i .i64 (2))))]) (.ret)) (.skip))) (.seq (.ops [ .op (some 25) none (.p (.mv (.t 0))), .op (some 26) none (.p (.len (.t 25))), .op (some 27) none (.p (.mv (.t 4))), .op (some 28) none (.p (.bin .sub (.t 26) (.t 27))), .op (some 29) none (.p (.bin .add (.t 28) (.i .i64 (3)))), .op (some 30) none (.p (.bin .quo (.t 29) (.i .i64 (4)))), .op (some 31) none (.w (.mk 99 1 4 [.int .u32] (encI .u32) (0 : Int) (.t 30) (.t 30))), .op (some 5) none (.p (.mv (.t 31))), .gh (.drop [25, 26, 27, 28, 29, 30, 31])]) (.seq (.seq (.ops [ .op (some 6) none (.p (.mv (.i .i64 (0))))]) (.cut (.block 2 (.loop (.seq (.seq (.ops [ .op (some 32) none (.p (.mv (.t 6))), .op (some 33) none (.p (.mv (.t 0))), .op (some 34) none (.p (.len (.t 33))), .op (some 35) none (.p (.mv (.t 4))), .op (some 36) none (.p (.bin .sub (.t 34) (.t 35))), .op (some 37) none (.p (.bin .lss (.t 32) (.t 36))), .gh (.drop [32, 33, 34, 35, 36])]) (.cond (.t 37) (.skip) (.exit 2))) (.seq (.block 3 (.ops [ .op (some 40) none (.p (.mv (.t 5))), .op (some 41) none (.p (.mv (.t 6))), .op (some 42) none (.p (.bin .quo (.t 41) (.i .i64 (4)))), .op (some 43) none (.p (.mv (.t 5))), .op (some 44) none (.p (.mv (.t 6))), .op (some 45) none (.p (.bin .quo (.t 44) (.i .i64 (4)))), .op (some 46) none (.p (.ia 1 (.t 43) (.t 45))), .op (some 47) none (.p (.ld 1 false (.t 46))), .op (some 48) none (.p (.mv (.t 0))), .op (some 49) none (.p (.mv (.t 0))), .op (some 50) none (.p (.len (.t 49))), .op (some 51) none (.p (.bin .sub (.t 50) (.i .i64 (1)))), .op (some 52) none (.p (.mv (.t 6))), .op (some 53) none (.p (.bin .sub (.t 51) (.t 52))), .op (some 54) none (.p (.ia 1 (.t 48) (.t 53))), .op (some 55) none (.p (.ld 1 false (.t 54))), .op (some 56) none (.p (.cv .u32 (.t 55))), .op (some 57) none (.p (.mv (.t 6))), .op (some 58) none (.p (.bin .rem (.t 57) (.i .i64 (4)))), .op (some 59) none (.p (.bin .mul (.i .i64 (8)) (.t 58))), .op (some 60) none (.p (.cv .u64 (.t 59))), .op (some 61) none (.p (.bin .shl (.t 56) (.t 60))), .op (some 62) none (.p (.bin .or (.t 47) (.t 61))), .op (some 63) none (.p (.ia 1 (.t 40) (.t 42))), .op none none (.w (.st 1 (.t 63) (.t 62)))])) (.ops [ .op (some 38) none (.p (.mv (.t 6))), .op (some 39) none (.p (.bin .add (.t 38) (.i .i64 (1)))), .op (some 6) none (.p (.mv (.t 39))), .gh (.drop [38, 39])]))))))) (.seq (.ops [ .op (some 64) none (.p (.mv (.t 5))), .op (some 65) none (.call 86 [(.t 64)]), .op (some 66) none (.p (.ex (.t 65) 0)), .op (some 67) none (.p (.ex (.t 65) 1)), .op (some 2) none (.p (.mv (.t 66))), .op (some 3) none (.p (.mv (.t 67))), .gh (.drop [5, 64, 65, 66, 67])]) (.ret)))))))
theorem k30 : chkF Try.prog 30 1 [2, 3] c30 = true := by kernel_rfl

/- slopelaw1.sameBytes: arguments 2, results in [4]; slots in use where its loops begin: [] -/
def c32 : MC := .seq (.ops [ .op (some 4) none (.p (.mv (.b false))), .gh (.drop [4])]) (.seq (.ops [ .op (some 5) none (.p (.mv (.t 0))), .op (some 6) none (.p (.cs (.t 5))), .op (some 7) none (.p (.mv (.t 1))), .op (some 8) none (.p (.cs (.t 7))), .op (some 9) none (.p (.bin .eql (.t 6) (.t 8))), .op (some 4) none (.p (.mv (.t 9))), .gh (.drop [0, 1, 5, 6, 7, 8, 9])]) (.ret))
theorem k32 : chkF Try.prog 32 2 [4] c32 = true := by kernel_rfl



/-! ### plain -/
/-- byte i from below -/
def byteL (n : List Int) (i : Nat) : Int := n.getD (i / 4) 0 / 2 ^ (8 * (i % 4)) % 256
def bsize (n : List Int) : Nat := (blen (val n).toNat + 7) / 8
def bytesL (n : List Int) : List Int := (List.range (bsize n)).map fun j => byteL n (bsize n - 1 - j)

theorem pow256 (i : Nat) : (4294967296 : Int) ^ (i / 4) * 2 ^ (8 * (i % 4)) = 256 ^ i := by
  rw [show (4294967296 : Int) = 256 ^ 4 from rfl, show (2 : Int) ^ (8 * (i % 4)) = (2 ^ 8) ^ (i % 4) from by rw [← Int.pow_mul], show (2 : Int) ^ 8 = 256 from rfl, ← Int.pow_mul, ← Int.pow_add, Nat.div_add_mod]

theorem div_drop' {n : List Int} (ln : lim n) (i : Nat) : val n / 4294967296 ^ i = val (n.drop i) := by
  by_cases hi : i ≤ n.length
  · exact div_drop ln i hi
  · rw [List.drop_eq_nil_of_le (by omega)]
    have hb := val_bound ln
    have := pow_mono (m := n.length) (n := i) (by omega)
    exact Int.ediv_eq_zero_of_lt hb.1 (by omega)

theorem byteL_val {n : List Int} (ln : lim n) (i : Nat) : byteL n i = val n / 256 ^ i % 256 := by
  have h0 := val_drop_getD n (i / 4)
  obtain ⟨hpq, hp, hq⟩ := pq_split (s := 8 * (i % 4)) (by omega)
  rw [← pow256, ← Int.ediv_ediv_of_nonneg (Int.le_of_lt (pow_pos' _)), div_drop' ln, h0, byteL]
  have hq2 : (2 : Int) ^ (32 - 8 * (i % 4)) = 256 * 2 ^ (24 - 8 * (i % 4)) := by
    rw [show (256 : Int) = 2 ^ 8 from rfl, ← Int.pow_add]; congr 1; omega
  rw [← hpq, Int.mul_assoc, Int.add_mul_ediv_left _ _ (by omega), hq2, Int.mul_assoc, Int.add_mul_emod_self_left]

theorem byteL_range (n : List Int) (i : Nat) : 0 ≤ byteL n i ∧ byteL n i < 256 := by unfold byteL; omega

theorem bsize_lt {n : List Int} (ln : lim n) : val n < 256 ^ bsize n := by
  have h0 := (val_bound ln).1
  have h1 : (val n).toNat < 2 ^ (8 * bsize n) := blen_le.1 (by unfold bsize; omega)
  have h2 : (256 : Int) ^ bsize n = ((2 ^ (8 * bsize n) : Nat) : Int) := by
    rw [show (256 : Int) = 2 ^ 8 from rfl, ← Int.pow_mul]; push_cast; rfl
  rw [h2]; omega
theorem bsize_ge {n : List Int} (ln : lim n) (h : 0 < bsize n) : 256 ^ (bsize n - 1) ≤ val n := by
  have h0 := (val_bound ln).1
  have h1 : ¬ (val n).toNat < 2 ^ (8 * (bsize n - 1)) := fun hl => by
    have := blen_le.2 hl
    unfold bsize at this h
    omega
  have h2 : (256 : Int) ^ (bsize n - 1) = ((2 ^ (8 * (bsize n - 1)) : Nat) : Int) := by
    rw [show (256 : Int) = 2 ^ 8 from rfl, ← Int.pow_mul]; push_cast; rfl
  rw [h2]; omega
theorem pow256_pos (i : Nat) : (0 : Int) < 256 ^ i := Int.pow_pos (by omega)
theorem pow256_mono {m n : Nat} (h : m ≤ n) : (256 : Int) ^ m ≤ 256 ^ n := by
  obtain ⟨k, rfl⟩ := Nat.le.dest h
  rw [Int.pow_add]
  have h1 := pow256_pos m
  have h2 := pow256_pos k
  have : (256 : Int) ^ m * 1 ≤ 256 ^ m * 256 ^ k := Int.mul_le_mul_of_nonneg_left (by omega) (by omega)
  omega
theorem byteL_high {n : List Int} (ln : lim n) {i : Nat} (h : bsize n ≤ i) : byteL n i = 0 := by
  have h1 := bsize_lt ln
  have h2 := pow256_mono h
  rw [byteL_val ln, Int.ediv_eq_zero_of_lt (val_bound ln).1 (by omega)]; rfl
theorem byteL_top {n : List Int} (ln : lim n) (h : 0 < bsize n) : byteL n (bsize n - 1) ≠ 0 := by
  have h1 := bsize_lt ln
  have h2 := bsize_ge ln h
  have h3 := pow256_pos (bsize n - 1)
  rw [byteL_val ln]
  have h4 : 1 ≤ val n / 256 ^ (bsize n - 1) := (Int.le_ediv_iff_mul_le h3).2 (by omega)
  have h5 : val n / 256 ^ (bsize n - 1) < 256 := by
    apply Int.ediv_lt_of_lt_mul h3
    rw [show bsize n = bsize n - 1 + 1 by omega, Int.pow_succ] at h1
    rw [Int.mul_comm]; exact h1
  omega
theorem bsize_le {n : List Int} (ln : lim n) : bsize n ≤ 4 * n.length := by
  have hb := val_bound ln
  have h2 : (4294967296 : Int) ^ n.length = ((2 ^ (32 * n.length) : Nat) : Int) := by
    rw [show (4294967296 : Int) = 2 ^ 32 from rfl, ← Int.pow_mul]; push_cast; rfl
  rw [h2] at hb
  have : blen (val n).toNat ≤ 32 * n.length := blen_le.2 (by omega)
  unfold bsize
  omega

def bytesR (n : List Int) : List Int := if may n then bytesL n else []
def bytesE (n : List Int) : Int := if may n then 0 else 20

abbrev uB (fr : Bool) (xs : List Int) : AV := .ro fr 1 (encI .u8) xs

theorem natural_Bytes (fr : Bool) (n : List Int) : FSpec0 Try.prog 26 [uL fr n] (fun r => r = .tup [uB true (bytesR n), .int .i64 (bytesE n)]) := by
  refine FSpec0.of_facts fun hf => fspec0_of_run k26 ?_
  have ln : lim n := lim_of_factL hf.1
  simp only [uL, c26, W1, W2, W3, popTo, memb, res, wres, env0, byteAt, optI, cutB, cutL, sliceR, strR, ldCells, ldR, iaR, faR, lenR, lenSR, ixR, exR, nchkR, mxR, csR, up, ZV.av, ZV.fit, zfits, fits, fitsL, cellsOf, down, downL, downLL, stR, mkR, bsR, boxR, alR, apR, cpR, srcQ, solid, killC, killV, killE, killO, killH, hget, hset, hdel, pubV, pubC, pubO, renV, renC, renO, reduceIte, reduceCtorEq, Nat.reduceEqDiff, Nat.reduceLT, Nat.reduceAdd, Int.reduceToNat, Nat.reduceLeDiff, Int.reducePow, Int.reduceLE, Int.reduceLT]
  refine call1 (natural_May fr n) (by repeat (first | exact subs_nil | refine subs_int ?_ | refine subs_ro ?_ | refine subs_bool ?_ | refine subs_str ?_ | refine subs_nilro ?_ | refine subs_lits rfl ?_ | refine subs_all rfl rfl (by simp) ?_ | refine subs_own rfl rfl ?_ | refine subs_fn ?_)) ?_
  simp only [uL, W1, W2, W3, popTo, memb, res, wres, env0, byteAt, optI, cutB, cutL, sliceR, strR, ldCells, ldR, iaR, faR, lenR, lenSR, ixR, exR, nchkR, mxR, csR, up, ZV.av, ZV.fit, zfits, fits, fitsL, cellsOf, down, downL, downLL, stR, mkR, bsR, boxR, alR, apR, cpR, srcQ, solid, killC, killV, killE, killO, killH, hget, hset, hdel, pubV, pubC, pubO, renV, renC, renO, reduceIte, reduceCtorEq, Nat.reduceEqDiff, Nat.reduceLT, Nat.reduceAdd, Int.reduceToNat, Nat.reduceLeDiff, Int.reducePow, Int.reduceLE, Int.reduceLT]
  refine ⟨fun h => ret1' (by rw [bytesR, bytesE, if_neg h, if_neg h]; simp only [uB, retR, retA, retL, ret1, ret1L, eget, hget, hset, St.set, eset, List.map_cons, List.map_nil, reduceIte, reduceCtorEq, Nat.reduceEqDiff, Nat.reduceLT, true_and, and_true, false_or, or_true, true_or, List.drop_zero, List.take_length, scalE_I, scalE_B, scalE_S]; rfl), fun h => ?_⟩
  have hm := Classical.not_not.1 h
  have hl := hm.1
  rw [bytesR, bytesE, if_pos hm, if_pos hm]
  refine call1 (natural_Bits fr n) (by repeat (first | exact subs_nil | refine subs_int ?_ | refine subs_ro ?_ | refine subs_bool ?_ | refine subs_str ?_ | refine subs_nilro ?_ | refine subs_lits rfl ?_ | refine subs_all rfl rfl (by simp) ?_ | refine subs_own rfl rfl ?_ | refine subs_fn ?_)) ?_
  have hs := bsize_le ln
  have he : (bitsR n + 7) / 8 = (bsize n : Int) := by rw [bitsR, if_pos hm, bsize]; omega
  have hb0 : 0 ≤ bitsR n := by rw [bitsR, if_pos hm]; omega
  simp only [uL, W1, W2, W3, popTo, memb, res, wres, env0, byteAt, optI, cutB, cutL, sliceR, strR, ldCells, ldR, iaR, faR, lenR, lenSR, ixR, exR, nchkR, mxR, csR, up, ZV.av, ZV.fit, zfits, fits, fitsL, cellsOf, down, downL, downLL, stR, mkR, bsR, boxR, alR, apR, cpR, srcQ, solid, killC, killV, killE, killO, killH, hget, hset, hdel, pubV, pubC, pubO, renV, renC, renO, reduceIte, reduceCtorEq, Nat.reduceEqDiff, Nat.reduceLT, Nat.reduceAdd, Int.reduceToNat, Nat.reduceLeDiff, Int.reducePow, Int.reduceLE, Int.reduceLT, he]
  rw [bytesL]
  generalize hz : bsize n = s at *
  refine ⟨by omega, fun _ => ⟨by omega, by omega, ?_⟩⟩
  refine cut_intro (fun st => st = ⟨[(5, .own 15 0 s true)], [(15, .arr 5 true true 1 (encI .u8) ((List.range s).map fun j => byteL n (s - 1 - j)))]⟩) ?_ ?_
  · simp only [W1, W2, W3, popTo, memb, res, wres, env0, byteAt, optI, cutB, cutL, sliceR, strR, ldCells, ldR, iaR, faR, lenR, lenSR, ixR, exR, nchkR, mxR, csR, up, ZV.av, ZV.fit, zfits, fits, fitsL, cellsOf, down, downL, downLL, stR, mkR, bsR, boxR, alR, apR, cpR, srcQ, solid, killC, killV, killE, killO, killH, hget, hset, hdel, pubV, pubC, pubO, renV, renC, renO, reduceIte, reduceCtorEq, Nat.reduceEqDiff, Nat.reduceLT, Nat.reduceAdd, Int.reduceToNat, Nat.reduceLeDiff, Int.reducePow, Int.reduceLE, Int.reduceLT]
    refine loop_intro (fun m st => ∃ i : Nat, i ≤ s ∧ m = s - i ∧ st = ⟨[(0, uL fr n), (4, .int .i64 s), (5, .own 15 0 s true), (16, .int .i64 s), (17, .int .i64 i)], [(15, .arr 5 true true 1 (encI .u8) ((List.range s).map fun j => if j < s - i then 0 else byteL n (s - 1 - j)))]⟩) s
      [(0, uL fr n), (4, .int .i64 s), (5, .own 15 0 s true), (16, .int .i64 s), (17, .int .i64 (0 : Nat))] (by simp [eget, uL]) ⟨0, by omega, by omega, ?_⟩ ?_
    · congr 4
      apply List.ext_getElem?
      intro j
      by_cases hj : j < s
      · rw [List.getElem?_replicate, if_pos hj, List.getElem?_map, List.getElem?_range hj]; simp [hj]
      · rw [List.getElem?_eq_none (by simp; omega), List.getElem?_eq_none (by simp; omega)]
    rintro m st ⟨i, hi, rfl, rfl⟩
    simp only [uL, W1, W2, W3, popTo, memb, res, wres, env0, byteAt, optI, cutB, cutL, sliceR, strR, ldCells, ldR, iaR, faR, lenR, lenSR, ixR, exR, nchkR, mxR, csR, up, ZV.av, ZV.fit, zfits, fits, fitsL, cellsOf, down, downL, downLL, stR, mkR, bsR, boxR, alR, apR, cpR, srcQ, solid, killC, killV, killE, killO, killH, hget, hset, hdel, pubV, pubC, pubO, renV, renC, renO, reduceIte, reduceCtorEq, Nat.reduceEqDiff, Nat.reduceLT, Nat.reduceAdd, Int.reduceToNat, Nat.reduceLeDiff, Int.reducePow, Int.reduceLE, Int.reduceLT]
    have hlen : ((List.range s).map fun j => if j < s - i then 0 else byteL n (s - 1 - j)).length = s := by simp
    rw [hlen]
    refine ⟨fun h0 => ⟨by omega, by omega, fun _ => ⟨by omega, by omega, fun e he _ => ⟨by omega, by omega, fun _ => ⟨by omega, fun _ => ⟨by omega, by omega, _, rfl, by omega, ?_⟩⟩⟩⟩⟩, fun h0 => ?_⟩
    · have e1 : ((i : Int) / 4).toNat = i / 4 := by omega
      have e2 : (8 * ((i : Int) % 4)).toNat = 8 * (i % 4) := by omega
      have e3 : ((s : Int) - 1 - i).toNat = s - 1 - i := by omega
      rw [e1] at he
      rw [e2, e3, if_pos (show 8 * (i % 4) ≤ 32 by omega), show e / 2 ^ (8 * (i % 4)) % 256 = byteL n i by rw [byteL, getD_of he]]
      refine back_intro [(0, uL fr n), (4, .int .i64 s), (5, .own 15 0 s true), (16, .int .i64 s), (17, .int .i64 ((i + 1 : Nat) : Int))] (by simp [eget, uL]) (by omega) ⟨i + 1, by omega, rfl, ?_⟩
      congr 4
      apply List.ext_getElem?
      intro j
      by_cases hj : j < s
      · rw [List.getElem?_set, List.getElem?_map, List.getElem?_map, List.getElem?_range hj]
        simp only [Option.map_some]
        by_cases hji : s - 1 - i = j
        · subst hji
          rw [if_pos rfl, if_pos (by simp; omega), if_neg (by omega), show s - 1 - (s - 1 - i) = i by omega]
        · rw [if_neg hji]
          by_cases h1 : j < s - i
          · rw [if_pos h1, if_pos (by omega)]
          · rw [if_neg h1, if_neg (by omega)]
      · rw [List.getElem?_eq_none (by simp; omega), List.getElem?_eq_none (by simp; omega)]
    · obtain rfl : i = s := by omega
      refine join_intro [(5, .own 15 0 i true)] (by simp [eget]) ?_
      have e4 : (List.range i).map (fun j => if j < i - i then 0 else byteL n (i - 1 - j)) = (List.range i).map (fun j => byteL n (i - 1 - j)) := List.map_congr_left fun j _ => by rw [if_neg (by omega)]
      rw [e4]
  · rintro st rfl
    simp only [W1, W2, W3, popTo, memb, res, wres, env0, byteAt, optI, cutB, cutL, sliceR, strR, ldCells, ldR, iaR, faR, lenR, lenSR, ixR, exR, nchkR, mxR, csR, up, ZV.av, ZV.fit, zfits, fits, fitsL, cellsOf, down, downL, downLL, stR, mkR, bsR, boxR, alR, apR, cpR, srcQ, solid, killC, killV, killE, killO, killH, hget, hset, hdel, pubV, pubC, pubO, renV, renC, renO, reduceIte, reduceCtorEq, Nat.reduceEqDiff, Nat.reduceLT, Nat.reduceAdd, Int.reduceToNat, Nat.reduceLeDiff, Int.reducePow, Int.reduceLE, Int.reduceLT]
    exact ret1' (by simp only [uB, retR, retA, retL, ret1, ret1L, eget, hget, hset, St.set, eset, List.map_cons, List.map_nil, reduceIte, reduceCtorEq, Nat.reduceEqDiff, Nat.reduceLT, true_and, and_true, false_or, or_true, true_or, List.drop_zero, List.take_length, scalE_I, scalE_B, scalE_S]; rw [List.take_of_length_le (by simp)])

theorem sloperef1_Bytes (fr : Bool) (n : List Int) : FSpec0 Try.prog 28 [uL fr n] (fun r => r = .tup [uB true (bytesR n), .int .i64 (bytesE n)]) := by
  refine FSpec0.of_facts fun hf => fspec0_of_run k28 ?_
  have ln : lim n := lim_of_factL hf.1
  simp only [uL, c28, W1, W2, W3, popTo, memb, res, wres, env0, byteAt, optI, cutB, cutL, sliceR, strR, ldCells, ldR, iaR, faR, lenR, lenSR, ixR, exR, nchkR, mxR, csR, up, ZV.av, ZV.fit, zfits, fits, fitsL, cellsOf, down, downL, downLL, stR, mkR, bsR, boxR, alR, apR, cpR, srcQ, solid, killC, killV, killE, killO, killH, hget, hset, hdel, pubV, pubC, pubO, renV, renC, renO, reduceIte, reduceCtorEq, Nat.reduceEqDiff, Nat.reduceLT, Nat.reduceAdd, Int.reduceToNat, Nat.reduceLeDiff, Int.reducePow, Int.reduceLE, Int.reduceLT]
  refine call1 (sloperef1_May fr n) (by repeat (first | exact subs_nil | refine subs_int ?_ | refine subs_ro ?_ | refine subs_bool ?_ | refine subs_str ?_ | refine subs_nilro ?_ | refine subs_lits rfl ?_ | refine subs_all rfl rfl (by simp) ?_ | refine subs_own rfl rfl ?_ | refine subs_fn ?_)) ?_
  simp only [uL, W1, W2, W3, popTo, memb, res, wres, env0, byteAt, optI, cutB, cutL, sliceR, strR, ldCells, ldR, iaR, faR, lenR, lenSR, ixR, exR, nchkR, mxR, csR, up, ZV.av, ZV.fit, zfits, fits, fitsL, cellsOf, down, downL, downLL, stR, mkR, bsR, boxR, alR, apR, cpR, srcQ, solid, killC, killV, killE, killO, killH, hget, hset, hdel, pubV, pubC, pubO, renV, renC, renO, reduceIte, reduceCtorEq, Nat.reduceEqDiff, Nat.reduceLT, Nat.reduceAdd, Int.reduceToNat, Nat.reduceLeDiff, Int.reducePow, Int.reduceLE, Int.reduceLT]
  refine ⟨fun h => ret1' (by rw [bytesR, bytesE, if_neg h, if_neg h]; simp only [uB, retR, retA, retL, ret1, ret1L, eget, hget, hset, St.set, eset, List.map_cons, List.map_nil, reduceIte, reduceCtorEq, Nat.reduceEqDiff, Nat.reduceLT, true_and, and_true, false_or, or_true, true_or, List.drop_zero, List.take_length, scalE_I, scalE_B, scalE_S]; rfl), fun h => ?_⟩
  have hm := Classical.not_not.1 h
  have hl := hm.1
  rw [bytesR, bytesE, if_pos hm, if_pos hm]
  have hs := bsize_le ln
  refine fun _ => ⟨by omega, by omega, ?_⟩
  have hlow := fun i => @byteL_high n ln i
  have htop := byteL_top ln
  rw [bytesL]
  generalize hz : bsize n = s at *
  refine cut_intro (fun st => st = ⟨[(4, .own 39 0 s true)], [(39, .arr 5 true true 1 (encI .u8) ((List.range s).map fun j => byteL n (s - 1 - j)))]⟩) ?_ ?_
  · simp only [W1, W2, W3, popTo, memb, res, wres, env0, byteAt, optI, cutB, cutL, sliceR, strR, ldCells, ldR, iaR, faR, lenR, lenSR, ixR, exR, nchkR, mxR, csR, up, ZV.av, ZV.fit, zfits, fits, fitsL, cellsOf, down, downL, downLL, stR, mkR, bsR, boxR, alR, apR, cpR, srcQ, solid, killC, killV, killE, killO, killH, hget, hset, hdel, pubV, pubC, pubO, renV, renC, renO, reduceIte, reduceCtorEq, Nat.reduceEqDiff, Nat.reduceLT, Nat.reduceAdd, Int.reduceToNat, Nat.reduceLeDiff, Int.reducePow, Int.reduceLE, Int.reduceLT]
    refine loop_introE (fun m st => ∃ c : Nat, c ≤ 4 * n.length ∧ m = c ∧ st = ⟨[(0, uL fr n), (4, .own 39 0 (s - c) true), (5, .int .i64 ((c : Int) - 1))], [(39, .arr 5 true true 1 (encI .u8) ((List.range (s - c)).map fun j => byteL n (s - 1 - j)))]⟩) (4 * n.length)
      (Ent.trans (Ent.nilv 4 39 5 1 (encI .u8) rfl rfl (by omega) (by omega)) (Ent.of_env (env' := [(0, uL fr n), (4, .own 39 0 0 true), (5, .int .i64 (4 * (n.length : Int) - 1))]) (by simp [eget, eset, uL]))) ⟨4 * n.length, by omega, rfl, by rw [show s - 4 * n.length = 0 by omega]; rfl⟩ ?_
    rintro m st ⟨c, hc, rfl, rfl⟩
    simp only [uL, W1, W2, W3, popTo, memb, res, wres, env0, byteAt, optI, cutB, cutL, sliceR, strR, ldCells, ldR, iaR, faR, lenR, lenSR, ixR, exR, nchkR, mxR, csR, up, ZV.av, ZV.fit, zfits, fits, fitsL, cellsOf, down, downL, downLL, stR, mkR, bsR, boxR, alR, apR, cpR, srcQ, solid, killC, killV, killE, killO, killH, hget, hset, hdel, pubV, pubC, pubO, renV, renC, renO, reduceIte, reduceCtorEq, Nat.reduceEqDiff, Nat.reduceLT, Nat.reduceAdd, Int.reduceToNat, Nat.reduceLeDiff, Int.reducePow, Int.reduceLE, Int.reduceLT]
    refine ⟨fun h0 _ => ⟨by omega, by omega, fun e he _ => ⟨by omega, by omega, fun _ => ⟨by omega, ?_⟩⟩⟩, fun h0 => ?_⟩
    · obtain ⟨c, rfl⟩ : ∃ c, m = c + 1 := ⟨m - 1, by omega⟩
      have e1 : ((((c + 1 : Nat) : Int) - 1) / 4).toNat = c / 4 := by omega
      have e2 : (8 * ((((c + 1 : Nat) : Int) - 1) % 4) % 18446744073709551616).toNat = 8 * (c % 4) := by omega
      rw [e1] at he
      have hlen : ((List.range (s - (c + 1))).map fun j => byteL n (s - 1 - j)).length = s - (c + 1) := by simp
      rw [e2, hlen, if_pos (show 8 * (c % 4) ≤ 32 by omega), show e / 2 ^ (8 * (c % 4)) % 256 = byteL n c by rw [byteL, getD_of he]]
      have htk : List.take (s - (c + 1)) ((List.range (s - (c + 1))).map fun j => byteL n (s - 1 - j)) = (List.range (s - (c + 1))).map fun j => byteL n (s - 1 - j) := List.take_of_length_le (by omega)
      have app : c < s → (List.range (s - (c + 1))).map (fun j => byteL n (s - 1 - j)) ++ [byteL n c] = (List.range (s - c)).map (fun j => byteL n (s - 1 - j)) := fun hc => by
        rw [show s - c = s - (c + 1) + 1 by omega, List.range_succ, List.map_append, List.map_cons, List.map_nil, show s - 1 - (s - (c + 1)) = c by omega]
      refine ⟨fun hne _ => ?_, fun heq _ => ⟨fun hpos _ => ?_, fun hnp => ⟨by omega, ?_⟩⟩⟩
      · have hc : c < s := Nat.lt_of_not_le fun hle => hne (hlow c hle)
        refine ⟨[byteL n c], ⟨rfl, by simp; omega⟩, by omega, ?_⟩
        rw [htk, app hc]
        exact back_intro [(0, uL fr n), (4, .own 39 0 (s - c) true), (5, .int .i64 ((c : Int) - 1))] (by simp [eget, uL] <;> omega) (by omega) ⟨c, by omega, rfl, rfl⟩
      · have hc : c < s := by omega
        refine ⟨[byteL n c], ⟨rfl, by simp; omega⟩, by omega, ?_⟩
        rw [htk, app hc]
        exact back_intro [(0, uL fr n), (4, .own 39 0 (s - c) true), (5, .int .i64 ((c : Int) - 1))] (by simp [eget, uL] <;> omega) (by omega) ⟨c, by omega, rfl, rfl⟩
      · have hc : s ≤ c := by
          refine Nat.le_of_not_lt fun hlt => ?_
          have : s = c + 1 := by omega
          have h1 := htop (by omega)
          rw [this, Nat.add_sub_cancel] at h1
          exact h1 (Classical.not_not.1 heq)
        rw [show s - (c + 1) = s - c by omega]
        exact back_intro [(0, uL fr n), (4, .own 39 0 (s - c) true), (5, .int .i64 ((c : Int) - 1))] (by simp [eget, uL] <;> omega) (by omega) ⟨c, by omega, rfl, rfl⟩
    · obtain rfl : m = 0 := by omega
      exact join_intro [(4, .own 39 0 s true)] (by simp [eget]) rfl
  · rintro st rfl
    simp only [W1, W2, W3, popTo, memb, res, wres, env0, byteAt, optI, cutB, cutL, sliceR, strR, ldCells, ldR, iaR, faR, lenR, lenSR, ixR, exR, nchkR, mxR, csR, up, ZV.av, ZV.fit, zfits, fits, fitsL, cellsOf, down, downL, downLL, stR, mkR, bsR, boxR, alR, apR, cpR, srcQ, solid, killC, killV, killE, killO, killH, hget, hset, hdel, pubV, pubC, pubO, renV, renC, renO, reduceIte, reduceCtorEq, Nat.reduceEqDiff, Nat.reduceLT, Nat.reduceAdd, Int.reduceToNat, Nat.reduceLeDiff, Int.reducePow, Int.reduceLE, Int.reduceLT]
    exact ret1' (by simp only [uB, retR, retA, retL, ret1, ret1L, eget, hget, hset, St.set, eset, List.map_cons, List.map_nil, reduceIte, reduceCtorEq, Nat.reduceEqDiff, Nat.reduceLT, true_and, and_true, false_or, or_true, true_or, List.drop_zero, List.take_length, scalE_I, scalE_B, scalE_S]; rw [List.take_of_length_le (by simp)])

theorem slopelaw1_sameBytes (fr fr' : Bool) (a b : List Int) : FSpec0 Try.prog 32 [uB fr a, uB fr' b] (fun r => r = .bool (decide (strOfNums a = strOfNums b))) := by
  refine fspec0_of_run k32 ?_
  simp only [uB, c32, W1, W2, W3, popTo, memb, res, wres, env0, byteAt, optI, cutB, cutL, sliceR, strR, ldCells, ldR, iaR, faR, lenR, lenSR, ixR, exR, nchkR, mxR, csR, up, ZV.av, ZV.fit, zfits, fits, fitsL, cellsOf, down, downL, downLL, stR, mkR, bsR, boxR, alR, apR, cpR, srcQ, solid, killC, killV, killE, killO, killH, hget, hset, hdel, pubV, pubC, pubO, renV, renC, renO, reduceIte, reduceCtorEq, Nat.reduceEqDiff, Nat.reduceLT, Nat.reduceAdd, Int.reduceToNat, Nat.reduceLeDiff, Int.reducePow, Int.reduceLE, Int.reduceLT]
  exact ⟨fun _ _ => rfl, fun _ _ => rfl, ret1' (by simp only [retR, retA, retL, ret1, ret1L, eget, hget, hset, St.set, eset, List.map_cons, List.map_nil, reduceIte, reduceCtorEq, Nat.reduceEqDiff, Nat.reduceLT, true_and, and_true, false_or, or_true, true_or, List.drop_zero, List.take_length, scalE_I, scalE_B, scalE_S])⟩

/-! ### FromBytes -/
/-- bytes, the lowest first, as a number -/
def val256 : List Int → Int
  | [] => 0
  | x :: xs => x + 256 * val256 xs
def byt (xs : List Int) : Prop := ∀ x, x ∈ xs → 0 ≤ x ∧ x < 256
/-- without the zeros ahead -/
def strip (b : List Int) : List Int := b.dropWhile (· == 0)
def fbL (b : List Int) : List Int := if (strip b).length ≤ 8192 then limbs (val256 b.reverse) else []
def fbE (b : List Int) : Int := if (strip b).length ≤ 8192 then 0 else 2

theorem val256_append : ∀ (xs ys : List Int), val256 (xs ++ ys) = val256 xs + 256 ^ xs.length * val256 ys
  | [], ys => by simp [val256]
  | x :: xs, ys => by
    simp only [List.cons_append, val256, val256_append xs ys, List.length_cons, Int.pow_succ]
    rw [Int.mul_add, Int.add_assoc, ← Int.mul_assoc, Int.mul_comm (256 ^ xs.length) 256]
theorem byt_of_factL {xs : List Int} (h : factL (encI .u8) xs) : byt xs := fun x hx => h.2 x hx (.int .u8 x) (by simp [encI])
theorem byt.drop {xs : List Int} (h : byt xs) (i : Nat) : byt (xs.drop i) := fun y hy => h y (List.mem_of_mem_drop hy)
theorem byt.rev {xs : List Int} (h : byt xs) : byt xs.reverse := fun y hy => h y (List.mem_reverse.1 hy)
theorem byt.take {xs : List Int} (h : byt xs) (i : Nat) : byt (xs.take i) := fun y hy => h y (List.mem_of_mem_take hy)
theorem byt.get {xs : List Int} (h : byt xs) {i : Nat} {e : Int} (he : xs[i]? = some e) : 0 ≤ e ∧ e < 256 := h e (List.mem_of_getElem? he)
theorem val256_bound : ∀ {xs : List Int}, byt xs → 0 ≤ val256 xs ∧ val256 xs < 256 ^ xs.length
  | [], _ => by simp [val256]
  | x :: xs, h => by
    obtain ⟨h1, h2⟩ := val256_bound (xs := xs) fun y hy => h y (List.mem_cons_of_mem _ hy)
    have h3 := h x List.mem_cons_self
    simp only [val256, List.length_cons, Int.pow_succ]
    refine ⟨by omega, ?_⟩
    generalize (256 : Int) ^ xs.length = p at *
    omega
theorem val256_zeros {xs : List Int} (h : ∀ x, x ∈ xs → x = 0) : val256 xs = 0 := by
  induction xs with
  | nil => rfl
  | cons x xs ih =>
    rw [val256, h x List.mem_cons_self, ih fun y hy => h y (List.mem_cons_of_mem _ hy)]; rfl

/-- how strip comes about -/
theorem strip_drop {b : List Int} {k : Nat} (hk : k ≤ b.length) (hz : ∀ x, x ∈ b.take k → x = 0) (ht : b[k]? ≠ some 0) : strip b = b.drop k := by
  unfold strip
  conv => lhs; rw [← List.take_append_drop k b]
  have h1 : ∀ l : List Int, (∀ x, x ∈ l → x = 0) → ∀ m : List Int, (l ++ m).dropWhile (· == 0) = m.dropWhile (· == 0) := by
    intro l
    induction l with
    | nil => intro _ m; rfl
    | cons a t ih =>
      intro h m
      obtain rfl := h a (by simp)
      simp only [List.cons_append, List.dropWhile_cons, beq_self_eq_true, if_true]
      exact ih (fun x hx => h x (by simp [hx])) m
  rw [h1 _ hz]
  by_cases h : k < b.length
  · have hx : (b[k] == 0) = false := by
      have : b[k] ≠ 0 := fun e => ht (by rw [List.getElem?_eq_getElem h, e])
      simpa using this
    rw [List.drop_eq_getElem_cons h, List.dropWhile_cons, hx]
    simp only [Bool.false_eq_true, if_false]
  · rw [List.drop_eq_nil_of_le (by omega)]; rfl
theorem val_stripped {b : List Int} {k : Nat} (hz : ∀ x, x ∈ b.take k → x = 0) : val256 (b.drop k).reverse = val256 b.reverse := by
  conv => rhs; rw [← List.take_append_drop k b, List.reverse_append, val256_append, val256_zeros (xs := (b.take k).reverse) (fun x hx => hz x (List.mem_reverse.1 hx))]
  simp

theorem val256_take {xs : List Int} {i : Nat} {e : Int} (h : xs[i]? = some e) : val256 (xs.take (i + 1)) = val256 (xs.take i) + 256 ^ i * e := by
  obtain ⟨h1, _⟩ := get_of_some h
  rw [take_step h, val256_append, List.length_take, Nat.min_eq_left (by omega)]; simp [val256]

/-- a byte put into its limb -/
theorem put_byte {O : List Int} {i : Nat} {x e : Int} (lO : lim O) (hb : val O < 256 ^ i) (hx : O[i / 4]? = some x) (he : 0 ≤ e ∧ e < 256) :
    ((x.toNat ||| (e * 2 ^ (8 * (i % 4)) % 4294967296).toNat : Nat) : Int) = x + e * 2 ^ (8 * (i % 4)) ∧ 0 ≤ x + e * 2 ^ (8 * (i % 4)) ∧ x + e * 2 ^ (8 * (i % 4)) < 4294967296 ∧
    val (O.set (i / 4) (x + e * 2 ^ (8 * (i % 4)))) = val O + 256 ^ i * e ∧ 0 ≤ e * 2 ^ (8 * (i % 4)) ∧ e * 2 ^ (8 * (i % 4)) % 4294967296 = e * 2 ^ (8 * (i % 4)) := by
  have hX := lO.get hx
  obtain ⟨hpq, hp, hq⟩ := pq_split (s := 8 * (i % 4)) (by omega)
  have hlt : x < 2 ^ (8 * (i % 4)) := by
    have h1 := div_drop' lO (i / 4)
    rw [val_drop hx] at h1
    have h2 := (val_bound (lO.drop (i / 4 + 1))).1
    have h3 : val O / 4294967296 ^ (i / 4) < 2 ^ (8 * (i % 4)) := by
      apply Int.ediv_lt_of_lt_mul (pow_pos' _)
      rw [Int.mul_comm, pow256]; exact hb
    omega
  have hq2 : (2 : Int) ^ (32 - 8 * (i % 4)) = 256 * 2 ^ (24 - 8 * (i % 4)) := by
    rw [show (256 : Int) = 2 ^ 8 from rfl, ← Int.pow_add]; congr 1; omega
  have hq3 : (1 : Int) ≤ 2 ^ (24 - 8 * (i % 4)) := Int.pow_pos (by omega)
  have e0 : 0 ≤ e * 2 ^ (8 * (i % 4)) := Int.mul_nonneg he.1 (by omega)
  have e1 : e * 2 ^ (8 * (i % 4)) ≤ 4294967296 - 2 ^ (8 * (i % 4)) := by
    have h1 : e * 2 ^ (8 * (i % 4)) ≤ 255 * 2 ^ (8 * (i % 4)) := Int.mul_le_mul_of_nonneg_right (by omega) (by omega)
    have h2 : (256 : Int) * 2 ^ (8 * (i % 4)) ≤ 4294967296 := by
      rw [← hpq, hq2, Int.mul_comm 256]
      refine Int.mul_le_mul_of_nonneg_left ?_ (by omega)
      omega
    omega
  have em : e * 2 ^ (8 * (i % 4)) % 4294967296 = e * 2 ^ (8 * (i % 4)) := Int.emod_eq_of_lt e0 (by omega)
  refine ⟨by rw [em]; exact or_mul ⟨hX.1, hlt⟩ he.1, by omega, by omega, ?_, e0, em⟩
  rw [val_set hx, ← pow256, Int.mul_assoc, show x + e * 2 ^ (8 * (i % 4)) - x = 2 ^ (8 * (i % 4)) * e by rw [Int.mul_comm]; omega]

theorem natural_FromBytes (fr : Bool) (b : List Int) : FSpec0 Try.prog 29 [uB fr b] (fun r => r = lE (fbL b) (fbE b)) := by
  refine FSpec0.of_facts fun hf => fspec0_of_run k29 ?_
  have lb : byt b := byt_of_factL hf.1
  have hlen0 := hf.1.1
  simp only [uB, c29, W1, W2, W3, popTo, memb, res, wres, env0, byteAt, optI, cutB, cutL, sliceR, strR, ldCells, ldR, iaR, faR, lenR, lenSR, ixR, exR, nchkR, mxR, csR, up, ZV.av, ZV.fit, zfits, fits, fitsL, cellsOf, down, downL, downLL, stR, mkR, bsR, boxR, alR, apR, cpR, srcQ, solid, killC, killV, killE, killO, killH, hget, hset, hdel, pubV, pubC, pubO, renV, renC, renO, reduceIte, reduceCtorEq, Nat.reduceEqDiff, Nat.reduceLT, Nat.reduceAdd, Int.reduceToNat, Nat.reduceLeDiff, Int.reducePow, Int.reduceLE, Int.reduceLT]
  refine cut_intro (fun st => ∃ k : Nat, k ≤ b.length ∧ (∀ x, x ∈ b.take k → x = 0) ∧ strip b = b.drop k ∧ st = ⟨[(0, uB fr (b.drop k))], []⟩) ?_ ?_
  · simp only [W1, W2, W3, popTo, memb, res, wres, env0, byteAt, optI, cutB, cutL, sliceR, strR, ldCells, ldR, iaR, faR, lenR, lenSR, ixR, exR, nchkR, mxR, csR, up, ZV.av, ZV.fit, zfits, fits, fitsL, cellsOf, down, downL, downLL, stR, mkR, bsR, boxR, alR, apR, cpR, srcQ, solid, killC, killV, killE, killO, killH, hget, hset, hdel, pubV, pubC, pubO, renV, renC, renO, reduceIte, reduceCtorEq, Nat.reduceEqDiff, Nat.reduceLT, Nat.reduceAdd, Int.reduceToNat, Nat.reduceLeDiff, Int.reducePow, Int.reduceLE, Int.reduceLT]
    refine loop_intro (fun m st => ∃ k : Nat, k ≤ b.length ∧ m = b.length - k ∧ (∀ x, x ∈ b.take k → x = 0) ∧ st = ⟨[(0, uB fr (b.drop k))], []⟩) b.length
      [(0, uB fr (b.drop 0))] (by simp [eget, uB]) ⟨0, by omega, by omega, by simp, rfl⟩ ?_
    rintro m st ⟨k, hk, rfl, hz, rfl⟩
    simp only [uB, W1, W2, W3, popTo, memb, res, wres, env0, byteAt, optI, cutB, cutL, sliceR, strR, ldCells, ldR, iaR, faR, lenR, lenSR, ixR, exR, nchkR, mxR, csR, up, ZV.av, ZV.fit, zfits, fits, fitsL, cellsOf, down, downL, downLL, stR, mkR, bsR, boxR, alR, apR, cpR, srcQ, solid, killC, killV, killE, killO, killH, hget, hset, hdel, pubV, pubC, pubO, renV, renC, renO, reduceIte, reduceCtorEq, Nat.reduceEqDiff, Nat.reduceLT, Nat.reduceAdd, Int.reduceToNat, Nat.reduceLeDiff, Int.reducePow, Int.reduceLE, Int.reduceLT]
    intro _
    have ht : ∀ e, (b.drop k)[0]? = some e → b[k]? = some e := fun e he => by simpa [List.getElem?_drop] using he
    refine ⟨fun h0 => ⟨h0, fun e he => ⟨fun e0 => ⟨by omega, ?_⟩, fun e0 => ?_⟩⟩, fun h0 => ?_⟩
    · have he := ht e he
      rw [List.drop_drop]
      have hk1 := (get_of_some he).1
      refine back_intro [(0, uB fr (b.drop (k + 1)))] (by simp [eget, uB]) (by omega) ⟨k + 1, by omega, rfl, fun x hx => ?_, rfl⟩
      rw [take_step he] at hx
      rcases List.mem_append.1 hx with h1 | h1
      · exact hz x h1
      · simp at h1; omega
    · have he := ht e he
      exact join_intro [(0, uB fr (b.drop k))] (by simp [eget, uB]) ⟨k, hk, hz, strip_drop hk hz (by rw [he]; simpa using e0), rfl⟩
    · have hk2 : b.length ≤ k := by rw [List.length_drop] at h0; omega
      exact join_intro [(0, uB fr (b.drop k))] (by simp [eget, uB]) ⟨k, hk, hz, strip_drop hk hz (by rw [List.getElem?_eq_none hk2]; simp), rfl⟩
  rintro st ⟨k, hk, hz, hst, rfl⟩
  have hval := val_stripped hz
  have lc := lb.drop k
  have hcl : (b.drop k).length ≤ 281474976710656 := by rw [List.length_drop]; omega
  rw [fbL, fbE, hst, ← hval]
  clear hz hst hval
  generalize b.drop k = c at *
  simp only [uB, W1, W2, W3, popTo, memb, res, wres, env0, byteAt, optI, cutB, cutL, sliceR, strR, ldCells, ldR, iaR, faR, lenR, lenSR, ixR, exR, nchkR, mxR, csR, up, ZV.av, ZV.fit, zfits, fits, fitsL, cellsOf, down, downL, downLL, stR, mkR, bsR, boxR, alR, apR, cpR, srcQ, solid, killC, killV, killE, killO, killH, hget, hset, hdel, pubV, pubC, pubO, renV, renC, renO, reduceIte, reduceCtorEq, Nat.reduceEqDiff, Nat.reduceLT, Nat.reduceAdd, Int.reduceToNat, Nat.reduceLeDiff, Int.reducePow, Int.reduceLE, Int.reduceLT]
  intro _
  refine ⟨fun h => ret1' (by rw [if_neg (by omega), if_neg (by omega)]; simp only [uL, retR, retA, retL, ret1, ret1L, eget, hget, hset, St.set, eset, List.map_cons, List.map_nil, reduceIte, reduceCtorEq, Nat.reduceEqDiff, Nat.reduceLT, true_and, and_true, false_or, or_true, true_or, List.drop_zero, List.take_length, scalE_I, scalE_B, scalE_S]; rfl), fun h _ => ⟨by omega, fun _ => ?_⟩⟩
  rw [if_pos (by omega), if_pos (by omega)]
  refine ⟨by omega, by omega, fun _ => ?_⟩
  rw [show (((c.length : Int) + 3) / 4).toNat = (c.length + 3) / 4 by omega]
  generalize hM : (c.length + 3) / 4 = M
  have lr := lc.rev
  refine cut_intro (fun st => ∃ O : List Int, O.length = M ∧ lim O ∧ val O = val256 c.reverse ∧ st = ⟨[(4, .own 24 0 M true)], [(24, .arr 99 true true 1 (encI .u32) O)]⟩) ?_ ?_
  · simp only [W1, W2, W3, popTo, memb, res, wres, env0, byteAt, optI, cutB, cutL, sliceR, strR, ldCells, ldR, iaR, faR, lenR, lenSR, ixR, exR, nchkR, mxR, csR, up, ZV.av, ZV.fit, zfits, fits, fitsL, cellsOf, down, downL, downLL, stR, mkR, bsR, boxR, alR, apR, cpR, srcQ, solid, killC, killV, killE, killO, killH, hget, hset, hdel, pubV, pubC, pubO, renV, renC, renO, reduceIte, reduceCtorEq, Nat.reduceEqDiff, Nat.reduceLT, Nat.reduceAdd, Int.reduceToNat, Nat.reduceLeDiff, Int.reducePow, Int.reduceLE, Int.reduceLT]
    refine loop_intro (fun m st => ∃ (i : Nat) (O : List Int), i ≤ c.length ∧ m = c.length - i ∧ O.length = M ∧ lim O ∧ val O = val256 (c.reverse.take i) ∧ st = ⟨[(0, uB fr c), (4, .own 24 0 M true), (26, .int .i64 c.length), (27, .int .i64 i)], [(24, .arr 99 true true 1 (encI .u32) O)]⟩) c.length
      [(0, uB fr c), (4, .own 24 0 M true), (26, .int .i64 c.length), (27, .int .i64 (0 : Nat))] (by simp [eget, uB]) ⟨0, List.replicate M 0, by omega, by omega, by simp, lim.rep _, by rw [val_rep]; simp [val256], rfl⟩ ?_
    rintro m st ⟨i, O, hi, rfl, hol, lO, hv, rfl⟩
    simp only [uB, W1, W2, W3, popTo, memb, res, wres, env0, byteAt, optI, cutB, cutL, sliceR, strR, ldCells, ldR, iaR, faR, lenR, lenSR, ixR, exR, nchkR, mxR, csR, up, ZV.av, ZV.fit, zfits, fits, fitsL, cellsOf, down, downL, downLL, stR, mkR, bsR, boxR, alR, apR, cpR, srcQ, solid, killC, killV, killE, killO, killH, hget, hset, hdel, pubV, pubC, pubO, renV, renC, renO, reduceIte, reduceCtorEq, Nat.reduceEqDiff, Nat.reduceLT, Nat.reduceAdd, Int.reduceToNat, Nat.reduceLeDiff, Int.reducePow, Int.reduceLE, Int.reduceLT]
    refine ⟨fun h0 => ?_, fun h0 => ?_⟩
    · have hb := val256_bound (lr.take i)
      rw [List.length_take, List.length_reverse, Nat.min_eq_left hi, ← hv] at hb
      have e1 : ((i : Int) / 4).toNat = i / 4 := by omega
      have e2 : (8 * ((i : Int) % 4)).toNat = 8 * (i % 4) := by omega
      have e3 : ((c.length : Int) - 1 - i).toNat = c.length - 1 - i := by omega
      rw [e1, e2, e3, hol]
      refine fun _ => ⟨by omega, fun _ => ⟨by omega, by omega, fun x hx _ => ⟨by omega, by omega, by omega, fun e he _ _ => ⟨by omega, by omega, by omega, fun _ => ?_⟩⟩⟩⟩
      have hE := lc.get he
      obtain ⟨q1, q2, q3, q4, q5, q6⟩ := put_byte lO hb.2 hx hE
      have hX := lO.get hx
      rw [q1, q6]
      refine ⟨by omega, fun _ => ⟨by omega, by omega, _, rfl, by omega, ?_⟩⟩
      refine back_intro [(0, uB fr c), (4, .own 24 0 M true), (26, .int .i64 c.length), (27, .int .i64 ((i + 1 : Nat) : Int))] (by simp [eget, uB]) (by omega) ⟨i + 1, _, by omega, rfl, by rw [List.length_set]; exact hol, lO.set _ ⟨q2, q3⟩, ?_, rfl⟩
      have hr : c.reverse[i]? = some e := by rw [List.getElem?_reverse (by omega)]; exact he
      rw [q4, hv, val256_take hr]
    · obtain rfl : i = c.length := by omega
      rw [List.take_of_length_le (by simp)] at hv
      exact join_intro [(4, .own 24 0 M true)] (by simp [eget]) ⟨O, hol, lO, hv, rfl⟩
  · rintro st ⟨O, hol, lO, hv, rfl⟩
    simp only [W1, W2, W3, popTo, memb, res, wres, env0, byteAt, optI, cutB, cutL, sliceR, strR, ldCells, ldR, iaR, faR, lenR, lenSR, ixR, exR, nchkR, mxR, csR, up, ZV.av, ZV.fit, zfits, fits, fitsL, cellsOf, down, downL, downLL, stR, mkR, bsR, boxR, alR, apR, cpR, srcQ, solid, killC, killV, killE, killO, killH, hget, hset, hdel, pubV, pubC, pubO, renV, renC, renO, reduceIte, reduceCtorEq, Nat.reduceEqDiff, Nat.reduceLT, Nat.reduceAdd, Int.reduceToNat, Nat.reduceLeDiff, Int.reducePow, Int.reduceLE, Int.reduceLT]
    refine call1 (natural_trim false O (by omega)) (by repeat (first | exact subs_nil | refine subs_all rfl rfl (by omega) ?_)) ?_
    simp only [uL, W1, W2, W3, popTo, memb, res, wres, env0, byteAt, optI, cutB, cutL, sliceR, strR, ldCells, ldR, iaR, faR, lenR, lenSR, ixR, exR, nchkR, mxR, csR, up, ZV.av, ZV.fit, zfits, fits, fitsL, cellsOf, down, downL, downLL, stR, mkR, bsR, boxR, alR, apR, cpR, srcQ, solid, killC, killV, killE, killO, killH, hget, hset, hdel, pubV, pubC, pubO, renV, renC, renO, reduceIte, reduceCtorEq, Nat.reduceEqDiff, Nat.reduceLT, Nat.reduceAdd, Int.reduceToNat, Nat.reduceLeDiff, Int.reducePow, Int.reduceLE, Int.reduceLT]
    exact ret1' (by rw [trimL_limbs lO, hv]; simp only [uL, retR, retA, retL, ret1, ret1L, eget, hget, hset, St.set, eset, List.map_cons, List.map_nil, reduceIte, reduceCtorEq, Nat.reduceEqDiff, Nat.reduceLT, true_and, and_true, false_or, or_true, true_or, List.drop_zero, List.take_length, scalE_I, scalE_B, scalE_S])

theorem sloperef1_FromBytes (fr : Bool) (b : List Int) : FSpec0 Try.prog 30 [uB fr b] (fun r => r = lE (fbL b) (fbE b)) := by
  refine FSpec0.of_facts fun hf => fspec0_of_run k30 ?_
  have lb : byt b := byt_of_factL hf.1
  have hlen0 := hf.1.1
  simp only [uB, c30, W1, W2, W3, popTo, memb, res, wres, env0, byteAt, optI, cutB, cutL, sliceR, strR, ldCells, ldR, iaR, faR, lenR, lenSR, ixR, exR, nchkR, mxR, csR, up, ZV.av, ZV.fit, zfits, fits, fitsL, cellsOf, down, downL, downLL, stR, mkR, bsR, boxR, alR, apR, cpR, srcQ, solid, killC, killV, killE, killO, killH, hget, hset, hdel, pubV, pubC, pubO, renV, renC, renO, reduceIte, reduceCtorEq, Nat.reduceEqDiff, Nat.reduceLT, Nat.reduceAdd, Int.reduceToNat, Nat.reduceLeDiff, Int.reducePow, Int.reduceLE, Int.reduceLT]
  refine cut_intro (fun st => ∃ k : Nat, k ≤ b.length ∧ (∀ x, x ∈ b.take k → x = 0) ∧ strip b = b.drop k ∧ st = ⟨[(0, uB fr b), (4, .int .i64 k)], []⟩) ?_ ?_
  · simp only [W1, W2, W3, popTo, memb, res, wres, env0, byteAt, optI, cutB, cutL, sliceR, strR, ldCells, ldR, iaR, faR, lenR, lenSR, ixR, exR, nchkR, mxR, csR, up, ZV.av, ZV.fit, zfits, fits, fitsL, cellsOf, down, downL, downLL, stR, mkR, bsR, boxR, alR, apR, cpR, srcQ, solid, killC, killV, killE, killO, killH, hget, hset, hdel, pubV, pubC, pubO, renV, renC, renO, reduceIte, reduceCtorEq, Nat.reduceEqDiff, Nat.reduceLT, Nat.reduceAdd, Int.reduceToNat, Nat.reduceLeDiff, Int.reducePow, Int.reduceLE, Int.reduceLT]
    refine loop_intro (fun m st => ∃ k : Nat, k ≤ b.length ∧ m = b.length - k ∧ (∀ x, x ∈ b.take k → x = 0) ∧ st = ⟨[(0, uB fr b), (4, .int .i64 k)], []⟩) b.length
      [(0, uB fr b), (4, .int .i64 (0 : Nat))] (by simp [eget, uB]) ⟨0, by omega, by omega, by simp, rfl⟩ ?_
    rintro m st ⟨k, hk, rfl, hz, rfl⟩
    simp only [uB, W1, W2, W3, popTo, memb, res, wres, env0, byteAt, optI, cutB, cutL, sliceR, strR, ldCells, ldR, iaR, faR, lenR, lenSR, ixR, exR, nchkR, mxR, csR, up, ZV.av, ZV.fit, zfits, fits, fitsL, cellsOf, down, downL, downLL, stR, mkR, bsR, boxR, alR, apR, cpR, srcQ, solid, killC, killV, killE, killO, killH, hget, hset, hdel, pubV, pubC, pubO, renV, renC, renO, reduceIte, reduceCtorEq, Nat.reduceEqDiff, Nat.reduceLT, Nat.reduceAdd, Int.reduceToNat, Nat.reduceLeDiff, Int.reducePow, Int.reduceLE, Int.reduceLT]
    refine fun _ => ⟨fun h0 => ⟨by omega, fun e he => ⟨fun e0 => ⟨by omega, ?_⟩, fun e0 => ?_⟩⟩, fun h0 => ?_⟩
    · refine back_intro [(0, uB fr b), (4, .int .i64 ((k + 1 : Nat) : Int))] (by simp [eget, uB]) (by omega) ⟨k + 1, by omega, rfl, fun x hx => ?_, rfl⟩
      rw [take_step he] at hx
      rcases List.mem_append.1 hx with h1 | h1
      · exact hz x h1
      · simp at h1; omega
    · exact join_intro [(0, uB fr b), (4, .int .i64 k)] (by simp [eget, uB]) ⟨k, hk, hz, strip_drop hk hz (by rw [he]; simpa using e0), rfl⟩
    · exact join_intro [(0, uB fr b), (4, .int .i64 k)] (by simp [eget, uB]) ⟨k, hk, hz, strip_drop hk hz (by rw [List.getElem?_eq_none (by omega)]; simp), rfl⟩
  rintro st ⟨k, hk, hz, hst, rfl⟩
  have hval := val_stripped hz
  have lc := lb.drop k
  rw [fbL, fbE, hst, ← hval]
  simp only [uB, W1, W2, W3, popTo, memb, res, wres, env0, byteAt, optI, cutB, cutL, sliceR, strR, ldCells, ldR, iaR, faR, lenR, lenSR, ixR, exR, nchkR, mxR, csR, up, ZV.av, ZV.fit, zfits, fits, fitsL, cellsOf, down, downL, downLL, stR, mkR, bsR, boxR, alR, apR, cpR, srcQ, solid, killC, killV, killE, killO, killH, hget, hset, hdel, pubV, pubC, pubO, renV, renC, renO, reduceIte, reduceCtorEq, Nat.reduceEqDiff, Nat.reduceLT, Nat.reduceAdd, Int.reduceToNat, Nat.reduceLeDiff, Int.reducePow, Int.reduceLE, Int.reduceLT]
  intro _
  have hcl : (b.drop k).length = b.length - k := List.length_drop
  have hidx : ∀ i, i < b.length - k → (b.drop k).reverse[i]? = b[b.length - 1 - i]? := fun i hi => by
    rw [List.getElem?_reverse (by omega), List.getElem?_drop]; congr 1; omega
  rw [hcl]
  have lr := lc.rev
  have hrl : (b.drop k).reverse.length = b.length - k := by rw [List.length_reverse, hcl]
  generalize (b.drop k).reverse = c at *
  refine ⟨by omega, fun h => ret1' (by rw [if_neg (by omega), if_neg (by omega)]; simp only [uL, retR, retA, retL, ret1, ret1L, eget, hget, hset, St.set, eset, List.map_cons, List.map_nil, reduceIte, reduceCtorEq, Nat.reduceEqDiff, Nat.reduceLT, true_and, and_true, false_or, or_true, true_or, List.drop_zero, List.take_length, scalE_I, scalE_B, scalE_S]; rfl), fun h _ => ⟨by omega, by omega, fun _ => ⟨by omega, by omega, ?_⟩⟩⟩
  rw [if_pos (by omega), if_pos (by omega)]
  rw [show (((b.length : Int) - k + 3) / 4).toNat = (b.length - k + 3) / 4 by omega]
  generalize hM : (b.length - k + 3) / 4 = M
  refine cut_intro (fun st => ∃ O : List Int, O.length = M ∧ lim O ∧ val O = val256 c ∧ st = ⟨[(5, .own 31 0 M true)], [(31, .arr 99 true true 1 (encI .u32) O)]⟩) ?_ ?_
  · simp only [W1, W2, W3, popTo, memb, res, wres, env0, byteAt, optI, cutB, cutL, sliceR, strR, ldCells, ldR, iaR, faR, lenR, lenSR, ixR, exR, nchkR, mxR, csR, up, ZV.av, ZV.fit, zfits, fits, fitsL, cellsOf, down, downL, downLL, stR, mkR, bsR, boxR, alR, apR, cpR, srcQ, solid, killC, killV, killE, killO, killH, hget, hset, hdel, pubV, pubC, pubO, renV, renC, renO, reduceIte, reduceCtorEq, Nat.reduceEqDiff, Nat.reduceLT, Nat.reduceAdd, Int.reduceToNat, Nat.reduceLeDiff, Int.reducePow, Int.reduceLE, Int.reduceLT]
    refine loop_intro (fun m st => ∃ (i : Nat) (O : List Int), i ≤ b.length - k ∧ m = b.length - k - i ∧ O.length = M ∧ lim O ∧ val O = val256 (c.take i) ∧ st = ⟨[(0, uB fr b), (4, .int .i64 k), (5, .own 31 0 M true), (6, .int .i64 i)], [(31, .arr 99 true true 1 (encI .u32) O)]⟩) (b.length - k)
      [(0, uB fr b), (4, .int .i64 k), (5, .own 31 0 M true), (6, .int .i64 (0 : Nat))] (by simp [eget, uB]) ⟨0, List.replicate M 0, by omega, by omega, by simp, lim.rep _, by rw [val_rep]; simp [val256], rfl⟩ ?_
    rintro m st ⟨i, O, hi, rfl, hol, lO, hv, rfl⟩
    simp only [uB, W1, W2, W3, popTo, memb, res, wres, env0, byteAt, optI, cutB, cutL, sliceR, strR, ldCells, ldR, iaR, faR, lenR, lenSR, ixR, exR, nchkR, mxR, csR, up, ZV.av, ZV.fit, zfits, fits, fitsL, cellsOf, down, downL, downLL, stR, mkR, bsR, boxR, alR, apR, cpR, srcQ, solid, killC, killV, killE, killO, killH, hget, hset, hdel, pubV, pubC, pubO, renV, renC, renO, reduceIte, reduceCtorEq, Nat.reduceEqDiff, Nat.reduceLT, Nat.reduceAdd, Int.reduceToNat, Nat.reduceLeDiff, Int.reducePow, Int.reduceLE, Int.reduceLT]
    refine fun _ => ⟨by omega, fun h0 => ?_, fun h0 => ?_⟩
    · have hb := val256_bound (lr.take i)
      rw [List.length_take, hrl, Nat.min_eq_left hi, ← hv] at hb
      have e1 : ((i : Int) / 4).toNat = i / 4 := by omega
      have e2 : (8 * ((i : Int) % 4) % 18446744073709551616).toNat = 8 * (i % 4) := by omega
      have e3 : ((b.length : Int) - 1 - i).toNat = b.length - 1 - i := by omega
      rw [e1, e2, e3, hol]
      refine fun _ => ⟨by omega, fun _ => ⟨by omega, fun _ => ⟨by omega, by omega, fun x hx _ => ⟨by omega, by omega, by omega, fun e he _ _ => ⟨by omega, by omega, by omega, fun _ => ?_⟩⟩⟩⟩⟩
      have hr : c[i]? = some e := by rw [hidx i (by omega)]; exact he
      have hE := lr.get hr
      obtain ⟨q1, q2, q3, q4, q5, q6⟩ := put_byte lO hb.2 hx hE
      have hX := lO.get hx
      rw [q1, q6]
      refine ⟨by omega, fun _ => ⟨by omega, by omega, _, rfl, by omega, ?_⟩⟩
      refine back_intro [(0, uB fr b), (4, .int .i64 k), (5, .own 31 0 M true), (6, .int .i64 ((i + 1 : Nat) : Int))] (by simp [eget, uB]) (by omega) ⟨i + 1, _, by omega, rfl, by rw [List.length_set]; exact hol, lO.set _ ⟨q2, q3⟩, ?_, rfl⟩
      rw [q4, hv, val256_take hr]
    · obtain rfl : i = b.length - k := by omega
      rw [List.take_of_length_le (by omega)] at hv
      exact join_intro [(5, .own 31 0 M true)] (by simp [eget]) ⟨O, hol, lO, hv, rfl⟩
  · rintro st ⟨O, hol, lO, hv, rfl⟩
    simp only [W1, W2, W3, popTo, memb, res, wres, env0, byteAt, optI, cutB, cutL, sliceR, strR, ldCells, ldR, iaR, faR, lenR, lenSR, ixR, exR, nchkR, mxR, csR, up, ZV.av, ZV.fit, zfits, fits, fitsL, cellsOf, down, downL, downLL, stR, mkR, bsR, boxR, alR, apR, cpR, srcQ, solid, killC, killV, killE, killO, killH, hget, hset, hdel, pubV, pubC, pubO, renV, renC, renO, reduceIte, reduceCtorEq, Nat.reduceEqDiff, Nat.reduceLT, Nat.reduceAdd, Int.reduceToNat, Nat.reduceLeDiff, Int.reducePow, Int.reduceLE, Int.reduceLT]
    refine call1 (sloperef1_fit false O (by omega)) (by repeat (first | exact subs_nil | refine subs_all rfl rfl (by omega) ?_)) ?_
    simp only [uL, W1, W2, W3, popTo, memb, res, wres, env0, byteAt, optI, cutB, cutL, sliceR, strR, ldCells, ldR, iaR, faR, lenR, lenSR, ixR, exR, nchkR, mxR, csR, up, ZV.av, ZV.fit, zfits, fits, fitsL, cellsOf, down, downL, downLL, stR, mkR, bsR, boxR, alR, apR, cpR, srcQ, solid, killC, killV, killE, killO, killH, hget, hset, hdel, pubV, pubC, pubO, renV, renC, renO, reduceIte, reduceCtorEq, Nat.reduceEqDiff, Nat.reduceLT, Nat.reduceAdd, Int.reduceToNat, Nat.reduceLeDiff, Int.reducePow, Int.reduceLE, Int.reduceLT]
    have h1 : (limbs (val256 c)).length ≤ 2048 := by
      have := trimL_len O
      rw [trimL_limbs lO, hv] at this; omega
    exact ret1' (by rw [hv, fitL, fitE, if_pos h1, if_pos h1]; simp only [uL, retR, retA, retL, ret1, ret1L, eget, hget, hset, St.set, eset, List.map_cons, List.map_nil, reduceIte, reduceCtorEq, Nat.reduceEqDiff, Nat.reduceLT, true_and, and_true, false_or, or_true, true_or, List.drop_zero, List.take_length, scalE_I, scalE_B, scalE_S])

end Go.Vc
