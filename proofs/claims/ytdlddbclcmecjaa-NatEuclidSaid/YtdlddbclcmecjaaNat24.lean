/-
  The document's division, bit by bit.
-/
import Derived.Test.YtdlddbclcmecjaaNat23
set_option linter.unusedVariables false
set_option linter.unusedSimpArgs false
namespace Go.Vc
open Go
open Go.Proofs

/- sloperef1.Bit: arguments 2, results in [4]; slots in use where its loops begin: [] -/
def c118 : MC := .seq (.ops [ .op (some 4) none (.p (.mv (.i .i64 (0)))), .gh (.drop [4])]) (.seq (.seq (.ops [ .op (some 5) none (.p (.mv (.t 0))), .op (some 6) none (.call 85 [(.t 5)]), .op (some 7) none (.p (.un .not (.t 6))), .op (some 8) none (.p (.mv (.t 7))), .op (some 9) (some (8, false)) (.p (.mv (.t 1))), .op (some 10) (some (8, false)) (.p (.bin .lss (.t 9) (.i .i64 (0)))), .op (some 11) none (.pick (.t 8) (.b true) (.t 10)), .op (some 12) none (.p (.mv (.t 11))), .op (some 13) (some (12, false)) (.p (.mv (.t 1))), .op (some 14) (some (12, false)) (.p (.bin .quo (.t 13) (.i .i64 (32)))), .op (some 15) (some (12, false)) (.p (.mv (.t 0))), .op (some 16) (some (12, false)) (.p (.len (.t 15))), .op (some 17) (some (12, false)) (.p (.bin .geq (.t 14) (.t 16))), .op (some 18) none (.pick (.t 12) (.b true) (.t 17)), .gh (.drop [5, 6, 7, 8, 9, 10, 11, 12, 13, 14, 15, 16, 17])]) (.cond (.t 18) (.seq (.ops [ .op (some 4) none (.p (.mv (.i .i64 (0))))]) (.ret)) (.skip))) (.seq (.ops [ .op (some 19) none (.p (.mv (.t 0))), .op (some 20) none (.p (.mv (.t 1))), .op (some 21) none (.p (.bin .quo (.t 20) (.i .i64 (32)))), .op (some 22) none (.p (.ia 1 (.t 19) (.t 21))), .op (some 23) none (.p (.ld 1 false (.t 22))), .op (some 24) none (.p (.mv (.t 1))), .op (some 25) none (.p (.bin .rem (.t 24) (.i .i64 (32)))), .op (some 26) none (.p (.cv .u64 (.t 25))), .op (some 27) none (.p (.bin .shr (.t 23) (.t 26))), .op (some 28) none (.p (.bin .and (.t 27) (.i .u32 (1)))), .op (some 29) none (.p (.cv .i64 (.t 28))), .op (some 4) none (.p (.mv (.t 29))), .gh (.drop [0, 1, 19, 20, 21, 22, 23, 24, 25, 26, 27, 28, 29])]) (.ret)))
theorem k118 : chkF Try.prog 118 2 [4] c118 = true := by kernel_rfl

/- sloperef1.Bits: arguments 1, results in [2]; slots in use where its loops begin: [[0, 3]] -/
def c116 : MC := .seq (.ops [ .op (some 2) none (.p (.mv (.i .i64 (0)))), .gh (.drop [2])]) (.seq (.seq (.ops [ .op (some 4) none (.p (.mv (.t 0))), .op (some 5) none (.call 85 [(.t 4)]), .op (some 6) none (.p (.un .not (.t 5))), .gh (.drop [4, 5])]) (.cond (.t 6) (.seq (.ops [ .op (some 2) none (.p (.mv (.i .i64 (0))))]) (.ret)) (.skip))) (.seq (.seq (.ops [ .op (some 7) none (.p (.mv (.t 0))), .op (some 8) none (.p (.len (.t 7))), .op (some 9) none (.p (.bin .mul (.i .i64 (32)) (.t 8))), .op (some 10) none (.p (.bin .sub (.t 9) (.i .i64 (1)))), .op (some 3) none (.p (.mv (.t 10))), .gh (.drop [7, 8, 9, 10])]) (.cut (.block 0 (.loop (.seq (.seq (.ops [ .op (some 11) none (.p (.mv (.t 3))), .op (some 12) none (.p (.bin .geq (.t 11) (.i .i64 (0)))), .gh (.drop [11])]) (.cond (.t 12) (.skip) (.exit 0))) (.seq (.block 1 (.seq (.ops [ .op (some 15) none (.p (.mv (.t 0))), .op (some 16) none (.p (.mv (.t 3))), .op (some 17) none (.call 118 [(.t 15), (.t 16)]), .op (some 18) none (.p (.bin .eql (.t 17) (.i .i64 (1)))), .gh (.drop [15, 16, 17])]) (.cond (.t 18) (.seq (.ops [ .op (some 19) none (.p (.mv (.t 3))), .op (some 20) none (.p (.bin .add (.t 19) (.i .i64 (1)))), .op (some 2) none (.p (.mv (.t 20))), .gh (.drop [3, 19, 20])]) (.ret)) (.skip)))) (.ops [ .op (some 13) none (.p (.mv (.t 3))), .op (some 14) none (.p (.bin .sub (.t 13) (.i .i64 (1)))), .op (some 3) none (.p (.mv (.t 14))), .gh (.drop [13, 14])]))))))) (.seq (.ops [ .op (some 2) none (.p (.mv (.i .i64 (0))))]) (.ret))))
theorem k116 : chkF Try.prog 116 1 [2] c116 = true := by kernel_rfl

/- sloperef1.twice: arguments 2, results in []; slots in use where its loops begin: [[0, 4, 5]] -/
def c117 : MC := .seq (.ops [ .op (some 7) none (.p (.mv (.t 1))), .op (some 8) none (.p (.cv .u32 (.t 7))), .op (some 4) none (.p (.mv (.t 8))), .gh (.drop [1, 7, 8])]) (.seq (.ops [ .op (some 5) none (.p (.mv (.i .i64 (0))))]) (.cut (.block 0 (.loop (.seq (.seq (.ops [ .op (some 9) none (.p (.mv (.t 5))), .op (some 10) none (.p (.mv (.t 0))), .op (some 11) none (.p (.len (.t 10))), .op (some 12) none (.p (.bin .lss (.t 9) (.t 11))), .gh (.drop [9, 10, 11])]) (.cond (.t 12) (.skip) (.exit 0))) (.seq (.block 1 (.seq (.ops [ .op (some 15) none (.p (.mv (.t 0))), .op (some 16) none (.p (.mv (.t 5))), .op (some 17) none (.p (.ia 1 (.t 15) (.t 16))), .op (some 18) none (.p (.ld 1 false (.t 17))), .op (some 19) none (.p (.bin .shr (.t 18) (.i .u64 (31)))), .op (some 6) none (.p (.mv (.t 19))), .gh (.drop [15, 16, 17, 18, 19])]) (.seq (.ops [ .op (some 20) none (.p (.mv (.t 0))), .op (some 21) none (.p (.mv (.t 5))), .op (some 22) none (.p (.mv (.t 0))), .op (some 23) none (.p (.mv (.t 5))), .op (some 24) none (.p (.ia 1 (.t 22) (.t 23))), .op (some 25) none (.p (.ld 1 false (.t 24))), .op (some 26) none (.p (.bin .shl (.t 25) (.i .u64 (1)))), .op (some 27) none (.p (.mv (.t 4))), .op (some 28) none (.p (.bin .or (.t 26) (.t 27))), .op (some 29) none (.p (.ia 1 (.t 20) (.t 21))), .op none none (.w (.st 1 (.t 29) (.t 28))), .gh (.drop [4, 20, 21, 22, 23, 24, 25, 26, 27, 28, 29])]) (.ops [ .op (some 30) none (.p (.mv (.t 6))), .op (some 4) none (.p (.mv (.t 30))), .gh (.drop [6, 30])])))) (.ops [ .op (some 13) none (.p (.mv (.t 5))), .op (some 14) none (.p (.bin .add (.t 13) (.i .i64 (1)))), .op (some 5) none (.p (.mv (.t 14))), .gh (.drop [13, 14])])))))))
theorem k117 : chkF Try.prog 117 2 [] c117 = true := by kernel_rfl

/- sloperef1.takes: arguments 2, results in [4]; slots in use where its loops begin: [[0, 1, 5], [0, 1, 6, 7]] -/
def c119 : MC := .seq (.ops [ .op (some 4) none (.p (.mv (.b false))), .gh (.drop [4])]) (.seq (.cut (.seq (.ops [ .op (some 9) none (.p (.mv (.t 0))), .op (some 10) none (.p (.mv (.t 1))), .op (some 11) none (.p (.len (.t 10))), .op (some 12) none (.p (.ia 1 (.t 9) (.t 11))), .op (some 13) none (.p (.ld 1 false (.t 12))), .op (some 14) none (.p (.bin .eql (.t 13) (.i .u32 (0)))), .gh (.drop [9, 10, 11, 12, 13])]) (.cond (.t 14) (.seq (.ops [ .op (some 15) none (.p (.mv (.t 1))), .op (some 16) none (.p (.len (.t 15))), .op (some 17) none (.p (.bin .sub (.t 16) (.i .i64 (1)))), .op (some 5) none (.p (.mv (.t 17))), .gh (.drop [15, 16, 17])]) (.seq (.cut (.block 0 (.loop (.seq (.seq (.ops [ .op (some 18) none (.p (.mv (.t 5))), .op (some 19) none (.p (.bin .geq (.t 18) (.i .i64 (0)))), .op (some 20) none (.p (.mv (.t 19))), .op (some 21) (some (20, true)) (.p (.mv (.t 0))), .op (some 22) (some (20, true)) (.p (.mv (.t 5))), .op (some 23) (some (20, true)) (.p (.ia 1 (.t 21) (.t 22))), .op (some 24) (some (20, true)) (.p (.ld 1 false (.t 23))), .op (some 25) (some (20, true)) (.p (.mv (.t 1))), .op (some 26) (some (20, true)) (.p (.mv (.t 5))), .op (some 27) (some (20, true)) (.p (.ia 1 (.t 25) (.t 26))), .op (some 28) (some (20, true)) (.p (.ld 1 false (.t 27))), .op (some 29) (some (20, true)) (.p (.bin .eql (.t 24) (.t 28))), .op (some 30) none (.pick (.t 20) (.t 29) (.b false))]) (.gh (.drop [18, 19, 20, 21, 22, 23, 24, 25, 26, 27, 28, 29]) (.cond (.t 30) (.skip) (.exit 0)))) (.block 1 (.ops [ .op (some 31) none (.p (.mv (.t 5))), .op (some 32) none (.p (.bin .sub (.t 31) (.i .i64 (1)))), .op (some 5) none (.p (.mv (.t 32))), .gh (.drop [31, 32])])))))) (.seq (.ops [ .op (some 33) none (.p (.mv (.t 5))), .op (some 34) none (.p (.bin .geq (.t 33) (.i .i64 (0)))), .op (some 35) none (.p (.mv (.t 34))), .op (some 36) (some (35, true)) (.p (.mv (.t 0))), .op (some 37) (some (35, true)) (.p (.mv (.t 5))), .op (some 38) (some (35, true)) (.p (.ia 1 (.t 36) (.t 37))), .op (some 39) (some (35, true)) (.p (.ld 1 false (.t 38))), .op (some 40) (some (35, true)) (.p (.mv (.t 1))), .op (some 41) (some (35, true)) (.p (.mv (.t 5))), .op (some 42) (some (35, true)) (.p (.ia 1 (.t 40) (.t 41))), .op (some 43) (some (35, true)) (.p (.ld 1 false (.t 42))), .op (some 44) (some (35, true)) (.p (.bin .lss (.t 39) (.t 43))), .op (some 45) none (.pick (.t 35) (.t 44) (.b false))]) (.gh (.drop [5, 33, 34, 35, 36, 37, 38, 39, 40, 41, 42, 43, 44]) (.cond (.t 45) (.seq (.ops [ .op (some 4) none (.p (.mv (.b false)))]) (.ret)) (.skip)))))) (.skip)))) (.seq (.ops [ .op (some 6) none (.p (.mv (.i .u64 (0))))]) (.seq (.seq (.ops [ .op (some 7) none (.p (.mv (.i .i64 (0))))]) (.cut (.block 2 (.loop (.seq (.seq (.ops [ .op (some 46) none (.p (.mv (.t 7))), .op (some 47) none (.p (.mv (.t 0))), .op (some 48) none (.p (.len (.t 47))), .op (some 49) none (.p (.bin .lss (.t 46) (.t 48))), .gh (.drop [46, 47, 48])]) (.cond (.t 49) (.skip) (.exit 2))) (.seq (.block 3 (.seq (.dr (.op 0 (.op (some 52) none (.p (.mv (.t 0)))) (.op 1 (.op (some 53) none (.p (.mv (.t 7)))) (.op 6 (.op (some 58) none (.p (.mv (.t 1)))) (.op 7 (.op (some 59) none (.p (.mv (.t 7)))) (.op 10 (.op (some 62) none (.p (.mv (.t 6)))) (.alt (.op 2 (.op (some 54) none (.p (.ia 1 (.t 52) (.t 53)))) (.alt (.op 3 (.op (some 55) none (.p (.ld 1 false (.t 54)))) (.alt (.op 4 (.op (some 56) none (.p (.cv .u64 (.t 55)))) (.alt (.op 5 (.op (some 57) none (.p (.bin .add (.i .u64 (4294967296)) (.t 56)))) (.op 8 (.op (some 60) none (.call 111 [(.t 58), (.t 59)])) (.op 9 (.op (some 61) none (.p (.bin .sub (.t 57) (.t 60)))) (.op 11 (.op (some 63) none (.p (.bin .sub (.t 61) (.t 62)))) (.op 12 (.op (some 8) none (.p (.mv (.t 63)))) (.nil)))))) (.op 8 (.op (some 60) none (.call 111 [(.t 58), (.t 59)])) (.op 5 (.op (some 57) none (.p (.bin .add (.i .u64 (4294967296)) (.t 56)))) (.op 9 (.op (some 61) none (.p (.bin .sub (.t 57) (.t 60)))) (.op 11 (.op (some 63) none (.p (.bin .sub (.t 61) (.t 62)))) (.op 12 (.op (some 8) none (.p (.mv (.t 63)))) (.nil)))))))) (.op 8 (.op (some 60) none (.call 111 [(.t 58), (.t 59)])) (.op 4 (.op (some 56) none (.p (.cv .u64 (.t 55)))) (.op 5 (.op (some 57) none (.p (.bin .add (.i .u64 (4294967296)) (.t 56)))) (.op 9 (.op (some 61) none (.p (.bin .sub (.t 57) (.t 60)))) (.op 11 (.op (some 63) none (.p (.bin .sub (.t 61) (.t 62)))) (.op 12 (.op (some 8) none (.p (.mv (.t 63)))) (.nil))))))))) (.op 8 (.op (some 60) none (.call 111 [(.t 58), (.t 59)])) (.op 3 (.op (some 55) none (.p (.ld 1 false (.t 54)))) (.op 4 (.op (some 56) none (.p (.cv .u64 (.t 55)))) (.op 5 (.op (some 57) none (.p (.bin .add (.i .u64 (4294967296)) (.t 56)))) (.op 9 (.op (some 61) none (.p (.bin .sub (.t 57) (.t 60)))) (.op 11 (.op (some 63) none (.p (.bin .sub (.t 61) (.t 62)))) (.op 12 (.op (some 8) none (.p (.mv (.t 63)))) (.nil)))))))))) (.op 8 (.op (some 60) none (.call 111 [(.t 58), (.t 59)])) (.op 2 (.op (some 54) none (.p (.ia 1 (.t 52) (.t 53)))) (.op 3 (.op (some 55) none (.p (.ld 1 false (.t 54)))) (.op 4 (.op (some 56) none (.p (.cv .u64 (.t 55)))) (.op 5 (.op (some 57) none (.p (.bin .add (.i .u64 (4294967296)) (.t 56)))) (.op 9 (.op (some 61) none (.p (.bin .sub (.t 57) (.t 60)))) (.op 11 (.op (some 63) none (.p (.bin .sub (.t 61) (.t 62)))) (.op 12 (.op (some 8) none (.p (.mv (.t 63)))) (.nil)))))))))))))))) (.gh (.drop [6, 52, 53, 54, 55, 56, 57, 58, 59, 60, 61, 62, 63]) (.seq (.ops [ .op (some 64) none (.p (.mv (.t 0))), .op (some 65) none (.p (.mv (.t 7))), .op (some 66) none (.p (.mv (.t 8))), .op (some 67) none (.p (.cv .u32 (.t 66))), .op (some 68) none (.p (.ia 1 (.t 64) (.t 65))), .op none none (.w (.st 1 (.t 68) (.t 67))), .gh (.drop [64, 65, 66, 67, 68])]) (.ops [ .op (some 69) none (.p (.mv (.t 8))), .op (some 70) none (.p (.bin .shr (.t 69) (.i .u64 (32)))), .op (some 71) none (.p (.bin .sub (.i .u64 (1)) (.t 70))), .op (some 6) none (.p (.mv (.t 71))), .gh (.drop [8, 69, 70, 71])]))))) (.ops [ .op (some 50) none (.p (.mv (.t 7))), .op (some 51) none (.p (.bin .add (.t 50) (.i .i64 (1)))), .op (some 7) none (.p (.mv (.t 51))), .gh (.drop [50, 51])]))))))) (.seq (.ops [ .op (some 4) none (.p (.mv (.b true)))]) (.ret)))))
theorem k119 : chkF Try.prog 119 2 [4] c119 = true := by kernel_rfl



/-- bit i -/
def bitR (n : List Int) (i : Nat) : Int := if may n then val n / 2 ^ i % 2 else 0

theorem div_dropA {n : List Int} (ln : lim n) (i : Nat) : val n / 4294967296 ^ i = val (n.drop i) := by
  by_cases hi : i ≤ n.length
  · exact div_drop ln i hi
  · rw [List.drop_eq_nil_of_le (by omega)]
    have hb := val_bound ln
    have := pow_mono (m := n.length) (n := i) (by omega)
    exact Int.ediv_eq_zero_of_lt hb.1 (by omega)
theorem bit_val {n : List Int} (ln : lim n) (i : Nat) : val n / 2 ^ i % 2 = n.getD (i / 32) 0 / 2 ^ (i % 32) % 2 := by
  have h0 := val_drop_getD n (i / 32)
  obtain ⟨hpq, hp, hq⟩ := pq_split (s := i % 32) (by omega)
  have e : (2 : Int) ^ i = 4294967296 ^ (i / 32) * 2 ^ (i % 32) := by
    rw [show (4294967296 : Int) = 2 ^ 32 from rfl, ← Int.pow_mul, ← Int.pow_add, Nat.div_add_mod]
  rw [e, ← Int.ediv_ediv_of_nonneg (Int.le_of_lt (pow_pos' _)), div_dropA ln, h0]
  have hq2 : (2 : Int) ^ (32 - i % 32) = 2 * 2 ^ (31 - i % 32) := by
    rw [Int.mul_comm, ← Int.pow_succ]; congr 1; omega
  rw [← hpq, Int.mul_assoc, Int.add_mul_ediv_left _ _ (by omega), hq2, Int.mul_assoc, Int.add_mul_emod_self_left]

theorem sloperef1_Bit (fr : Bool) (n : List Int) (i : Nat) (hi : i ≤ 1000000) : FSpec0 Try.prog 118 [uL fr n, .int .i64 i] (fun r => r = .int .i64 (bitR n i)) := by
  refine FSpec0.of_facts fun hf => fspec0_of_run k118 ?_
  have ln : lim n := lim_of_factL hf.1
  simp only [uL, c118, W1, W2, W3, popTo, memb, res, wres, env0, byteAt, optI, cutB, cutL, sliceR, strR, ldCells, ldR, iaR, faR, lenR, lenSR, ixR, exR, nchkR, mxR, csR, up, ZV.av, ZV.fit, zfits, fits, fitsL, cellsOf, down, downL, downLL, stR, mkR, bsR, boxR, alR, apR, cpR, srcQ, solid, killC, killV, killE, killO, killH, hget, hset, hdel, pubV, pubC, pubO, renV, renC, renO, reduceIte, reduceCtorEq, Nat.reduceEqDiff, Nat.reduceLT, Nat.reduceAdd, Int.reduceToNat, Nat.reduceLeDiff, Int.reducePow, Int.reduceLE, Int.reduceLT]
  refine call1 (sloperef1_May fr n) (by repeat (first | exact subs_nil | refine subs_int ?_ | refine subs_ro ?_ | refine subs_bool ?_ | refine subs_str ?_ | refine subs_nilro ?_ | refine subs_lits rfl ?_ | refine subs_all rfl rfl (by simp) ?_ | refine subs_own rfl rfl ?_ | refine subs_fn ?_)) ?_
  simp only [uL, W1, W2, W3, popTo, memb, res, wres, env0, byteAt, optI, cutB, cutL, sliceR, strR, ldCells, ldR, iaR, faR, lenR, lenSR, ixR, exR, nchkR, mxR, csR, up, ZV.av, ZV.fit, zfits, fits, fitsL, cellsOf, down, downL, downLL, stR, mkR, bsR, boxR, alR, apR, cpR, srcQ, solid, killC, killV, killE, killO, killH, hget, hset, hdel, pubV, pubC, pubO, renV, renC, renO, reduceIte, reduceCtorEq, Nat.reduceEqDiff, Nat.reduceLT, Nat.reduceAdd, Int.reduceToNat, Nat.reduceLeDiff, Int.reducePow, Int.reduceLE, Int.reduceLT]
  rw [bitR]
  refine ⟨fun h => ret1' (by rw [if_neg h]; simp only [retR, retA, retL, ret1, ret1L, eget, hget, hset, St.set, eset, List.map_cons, List.map_nil, reduceIte, reduceCtorEq, Nat.reduceEqDiff, Nat.reduceLT, true_and, and_true, false_or, or_true, true_or, List.drop_zero, List.take_length, scalE_I, scalE_B, scalE_S]), fun h => ?_⟩
  have hm := Classical.not_not.1 h
  rw [if_pos hm, bit_val ln]
  refine ⟨fun h0 => by omega, fun h0 _ => ⟨by omega, fun _ => ⟨fun h1 => ret1' (by rw [getD_out (show ¬ ((i / 32 : Nat) : Int) < n.length by omega)]; simp only [Int.zero_ediv, retR, retA, retL, ret1, ret1L, eget, hget, hset, St.set, eset, List.map_cons, List.map_nil, reduceIte, reduceCtorEq, Nat.reduceEqDiff, Nat.reduceLT, true_and, and_true, false_or, or_true, true_or, List.drop_zero, List.take_length, scalE_I, scalE_B, scalE_S]; rfl), fun h1 _ => ⟨by omega, by omega, fun e he _ => ⟨by omega, ?_⟩⟩⟩⟩⟩
  rw [show ((i : Int) / 32).toNat = i / 32 by omega] at he
  have hE := ln.get he
  rw [show ((i : Int) % 32 % 18446744073709551616).toNat = i % 32 by omega, if_pos (show i % 32 ≤ 32 by omega), getD_of he]
  have hq : 0 ≤ e / 2 ^ (i % 32) := Int.ediv_nonneg hE.1 (Int.pow_nonneg (by omega))
  have ha : (((e / 2 ^ (i % 32)).toNat &&& 1 : Nat) : Int) = e / 2 ^ (i % 32) % 2 := by rw [Nat.and_one_is_mod]; omega
  rw [ha]
  exact fun _ => ⟨by omega, fun _ => ⟨hq, fun _ => ret1' (by simp only [retR, retA, retL, ret1, ret1L, eget, hget, hset, St.set, eset, List.map_cons, List.map_nil, reduceIte, reduceCtorEq, Nat.reduceEqDiff, Nat.reduceLT, true_and, and_true, false_or, or_true, true_or, List.drop_zero, List.take_length, scalE_I, scalE_B, scalE_S])⟩⟩

theorem sloperef1_Bits (fr : Bool) (n : List Int) : FSpec0 Try.prog 116 [uL fr n] (fun r => r = .int .i64 (bitsR n)) := by
  refine FSpec0.of_facts fun hf => fspec0_of_run k116 ?_
  have ln : lim n := lim_of_factL hf.1
  simp only [uL, c116, W1, W2, W3, popTo, memb, res, wres, env0, byteAt, optI, cutB, cutL, sliceR, strR, ldCells, ldR, iaR, faR, lenR, lenSR, ixR, exR, nchkR, mxR, csR, up, ZV.av, ZV.fit, zfits, fits, fitsL, cellsOf, down, downL, downLL, stR, mkR, bsR, boxR, alR, apR, cpR, srcQ, solid, killC, killV, killE, killO, killH, hget, hset, hdel, pubV, pubC, pubO, renV, renC, renO, reduceIte, reduceCtorEq, Nat.reduceEqDiff, Nat.reduceLT, Nat.reduceAdd, Int.reduceToNat, Nat.reduceLeDiff, Int.reducePow, Int.reduceLE, Int.reduceLT]
  refine call1 (sloperef1_May fr n) (by repeat (first | exact subs_nil | refine subs_int ?_ | refine subs_ro ?_ | refine subs_bool ?_ | refine subs_str ?_ | refine subs_nilro ?_ | refine subs_lits rfl ?_ | refine subs_all rfl rfl (by simp) ?_ | refine subs_own rfl rfl ?_ | refine subs_fn ?_)) ?_
  simp only [uL, W1, W2, W3, popTo, memb, res, wres, env0, byteAt, optI, cutB, cutL, sliceR, strR, ldCells, ldR, iaR, faR, lenR, lenSR, ixR, exR, nchkR, mxR, csR, up, ZV.av, ZV.fit, zfits, fits, fitsL, cellsOf, down, downL, downLL, stR, mkR, bsR, boxR, alR, apR, cpR, srcQ, solid, killC, killV, killE, killO, killH, hget, hset, hdel, pubV, pubC, pubO, renV, renC, renO, reduceIte, reduceCtorEq, Nat.reduceEqDiff, Nat.reduceLT, Nat.reduceAdd, Int.reduceToNat, Nat.reduceLeDiff, Int.reducePow, Int.reduceLE, Int.reduceLT]
  refine ⟨fun h => ret1' (by rw [bitsR, if_neg h]; simp only [retR, retA, retL, ret1, ret1L, eget, hget, hset, St.set, eset, List.map_cons, List.map_nil, reduceIte, reduceCtorEq, Nat.reduceEqDiff, Nat.reduceLT, true_and, and_true, false_or, or_true, true_or, List.drop_zero, List.take_length, scalE_I, scalE_B, scalE_S]), fun h => ?_⟩
  have hm := Classical.not_not.1 h
  rw [bitsR, if_pos hm]
  have hl := hm.1
  have V0 := (val_bound ln).1
  have hVb : val n < 2 ^ (32 * n.length) := by
    have := (val_bound ln).2
    rw [show (4294967296 : Int) = 2 ^ 32 from rfl, ← Int.pow_mul] at this; exact this
  refine fun _ => ⟨by omega, by omega, ?_⟩
  refine cut_intro (fun st => val n = 0 ∧ st = ⟨[], []⟩) ?_ ?_
  · simp only [W1, W2, W3, popTo, memb, res, wres, env0, byteAt, optI, cutB, cutL, sliceR, strR, ldCells, ldR, iaR, faR, lenR, lenSR, ixR, exR, nchkR, mxR, csR, up, ZV.av, ZV.fit, zfits, fits, fitsL, cellsOf, down, downL, downLL, stR, mkR, bsR, boxR, alR, apR, cpR, srcQ, solid, killC, killV, killE, killO, killH, hget, hset, hdel, pubV, pubC, pubO, renV, renC, renO, reduceIte, reduceCtorEq, Nat.reduceEqDiff, Nat.reduceLT, Nat.reduceAdd, Int.reduceToNat, Nat.reduceLeDiff, Int.reducePow, Int.reduceLE, Int.reduceLT]
    refine loop_intro (fun m st => ∃ c : Nat, c ≤ 32 * n.length ∧ m = c ∧ val n < 2 ^ c ∧ st = ⟨[(0, uL fr n), (3, .int .i64 ((c : Int) - 1))], []⟩) (32 * n.length)
      [(0, uL fr n), (3, .int .i64 (32 * (n.length : Int) - 1))] (by simp [eget, uL]) ⟨32 * n.length, by omega, rfl, hVb, by simp⟩ ?_
    rintro m st ⟨c, hc, rfl, hv, rfl⟩
    simp only [uL, W1, W2, W3, popTo, memb, res, wres, env0, byteAt, optI, cutB, cutL, sliceR, strR, ldCells, ldR, iaR, faR, lenR, lenSR, ixR, exR, nchkR, mxR, csR, up, ZV.av, ZV.fit, zfits, fits, fitsL, cellsOf, down, downL, downLL, stR, mkR, bsR, boxR, alR, apR, cpR, srcQ, solid, killC, killV, killE, killO, killH, hget, hset, hdel, pubV, pubC, pubO, renV, renC, renO, reduceIte, reduceCtorEq, Nat.reduceEqDiff, Nat.reduceLT, Nat.reduceAdd, Int.reduceToNat, Nat.reduceLeDiff, Int.reducePow, Int.reduceLE, Int.reduceLT]
    refine ⟨fun h0 => ?_, fun h0 => ?_⟩
    · obtain ⟨c, rfl⟩ : ∃ c, m = c + 1 := ⟨m - 1, by omega⟩
      rw [show ((c + 1 : Nat) : Int) - 1 = (c : Nat) by omega]
      refine call1 (sloperef1_Bit fr n c (by omega)) (by repeat (first | exact subs_nil | refine subs_int ?_ | refine subs_ro ?_ | refine subs_bool ?_ | refine subs_str ?_ | refine subs_nilro ?_ | refine subs_lits rfl ?_ | refine subs_all rfl rfl (by simp) ?_ | refine subs_own rfl rfl ?_ | refine subs_fn ?_)) ?_
      rw [bitR, if_pos hm]
      simp only [uL, W1, W2, W3, popTo, memb, res, wres, env0, byteAt, optI, cutB, cutL, sliceR, strR, ldCells, ldR, iaR, faR, lenR, lenSR, ixR, exR, nchkR, mxR, csR, up, ZV.av, ZV.fit, zfits, fits, fitsL, cellsOf, down, downL, downLL, stR, mkR, bsR, boxR, alR, apR, cpR, srcQ, solid, killC, killV, killE, killO, killH, hget, hset, hdel, pubV, pubC, pubO, renV, renC, renO, reduceIte, reduceCtorEq, Nat.reduceEqDiff, Nat.reduceLT, Nat.reduceAdd, Int.reduceToNat, Nat.reduceLeDiff, Int.reducePow, Int.reduceLE, Int.reduceLT]
      have hp : (0 : Int) < 2 ^ c := Int.pow_pos (by omega)
      have e1 := Int.mul_ediv_add_emod (val n) (2 ^ c)
      have e2 := Int.emod_nonneg (val n) (show (2 : Int) ^ c ≠ 0 by omega)
      have e3 := Int.emod_lt_of_pos (val n) hp
      have e4 : val n / 2 ^ c < 2 := Int.ediv_lt_of_lt_mul hp (by rw [Int.pow_succ] at hv; omega)
      have e5 := Int.ediv_nonneg V0 (Int.le_of_lt hp)
      have hc2 : ((2 ^ c : Nat) : Int) = 2 ^ c := by push_cast; rfl
      have hc3 : ((2 ^ (c + 1) : Nat) : Int) = 2 ^ (c + 1) := by push_cast; rfl
      refine ⟨fun h1 => ⟨by omega, ret1' ?_⟩, fun h1 => ⟨by omega, back_intro [(0, uL fr n), (3, .int .i64 ((c : Int) - 1))] (by simp [eget, uL]) (by omega) ⟨c, by omega, rfl, ?_, rfl⟩⟩⟩
      · have e6 : val n / 2 ^ c = 1 := by omega
        rw [e6, Int.mul_one] at e1
        have b1 : blen (val n).toNat ≤ c + 1 := blen_le.2 (by omega)
        have b2 : ¬ blen (val n).toNat ≤ c := fun h => by have := blen_le.1 h; omega
        rw [show blen (val n).toNat = c + 1 by omega]
        simp only [retR, retA, retL, ret1, ret1L, eget, hget, hset, St.set, eset, List.map_cons, List.map_nil, reduceIte, reduceCtorEq, Nat.reduceEqDiff, Nat.reduceLT, true_and, and_true, false_or, or_true, true_or, List.drop_zero, List.take_length, scalE_I, scalE_B, scalE_S]
        rfl
      · have e6 : val n / 2 ^ c = 0 := by omega
        rw [e6, Int.mul_zero] at e1
        omega
    · obtain rfl : m = 0 := by omega
      exact join_intro [] (by simp) ⟨by simp at hv; omega, rfl⟩
  · rintro st ⟨hv, rfl⟩
    simp only [W1, W2, W3, popTo, memb, res, wres, env0, byteAt, optI, cutB, cutL, sliceR, strR, ldCells, ldR, iaR, faR, lenR, lenSR, ixR, exR, nchkR, mxR, csR, up, ZV.av, ZV.fit, zfits, fits, fitsL, cellsOf, down, downL, downLL, stR, mkR, bsR, boxR, alR, apR, cpR, srcQ, solid, killC, killV, killE, killO, killH, hget, hset, hdel, pubV, pubC, pubO, renV, renC, renO, reduceIte, reduceCtorEq, Nat.reduceEqDiff, Nat.reduceLT, Nat.reduceAdd, Int.reduceToNat, Nat.reduceLeDiff, Int.reducePow, Int.reduceLE, Int.reduceLT]
    exact ret1' (by rw [hv]; simp only [blen, retR, retA, retL, ret1, ret1L, eget, hget, hset, St.set, eset, List.map_cons, List.map_nil, reduceIte, reduceCtorEq, Nat.reduceEqDiff, Nat.reduceLT, true_and, and_true, false_or, or_true, true_or, List.drop_zero, List.take_length, scalE_I, scalE_B, scalE_S]; rfl)

theorem sloperef1_twice (xs : List Int) (b : Int) (hb : 0 ≤ b ∧ b ≤ 1) (hl : xs.length ≤ 1000000) (lx : lim xs) (hv : val xs * 2 + b < 4294967296 ^ xs.length) :
    FSpec Try.prog 117 [.own 1000 0 xs.length false, .int .i64 b] (rowU xs) (fun r hp' => r = .tup [] ∧ ∃ ys, hp' = rowU ys ∧ ys.length = xs.length ∧ lim ys ∧ val ys = val xs * 2 + b) := by
  refine FSpec.of_facts fun hf => fspec_of_run k117 rfl (fun h => by cases h) ?_
  simp only [uL, rowU, c117, W1, W2, W3, popTo, memb, res, wres, env0, byteAt, optI, cutB, cutL, sliceR, strR, ldCells, ldR, iaR, faR, lenR, lenSR, ixR, exR, nchkR, mxR, csR, up, ZV.av, ZV.fit, zfits, fits, fitsL, cellsOf, down, downL, downLL, stR, mkR, bsR, boxR, alR, apR, cpR, srcQ, solid, killC, killV, killE, killO, killH, hget, hset, hdel, pubV, pubC, pubO, renV, renC, renO, reduceIte, reduceCtorEq, Nat.reduceEqDiff, Nat.reduceLT, Nat.reduceAdd, Int.reduceToNat, Nat.reduceLeDiff, Int.reducePow, Int.reduceLE, Int.reduceLT]
  rw [show b % 4294967296 = b by omega]
  refine cut_intro (fun st => ∃ ys : List Int, ys.length = xs.length ∧ lim ys ∧ val ys = val xs * 2 + b ∧ st = ⟨[], rowU ys⟩) ?_ ?_
  · simp only [W1, W2, W3, popTo, memb, res, wres, env0, byteAt, optI, cutB, cutL, sliceR, strR, ldCells, ldR, iaR, faR, lenR, lenSR, ixR, exR, nchkR, mxR, csR, up, ZV.av, ZV.fit, zfits, fits, fitsL, cellsOf, down, downL, downLL, stR, mkR, bsR, boxR, alR, apR, cpR, srcQ, solid, killC, killV, killE, killO, killH, hget, hset, hdel, pubV, pubC, pubO, renV, renC, renO, reduceIte, reduceCtorEq, Nat.reduceEqDiff, Nat.reduceLT, Nat.reduceAdd, Int.reduceToNat, Nat.reduceLeDiff, Int.reducePow, Int.reduceLE, Int.reduceLT]
    refine loop_intro (fun m st => ∃ (i : Nat) (ys : List Int) (c : Int), i ≤ xs.length ∧ m = xs.length - i ∧ ys.length = xs.length ∧ lim ys ∧ 0 ≤ c ∧ c ≤ 1 ∧ (∀ j, i ≤ j → ys[j]? = xs[j]?) ∧ val ys + 4294967296 ^ i * c = val xs + val (xs.take i) + b ∧
      st = ⟨[(0, .own 1000 0 xs.length false), (4, .int .u32 c), (5, .int .i64 i)], rowU ys⟩) xs.length
      [(0, .own 1000 0 xs.length false), (4, .int .u32 b), (5, .int .i64 (0 : Nat))] (by simp [eget]) ⟨0, xs, b, by omega, by omega, rfl, lx, hb.1, hb.2, fun _ _ => rfl, by simp [val], rfl⟩ ?_
    rintro m st ⟨i, ys, c, hi, rfl, hyl, ly, c0, c1, hsame, hv2, rfl⟩
    simp only [rowU, W1, W2, W3, popTo, memb, res, wres, env0, byteAt, optI, cutB, cutL, sliceR, strR, ldCells, ldR, iaR, faR, lenR, lenSR, ixR, exR, nchkR, mxR, csR, up, ZV.av, ZV.fit, zfits, fits, fitsL, cellsOf, down, downL, downLL, stR, mkR, bsR, boxR, alR, apR, cpR, srcQ, solid, killC, killV, killE, killO, killH, hget, hset, hdel, pubV, pubC, pubO, renV, renC, renO, reduceIte, reduceCtorEq, Nat.reduceEqDiff, Nat.reduceLT, Nat.reduceAdd, Int.reduceToNat, Nat.reduceLeDiff, Int.reducePow, Int.reduceLE, Int.reduceLT]
    rw [hyl]
    refine fun _ => ⟨fun h0 _ => ⟨by omega, by omega, fun e he _ _ => ⟨by omega, by omega, fun e' he' _ => ⟨by omega, fun _ => ⟨by omega, by omega, _, rfl, by omega, ?_⟩⟩⟩⟩, fun h0 => ?_⟩
    · rw [he] at he'
      obtain rfl := Option.some.inj he'
      have hE := ly.get he
      have hx : xs[i]? = some e := by rw [← hsame i (Nat.le_refl _)]; exact he
      have ho : (((e * 2 % 4294967296).toNat ||| c.toNat : Nat) : Int) = e * 2 % 4294967296 + c := by
        have := or_mul (p := 1) (c := c) (y := e % 2147483648) ⟨c0, by omega⟩ (by omega)
        rw [show e * 2 % 4294967296 = e % 2147483648 * 2 ^ 1 by omega, Nat.or_comm, this]; omega
      rw [ho]
      refine back_intro [(0, .own 1000 0 xs.length false), (4, .int .u32 (e / 2147483648)), (5, .int .i64 ((i + 1 : Nat) : Int))] (by simp [eget]) (by omega)
        ⟨i + 1, _, _, by omega, rfl, by simp [hyl], ly.set i (by omega), by omega, by omega, fun j hj => by rw [List.getElem?_set, if_neg (by omega)]; exact hsame j (by omega), ?_, rfl⟩
      rw [val_set he, val_take_succ hx, pow_s, show e * 2 % 4294967296 + c - e = e + c - 4294967296 * (e / 2147483648) by omega]
      simp only [Int.mul_add, Int.mul_sub, ← Int.mul_assoc]
      omega
    · obtain rfl : i = xs.length := by omega
      rw [List.take_length] at hv2
      have hyb := val_bound ly
      rw [hyl] at hyb
      have : c = 0 ∨ c = 1 := by omega
      rcases this with rfl | rfl
      · exact join_intro [] (by simp) ⟨ys, hyl, ly, by omega, rfl⟩
      · omega
  · rintro st ⟨ys, h1, h2, h3, rfl⟩
    simp only [rowU, W1, W2, W3, popTo, memb, res, wres, env0, byteAt, optI, cutB, cutL, sliceR, strR, ldCells, ldR, iaR, faR, lenR, lenSR, ixR, exR, nchkR, mxR, csR, up, ZV.av, ZV.fit, zfits, fits, fitsL, cellsOf, down, downL, downLL, stR, mkR, bsR, boxR, alR, apR, cpR, srcQ, solid, killC, killV, killE, killO, killH, hget, hset, hdel, pubV, pubC, pubO, renV, renC, renO, reduceIte, reduceCtorEq, Nat.reduceEqDiff, Nat.reduceLT, Nat.reduceAdd, Int.reduceToNat, Nat.reduceLeDiff, Int.reducePow, Int.reduceLE, Int.reduceLT]
    exact ret_row ⟨rfl, ys, rfl, h1, h2, h3⟩

theorem ret_rowB {env : Env} {b : Bool} {xs lent : List Int} {post : AV → Heap → Prop} (h4 : eget env 4 = .bool b) (h : post (.bool b) [(1000, .arr 99 false true 1 (encI .u32) xs)]) :
    Ret [4] [(1000, .arr 99 false true 1 (encI .u32) lent)] post ⟨env, [(1000, .arr 99 false true 1 (encI .u32) xs)]⟩ :=
  ⟨.bool b, _, by simp only [List.map_cons, List.map_nil, h4, retR, retA, retL, ret1, ret1L, eget, hget, hset, St.set, eset, List.map_cons, List.map_nil, reduceIte, reduceCtorEq, Nat.reduceEqDiff, Nat.reduceLT, true_and, and_true, false_or, or_true, true_or, List.drop_zero, List.take_length, scalE_I, scalE_B, scalE_S], by simp [retH, hget, retO], by simp [keptH, hget, OB.fixed], h⟩

theorem sloperef1_takes (fr : Bool) (xs ds : List Int) (hl : xs.length = ds.length + 1) (hs : xs.length ≤ 1000000) (lx : lim xs) :
    FSpec Try.prog 119 [.own 1000 0 xs.length false, uL fr ds] (rowU xs) (fun r hp' => r = .bool (decide (val ds ≤ val xs)) ∧ ∃ ys, hp' = rowU ys ∧ ys.length = xs.length ∧ lim ys ∧ val ys = if val ds ≤ val xs then val xs - val ds else val xs) := by
  refine FSpec.of_facts fun hf => fspec_of_run k119 rfl (fun h => by cases h) ?_
  have ld : lim ds := lim_of_factL hf.2.1
  simp only [uL, rowU, c119, W1, W2, W3, popTo, memb, res, wres, env0, byteAt, optI, cutB, cutL, sliceR, strR, ldCells, ldR, iaR, faR, lenR, lenSR, ixR, exR, nchkR, mxR, csR, up, ZV.av, ZV.fit, zfits, fits, fitsL, cellsOf, down, downL, downLL, stR, mkR, bsR, boxR, alR, apR, cpR, srcQ, solid, killC, killV, killE, killO, killH, hget, hset, hdel, pubV, pubC, pubO, renV, renC, renO, reduceIte, reduceCtorEq, Nat.reduceEqDiff, Nat.reduceLT, Nat.reduceAdd, Int.reduceToNat, Nat.reduceLeDiff, Int.reducePow, Int.reduceLE, Int.reduceLT]
  have hxb := val_bound lx
  have hdb := val_bound ld
  obtain ⟨e, he⟩ : ∃ e, xs[ds.length]? = some e := ⟨_, List.getElem?_eq_getElem (by omega)⟩
  have hE := lx.get he
  have hxe := val_take_succ he
  rw [List.take_of_length_le (show xs.length ≤ ds.length + 1 by omega)] at hxe
  have lz := lx.take ds.length
  have hzl : (xs.take ds.length).length = ds.length := by rw [List.length_take]; omega
  have hzg : ∀ i, i < ds.length → (xs.take ds.length)[i]? = xs[i]? := fun i hi => by rw [List.getElem?_take, if_pos hi]
  have hz0 := (val_bound lz).1
  generalize xs.take ds.length = zs at *
  refine cut_intro (fun st => val ds ≤ val xs ∧ st = ⟨[(0, .own 1000 0 xs.length false), (1, uL fr ds)], rowU xs⟩) ?_ ?_
  · simp only [W1, W2, W3, popTo, memb, res, wres, env0, byteAt, optI, cutB, cutL, sliceR, strR, ldCells, ldR, iaR, faR, lenR, lenSR, ixR, exR, nchkR, mxR, csR, up, ZV.av, ZV.fit, zfits, fits, fitsL, cellsOf, down, downL, downLL, stR, mkR, bsR, boxR, alR, apR, cpR, srcQ, solid, killC, killV, killE, killO, killH, hget, hset, hdel, pubV, pubC, pubO, renV, renC, renO, reduceIte, reduceCtorEq, Nat.reduceEqDiff, Nat.reduceLT, Nat.reduceAdd, Int.reduceToNat, Nat.reduceLeDiff, Int.reducePow, Int.reduceLE, Int.reduceLT]
    simp only [he, Option.some.injEq, forall_eq']
    refine fun _ => ⟨by omega, by omega, fun e0 _ => ⟨by omega, ?_⟩, fun e0 => ?_⟩
    rotate_left
    · have : 4294967296 ^ ds.length * 1 ≤ 4294967296 ^ ds.length * e := Int.mul_le_mul_of_nonneg_left (by omega) (Int.le_of_lt (pow_pos' _))
      exact join_intro [(0, .own 1000 0 xs.length false), (1, uL fr ds)] (by simp [eget, uL]) ⟨by omega, rfl⟩
    rw [e0, Int.mul_zero, Int.add_zero] at hxe
    refine cut_intro (fun st => ∃ c : Nat, c ≤ ds.length ∧ zs.drop c = ds.drop c ∧ (1 ≤ c → zs[c - 1]? ≠ ds[c - 1]?) ∧ st = ⟨[(0, .own 1000 0 xs.length false), (1, uL fr ds), (5, .int .i64 ((c : Int) - 1))], rowU xs⟩) ?_ ?_
    · simp only [W1, W2, W3, popTo, memb, res, wres, env0, byteAt, optI, cutB, cutL, sliceR, strR, ldCells, ldR, iaR, faR, lenR, lenSR, ixR, exR, nchkR, mxR, csR, up, ZV.av, ZV.fit, zfits, fits, fitsL, cellsOf, down, downL, downLL, stR, mkR, bsR, boxR, alR, apR, cpR, srcQ, solid, killC, killV, killE, killO, killH, hget, hset, hdel, pubV, pubC, pubO, renV, renC, renO, reduceIte, reduceCtorEq, Nat.reduceEqDiff, Nat.reduceLT, Nat.reduceAdd, Int.reduceToNat, Nat.reduceLeDiff, Int.reducePow, Int.reduceLE, Int.reduceLT]
      refine loop_intro (fun m st => ∃ c : Nat, c ≤ ds.length ∧ m = c ∧ zs.drop c = ds.drop c ∧ st = ⟨[(0, .own 1000 0 xs.length false), (1, uL fr ds), (5, .int .i64 ((c : Int) - 1))], rowU xs⟩) ds.length
        [(0, .own 1000 0 xs.length false), (1, uL fr ds), (5, .int .i64 ((ds.length : Int) - 1))] (by simp [eget, uL]) ⟨ds.length, by omega, rfl, by rw [List.drop_eq_nil_of_le (by omega), List.drop_eq_nil_of_le (by omega)], rfl⟩ ?_
      rintro m st ⟨c, hc, rfl, hd, rfl⟩
      simp only [uL, rowU, W1, W2, W3, popTo, memb, res, wres, env0, byteAt, optI, cutB, cutL, sliceR, strR, ldCells, ldR, iaR, faR, lenR, lenSR, ixR, exR, nchkR, mxR, csR, up, ZV.av, ZV.fit, zfits, fits, fitsL, cellsOf, down, downL, downLL, stR, mkR, bsR, boxR, alR, apR, cpR, srcQ, solid, killC, killV, killE, killO, killH, hget, hset, hdel, pubV, pubC, pubO, renV, renC, renO, reduceIte, reduceCtorEq, Nat.reduceEqDiff, Nat.reduceLT, Nat.reduceAdd, Int.reduceToNat, Nat.reduceLeDiff, Int.reducePow, Int.reduceLE, Int.reduceLT]
      refine ⟨fun h0 => ⟨by omega, by omega, fun x hx => ⟨by omega, fun y hy => ⟨fun hxy => ⟨by omega, ?_⟩, fun hxy => ?_⟩⟩⟩, fun h0 => ?_⟩
      · obtain ⟨c, rfl⟩ : ∃ c, m = c + 1 := ⟨m - 1, by omega⟩
        rw [show (((c + 1 : Nat) : Int) - 1).toNat = c by omega] at hx hy
        subst hxy
        exact back_intro [(0, .own 1000 0 xs.length false), (1, uL fr ds), (5, .int .i64 ((c : Int) - 1))] (by simp [eget, uL] <;> omega) (by omega) ⟨c, by omega, rfl, drop_step (by rw [hzg c (by omega)]; exact hx) hy hd, rfl⟩
      · rw [show ((m : Int) - 1).toNat = m - 1 by omega] at hx hy
        exact join_intro [(0, .own 1000 0 xs.length false), (1, uL fr ds), (5, .int .i64 ((m : Int) - 1))] (by simp [eget, uL]) ⟨m, hc, hd, fun h1 => by rw [hzg (m - 1) (by omega), hx, hy]; simpa using hxy, rfl⟩
      · exact join_intro [(0, .own 1000 0 xs.length false), (1, uL fr ds), (5, .int .i64 ((m : Int) - 1))] (by simp [eget, uL]) ⟨m, hc, hd, fun h1 => by omega, rfl⟩
    rintro st ⟨c, hc, hd, hne, rfl⟩
    simp only [uL, rowU, W1, W2, W3, popTo, memb, res, wres, env0, byteAt, optI, cutB, cutL, sliceR, strR, ldCells, ldR, iaR, faR, lenR, lenSR, ixR, exR, nchkR, mxR, csR, up, ZV.av, ZV.fit, zfits, fits, fitsL, cellsOf, down, downL, downLL, stR, mkR, bsR, boxR, alR, apR, cpR, srcQ, solid, killC, killV, killE, killO, killH, hget, hset, hdel, pubV, pubC, pubO, renV, renC, renO, reduceIte, reduceCtorEq, Nat.reduceEqDiff, Nat.reduceLT, Nat.reduceAdd, Int.reduceToNat, Nat.reduceLeDiff, Int.reducePow, Int.reduceLE, Int.reduceLT]
    refine ⟨fun h0 => ⟨by omega, by omega, fun x hx => ⟨by omega, fun y hy => ?_⟩⟩, fun h0 => ?_⟩
    · rw [show ((c : Int) - 1).toNat = c - 1 by omega] at hx hy
      have hz := (hzg (c - 1) (by omega)).trans hx
      have hd' : zs.drop (c - 1 + 1) = ds.drop (c - 1 + 1) := by rw [show c - 1 + 1 = c by omega]; exact hd
      refine ⟨fun hlt => ?_, fun hge => join_intro [(0, .own 1000 0 xs.length false), (1, uL fr ds)] (by simp [eget, uL]) ⟨?_, rfl⟩⟩
      · have := val_lt_at lz ld hz hy hd' hlt
        have hn : ¬ val ds ≤ val xs := by omega
        exact ret_rowB (b := false) rfl ⟨by rw [decide_eq_false hn], xs, rfl, rfl, lx, by rw [if_neg hn]⟩
      · have hxy : x ≠ y := fun e => hne (by omega) (by rw [hz, hy, e])
        have := val_lt_at ld lz hy hz hd'.symm (by omega)
        omega
    · obtain rfl : c = 0 := by omega
      rw [List.drop_zero, List.drop_zero] at hd
      exact join_intro [(0, .own 1000 0 xs.length false), (1, uL fr ds)] (by simp [eget, uL]) ⟨by rw [hxe, hd]; exact Int.le_refl _, rfl⟩
  rintro st ⟨hle, rfl⟩
  simp only [uL, rowU, W1, W2, W3, popTo, memb, res, wres, env0, byteAt, optI, cutB, cutL, sliceR, strR, ldCells, ldR, iaR, faR, lenR, lenSR, ixR, exR, nchkR, mxR, csR, up, ZV.av, ZV.fit, zfits, fits, fitsL, cellsOf, down, downL, downLL, stR, mkR, bsR, boxR, alR, apR, cpR, srcQ, solid, killC, killV, killE, killO, killH, hget, hset, hdel, pubV, pubC, pubO, renV, renC, renO, reduceIte, reduceCtorEq, Nat.reduceEqDiff, Nat.reduceLT, Nat.reduceAdd, Int.reduceToNat, Nat.reduceLeDiff, Int.reducePow, Int.reduceLE, Int.reduceLT]
  rw [decide_eq_true hle, if_pos hle]
  refine cut_intro (fun st => ∃ ys : List Int, ys.length = xs.length ∧ lim ys ∧ val ys = val xs - val ds ∧ st = ⟨[], rowU ys⟩) ?_ ?_
  · simp only [W1, W2, W3, popTo, memb, res, wres, env0, byteAt, optI, cutB, cutL, sliceR, strR, ldCells, ldR, iaR, faR, lenR, lenSR, ixR, exR, nchkR, mxR, csR, up, ZV.av, ZV.fit, zfits, fits, fitsL, cellsOf, down, downL, downLL, stR, mkR, bsR, boxR, alR, apR, cpR, srcQ, solid, killC, killV, killE, killO, killH, hget, hset, hdel, pubV, pubC, pubO, renV, renC, renO, reduceIte, reduceCtorEq, Nat.reduceEqDiff, Nat.reduceLT, Nat.reduceAdd, Int.reduceToNat, Nat.reduceLeDiff, Int.reducePow, Int.reduceLE, Int.reduceLT]
    refine loop_intro (fun m st => ∃ (i : Nat) (ys : List Int) (c : Int), i ≤ xs.length ∧ m = xs.length - i ∧ ys.length = xs.length ∧ lim ys ∧ 0 ≤ c ∧ c ≤ 1 ∧ val ys = val xs - val (ds.take i) + 4294967296 ^ i * c ∧
      st = ⟨[(0, .own 1000 0 xs.length false), (1, uL fr ds), (6, .int .u64 c), (7, .int .i64 i)], rowU ys⟩) xs.length
      [(0, .own 1000 0 xs.length false), (1, uL fr ds), (6, .int .u64 0), (7, .int .i64 (0 : Nat))] (by simp [eget, uL]) ⟨0, xs, 0, by omega, by omega, rfl, lx, by omega, by omega, by simp [val], rfl⟩ ?_
    rintro m st ⟨i, ys, c, hi, rfl, hyl, ly, c0, c1, hv, rfl⟩
    simp only [uL, rowU, W1, W2, W3, popTo, memb, res, wres, env0, byteAt, optI, cutB, cutL, sliceR, strR, ldCells, ldR, iaR, faR, lenR, lenSR, ixR, exR, nchkR, mxR, csR, up, ZV.av, ZV.fit, zfits, fits, fitsL, cellsOf, down, downL, downLL, stR, mkR, bsR, boxR, alR, apR, cpR, srcQ, solid, killC, killV, killE, killO, killH, hget, hset, hdel, pubV, pubC, pubO, renV, renC, renO, reduceIte, reduceCtorEq, Nat.reduceEqDiff, Nat.reduceLT, Nat.reduceAdd, Int.reduceToNat, Nat.reduceLeDiff, Int.reducePow, Int.reduceLE, Int.reduceLT]
    rw [hyl]
    refine fun _ => ⟨fun h0 => ?_, fun h0 => ?_⟩
    rotate_left
    · obtain rfl : i = xs.length := by omega
      rw [List.take_of_length_le (by omega)] at hv
      have hyb := val_bound ly
      rw [hyl] at hyb
      have : c = 0 ∨ c = 1 := by omega
      rcases this with rfl | rfl
      · exact join_intro [] (by simp) ⟨ys, hyl, ly, by omega, rfl⟩
      · omega
    obtain ⟨y, hy⟩ : ∃ y, ys[i]? = some y := ⟨_, List.getElem?_eq_getElem (by omega)⟩
    have hY := ly.get hy
    have hw := ld.getD i
    have eS : (((4294967296 + y) % 18446744073709551616 - ds.getD i 0) % 18446744073709551616 - c) % 18446744073709551616 = 4294967296 + y - ds.getD i 0 - c := by omega
    have eT : (1 - (4294967296 + y - ds.getD i 0 - c) / 4294967296) % 18446744073709551616 = 1 - (4294967296 + y - ds.getD i 0 - c) / 4294967296 := by omega
    have hnew : val (ys.set i ((4294967296 + y - ds.getD i 0 - c) % 4294967296)) = val xs - val (ds.take (i + 1)) + 4294967296 ^ (i + 1) * (1 - (4294967296 + y - ds.getD i 0 - c) / 4294967296) := by
      rw [val_set hy, val_take_getD, hv, pow_s, show (4294967296 + y - ds.getD i 0 - c) % 4294967296 - y = 4294967296 - ds.getD i 0 - c - 4294967296 * ((4294967296 + y - ds.getD i 0 - c) / 4294967296) by omega]
      simp only [Int.mul_add, Int.mul_sub, Int.mul_one, ← Int.mul_assoc]
      omega
    simp only [hy, Option.some.injEq, forall_eq']
    repeat' (first | with_reducible refine And.intro ?_ ?_ | omega | intro _)
    all_goals
      refine call1 (sloperef1_at fr ds i) (by repeat (first | exact subs_nil | refine subs_int ?_ | refine subs_ro ?_ | refine subs_bool ?_ | refine subs_str ?_ | refine subs_nilro ?_ | refine subs_lits rfl ?_ | refine subs_all rfl rfl (by simp) ?_ | refine subs_own rfl rfl ?_ | refine subs_fn ?_)) ?_
      simp only [uL, W1, W2, W3, popTo, memb, res, wres, env0, byteAt, optI, cutB, cutL, sliceR, strR, ldCells, ldR, iaR, faR, lenR, lenSR, ixR, exR, nchkR, mxR, csR, up, ZV.av, ZV.fit, zfits, fits, fitsL, cellsOf, down, downL, downLL, stR, mkR, bsR, boxR, alR, apR, cpR, srcQ, solid, killC, killV, killE, killO, killH, hget, hset, hdel, pubV, pubC, pubO, renV, renC, renO, reduceIte, reduceCtorEq, Nat.reduceEqDiff, Nat.reduceLT, Nat.reduceAdd, Int.reduceToNat, Nat.reduceLeDiff, Int.reducePow, Int.reduceLE, Int.reduceLT]
      try simp only [hy, hyl, eS, eT, Option.some.injEq, forall_eq', exists_eq_left]
      repeat' (first | with_reducible refine And.intro ?_ ?_ | omega | intro _)
      all_goals
       exact back_intro [(0, .own 1000 0 xs.length false), (1, uL fr ds), (6, .int .u64 (1 - (4294967296 + y - ds.getD i 0 - c) / 4294967296)), (7, .int .i64 ((i + 1 : Nat) : Int))] (by simp [eget, uL]) (by omega)
         ⟨i + 1, _, _, by omega, rfl, by simp [hyl], ly.set i (by omega), by omega, by omega, hnew, rfl⟩
  · rintro st ⟨ys, h1, h2, h3, rfl⟩
    simp only [rowU, W1, W2, W3, popTo, memb, res, wres, env0, byteAt, optI, cutB, cutL, sliceR, strR, ldCells, ldR, iaR, faR, lenR, lenSR, ixR, exR, nchkR, mxR, csR, up, ZV.av, ZV.fit, zfits, fits, fitsL, cellsOf, down, downL, downLL, stR, mkR, bsR, boxR, alR, apR, cpR, srcQ, solid, killC, killV, killE, killO, killH, hget, hset, hdel, pubV, pubC, pubO, renV, renC, renO, reduceIte, reduceCtorEq, Nat.reduceEqDiff, Nat.reduceLT, Nat.reduceAdd, Int.reduceToNat, Nat.reduceLeDiff, Int.reducePow, Int.reduceLE, Int.reduceLT]
    exact ret_rowB (b := true) rfl ⟨rfl, ys, rfl, h1, h2, h3⟩

end Go.Vc
