/-
  Division by one limb; the greatest power of a base in one limb; digits.
-/
import Derived.Test.YtdlddbclcmecjaaNat17
import Derived.Test.YtdlddbclcmecjaaNat11
set_option linter.unusedVariables false
set_option linter.unusedSimpArgs false
namespace Go.Vc
open Go
open Go.Proofs

/- natural.short: arguments 2, results in [4, 5]; slots in use where its loops begin: [[0, 1, 6, 7, 8]] -/
def c94 : MC := .seq (.ops [ .op (some 4) none (.p (.mv .nil)), .op (some 5) none (.p (.mv (.i .u32 (0)))), .gh (.drop [4, 5])]) (.seq (.ops [ .op (some 10) none (.p (.mv (.t 0))), .op (some 11) none (.p (.len (.t 10))), .op (some 12) none (.w (.mk 99 1 4 [.int .u32] (encI .u32) (0 : Int) (.t 11) (.t 11))), .op (some 6) none (.p (.mv (.t 12))), .gh (.drop [10, 11, 12])]) (.seq (.ops [ .op (some 7) none (.p (.mv (.i .u64 (0))))]) (.seq (.seq (.ops [ .op (some 13) none (.p (.mv (.t 0))), .op (some 14) none (.p (.len (.t 13))), .op (some 15) none (.p (.bin .sub (.t 14) (.i .i64 (1)))), .op (some 8) none (.p (.mv (.t 15))), .gh (.drop [13, 14, 15])]) (.cut (.block 0 (.loop (.seq (.seq (.ops [ .op (some 16) none (.p (.mv (.t 8))), .op (some 17) none (.p (.bin .geq (.t 16) (.i .i64 (0)))), .gh (.drop [16])]) (.cond (.t 17) (.skip) (.exit 0))) (.seq (.block 1 (.seq (.ops [ .op (some 20) none (.p (.mv (.t 7))), .op (some 21) none (.p (.bin .shl (.t 20) (.i .u64 (32)))), .op (some 22) none (.p (.mv (.t 0))), .op (some 23) none (.p (.mv (.t 8))), .op (some 24) none (.p (.ia 1 (.t 22) (.t 23))), .op (some 25) none (.p (.ld 1 false (.t 24))), .op (some 26) none (.p (.cv .u64 (.t 25))), .op (some 27) none (.p (.bin .or (.t 21) (.t 26))), .op (some 9) none (.p (.mv (.t 27))), .gh (.drop [7, 20, 21, 22, 23, 24, 25, 26, 27])]) (.seq (.ops [ .op (some 28) none (.p (.mv (.t 6))), .op (some 29) none (.p (.mv (.t 8))), .op (some 30) none (.p (.mv (.t 9))), .op (some 31) none (.p (.mv (.t 1))), .op (some 32) none (.p (.cv .u64 (.t 31))), .op (some 33) none (.p (.bin .quo (.t 30) (.t 32))), .op (some 34) none (.p (.cv .u32 (.t 33))), .op (some 35) none (.p (.ia 1 (.t 28) (.t 29))), .op none none (.w (.st 1 (.t 35) (.t 34))), .gh (.drop [28, 29, 30, 31, 32, 33, 34, 35])]) (.ops [ .op (some 36) none (.p (.mv (.t 9))), .op (some 37) none (.p (.mv (.t 1))), .op (some 38) none (.p (.cv .u64 (.t 37))), .op (some 39) none (.p (.bin .rem (.t 36) (.t 38))), .op (some 7) none (.p (.mv (.t 39))), .gh (.drop [9, 36, 37, 38, 39])])))) (.ops [ .op (some 18) none (.p (.mv (.t 8))), .op (some 19) none (.p (.bin .sub (.t 18) (.i .i64 (1)))), .op (some 8) none (.p (.mv (.t 19))), .gh (.drop [18, 19])]))))))) (.seq (.ops [ .op (some 40) none (.p (.mv (.t 6))), .op (some 41) none (.call 81 [(.t 40)]), .op (some 42) none (.p (.mv (.t 7))), .op (some 43) none (.p (.cv .u32 (.t 42))), .op (some 4) none (.p (.mv (.t 41))), .op (some 5) none (.p (.mv (.t 43))), .gh (.drop [6, 7, 40, 41, 42, 43])]) (.ret)))))
theorem k94 : chkF Try.prog 94 2 [4, 5] c94 = true := by kernel_rfl

/- sloperef1.by: arguments 2, results in [4, 5]; slots in use where its loops begin: [[0, 1, 6, 7, 8]] -/
def c95 : MC := .seq (.ops [ .op (some 4) none (.p (.mv .nil)), .op (some 5) none (.p (.mv (.i .u64 (0)))), .gh (.drop [4, 5])]) (.seq (.ops [ .op (some 10) none (.p (.mv (.t 0))), .op (some 11) none (.p (.len (.t 10))), .op (some 12) none (.w (.mk 99 1 4 [.int .u32] (encI .u32) (0 : Int) (.t 11) (.t 11))), .op (some 6) none (.p (.mv (.t 12))), .gh (.drop [10, 11, 12])]) (.seq (.ops [ .op (some 7) none (.p (.mv (.i .u64 (0))))]) (.seq (.seq (.ops [ .op (some 13) none (.p (.mv (.t 0))), .op (some 14) none (.p (.len (.t 13))), .op (some 15) none (.p (.bin .sub (.t 14) (.i .i64 (1)))), .op (some 8) none (.p (.mv (.t 15))), .gh (.drop [13, 14, 15])]) (.cut (.block 0 (.loop (.seq (.seq (.ops [ .op (some 16) none (.p (.mv (.t 8))), .op (some 17) none (.p (.bin .geq (.t 16) (.i .i64 (0)))), .gh (.drop [16])]) (.cond (.t 17) (.skip) (.exit 0))) (.seq (.block 1 (.seq (.ops [ .op (some 20) none (.p (.mv (.t 7))), .op (some 21) none (.p (.bin .shl (.t 20) (.i .u64 (32)))), .op (some 22) none (.p (.mv (.t 0))), .op (some 23) none (.p (.mv (.t 8))), .op (some 24) none (.p (.ia 1 (.t 22) (.t 23))), .op (some 25) none (.p (.ld 1 false (.t 24))), .op (some 26) none (.p (.cv .u64 (.t 25))), .op (some 27) none (.p (.bin .or (.t 21) (.t 26))), .op (some 9) none (.p (.mv (.t 27))), .gh (.drop [7, 20, 21, 22, 23, 24, 25, 26, 27])]) (.seq (.ops [ .op (some 28) none (.p (.mv (.t 6))), .op (some 29) none (.p (.mv (.t 8))), .op (some 30) none (.p (.mv (.t 9))), .op (some 31) none (.p (.mv (.t 1))), .op (some 32) none (.p (.bin .quo (.t 30) (.t 31))), .op (some 33) none (.p (.cv .u32 (.t 32))), .op (some 34) none (.p (.ia 1 (.t 28) (.t 29))), .op none none (.w (.st 1 (.t 34) (.t 33))), .gh (.drop [28, 29, 30, 31, 32, 33, 34])]) (.ops [ .op (some 35) none (.p (.mv (.t 9))), .op (some 36) none (.p (.mv (.t 1))), .op (some 37) none (.p (.bin .rem (.t 35) (.t 36))), .op (some 7) none (.p (.mv (.t 37))), .gh (.drop [9, 35, 36, 37])])))) (.ops [ .op (some 18) none (.p (.mv (.t 8))), .op (some 19) none (.p (.bin .sub (.t 18) (.i .i64 (1)))), .op (some 8) none (.p (.mv (.t 19))), .gh (.drop [18, 19])]))))))) (.seq (.ops [ .op (some 38) none (.p (.mv (.t 6))), .op (some 39) none (.call 83 [(.t 38)]), .op (some 40) none (.p (.mv (.t 7))), .op (some 4) none (.p (.mv (.t 39))), .op (some 5) none (.p (.mv (.t 40))), .gh (.drop [6, 7, 38, 39, 40])]) (.ret)))))
theorem k95 : chkF Try.prog 95 2 [4, 5] c95 = true := by kernel_rfl

/- natural.piece: arguments 1, results in [2, 3]; slots in use where its loops begin: [[0, 4, 5]] -/
def c93 : MC := .seq (.ops [ .op (some 2) none (.p (.mv (.i .u32 (0)))), .op (some 3) none (.p (.mv (.i .i64 (0)))), .gh (.drop [2, 3])]) (.seq (.ops [ .op (some 6) none (.p (.mv (.t 0))), .op (some 7) none (.p (.cv .u64 (.t 6))), .op (some 4) none (.p (.mv (.t 7))), .op (some 5) none (.p (.mv (.i .i64 (1)))), .gh (.drop [6, 7])]) (.seq (.block 0 (.loop (.seq (.seq (.ops [ .op (some 8) none (.p (.mv (.t 4))), .op (some 9) none (.p (.mv (.t 0))), .op (some 10) none (.p (.cv .u64 (.t 9))), .op (some 11) none (.p (.bin .mul (.t 8) (.t 10))), .op (some 12) none (.p (.bin .lss (.t 11) (.i .u64 (4294967296)))), .gh (.drop [8, 9, 10, 11])]) (.cond (.t 12) (.skip) (.exit 0))) (.block 1 (.seq (.ops [ .op (some 13) none (.p (.mv (.t 4))), .op (some 14) none (.p (.mv (.t 0))), .op (some 15) none (.p (.cv .u64 (.t 14))), .op (some 16) none (.p (.bin .mul (.t 13) (.t 15))), .op (some 4) none (.p (.mv (.t 16))), .gh (.drop [13, 14, 15, 16])]) (.ops [ .op (some 17) none (.p (.mv (.t 5))), .op (some 18) none (.p (.bin .add (.t 17) (.i .i64 (1)))), .op (some 5) none (.p (.mv (.t 18))), .gh (.drop [17, 18])])))))) (.seq (.ops [ .op (some 19) none (.p (.mv (.t 4))), .op (some 20) none (.p (.cv .u32 (.t 19))), .op (some 21) none (.p (.mv (.t 5))), .op (some 2) none (.p (.mv (.t 20))), .op (some 3) none (.p (.mv (.t 21))), .gh (.drop [4, 5, 19, 20, 21])]) (.ret))))
theorem k93 : chkF Try.prog 93 1 [2, 3] c93 = true := by kernel_rfl

/- natural.value: arguments 1, results in [2]; slots in use where its loops begin: [] -/
def c96 : MC := .seq (.ops [ .op (some 2) none (.p (.mv (.i .i64 (0)))), .gh (.drop [2])]) (.seq (.block 0 (.seq (.ops [ .op (some 4) none (.p (.mv (.t 0))), .op (some 5) none (.p (.bin .geq (.t 4) (.i .u8 (48)))), .op (some 6) none (.p (.mv (.t 5))), .op (some 7) (some (6, true)) (.p (.mv (.t 0))), .op (some 8) (some (6, true)) (.p (.bin .leq (.t 7) (.i .u8 (57)))), .op (some 9) none (.pick (.t 6) (.t 8) (.b false)), .op (some 3) none (.p (.mv (.t 9))), .gh (.drop [4, 5, 6, 7, 8, 9])]) (.cond (.t 3) (.seq (.ops [ .op (some 10) none (.p (.mv (.t 0))), .op (some 11) none (.p (.bin .sub (.t 10) (.i .u8 (48)))), .op (some 12) none (.p (.cv .i64 (.t 11))), .op (some 2) none (.p (.mv (.t 12))), .gh (.drop [0, 10, 11, 12])]) (.ret)) (.seq (.ops [ .op (some 14) none (.p (.mv (.t 0))), .op (some 15) none (.p (.bin .geq (.t 14) (.i .u8 (97)))), .op (some 16) none (.p (.mv (.t 15))), .op (some 17) (some (16, true)) (.p (.mv (.t 0))), .op (some 18) (some (16, true)) (.p (.bin .leq (.t 17) (.i .u8 (122)))), .op (some 19) none (.pick (.t 16) (.t 18) (.b false)), .op (some 13) none (.p (.mv (.t 19))), .gh (.drop [14, 15, 16, 17, 18, 19])]) (.cond (.t 13) (.seq (.ops [ .op (some 20) none (.p (.mv (.t 0))), .op (some 21) none (.p (.bin .sub (.t 20) (.i .u8 (97)))), .op (some 22) none (.p (.cv .i64 (.t 21))), .op (some 23) none (.p (.bin .add (.t 22) (.i .i64 (10)))), .op (some 2) none (.p (.mv (.t 23))), .gh (.drop [0, 20, 21, 22, 23])]) (.ret)) (.seq (.ops [ .op (some 25) none (.p (.mv (.t 0))), .op (some 26) none (.p (.bin .geq (.t 25) (.i .u8 (65)))), .op (some 27) none (.p (.mv (.t 26))), .op (some 28) (some (27, true)) (.p (.mv (.t 0))), .op (some 29) (some (27, true)) (.p (.bin .leq (.t 28) (.i .u8 (90)))), .op (some 30) none (.pick (.t 27) (.t 29) (.b false)), .op (some 24) none (.p (.mv (.t 30))), .gh (.drop [25, 26, 27, 28, 29, 30])]) (.cond (.t 24) (.seq (.ops [ .op (some 31) none (.p (.mv (.t 0))), .op (some 32) none (.p (.bin .sub (.t 31) (.i .u8 (65)))), .op (some 33) none (.p (.cv .i64 (.t 32))), .op (some 34) none (.p (.bin .add (.t 33) (.i .i64 (10)))), .op (some 2) none (.p (.mv (.t 34))), .gh (.drop [0, 31, 32, 33, 34])]) (.ret)) (.skip)))))))) (.seq (.ops [ .op (some 2) none (.p (.mv (.i .i64 (36))))]) (.ret)))
theorem k96 : chkF Try.prog 96 1 [2] c96 = true := by kernel_rfl

/- sloperef1.Digit: arguments 1, results in [2]; slots in use where its loops begin: [] -/
def c99 : MC := .seq (.ops [ .op (some 2) none (.p (.mv (.i .i64 (0)))), .gh (.drop [2])]) (.seq (.block 0 (.seq (.ops [ .op (some 4) none (.p (.mv (.t 0))), .op (some 5) none (.p (.bin .geq (.t 4) (.i .u8 (48)))), .op (some 6) none (.p (.mv (.t 5))), .op (some 7) (some (6, true)) (.p (.mv (.t 0))), .op (some 8) (some (6, true)) (.p (.bin .leq (.t 7) (.i .u8 (57)))), .op (some 9) none (.pick (.t 6) (.t 8) (.b false)), .op (some 3) none (.p (.mv (.t 9))), .gh (.drop [4, 5, 6, 7, 8, 9])]) (.cond (.t 3) (.seq (.ops [ .op (some 10) none (.p (.mv (.t 0))), .op (some 11) none (.p (.cv .i64 (.t 10))), .op (some 12) none (.p (.bin .sub (.t 11) (.i .i64 (48)))), .op (some 2) none (.p (.mv (.t 12))), .gh (.drop [0, 10, 11, 12])]) (.ret)) (.seq (.ops [ .op (some 14) none (.p (.mv (.t 0))), .op (some 15) none (.p (.bin .geq (.t 14) (.i .u8 (97)))), .op (some 16) none (.p (.mv (.t 15))), .op (some 17) (some (16, true)) (.p (.mv (.t 0))), .op (some 18) (some (16, true)) (.p (.bin .leq (.t 17) (.i .u8 (122)))), .op (some 19) none (.pick (.t 16) (.t 18) (.b false)), .op (some 13) none (.p (.mv (.t 19))), .gh (.drop [14, 15, 16, 17, 18, 19])]) (.cond (.t 13) (.seq (.ops [ .op (some 20) none (.p (.mv (.t 0))), .op (some 21) none (.p (.cv .i64 (.t 20))), .op (some 22) none (.p (.bin .sub (.t 21) (.i .i64 (97)))), .op (some 23) none (.p (.bin .add (.t 22) (.i .i64 (10)))), .op (some 2) none (.p (.mv (.t 23))), .gh (.drop [0, 20, 21, 22, 23])]) (.ret)) (.seq (.ops [ .op (some 25) none (.p (.mv (.t 0))), .op (some 26) none (.p (.bin .geq (.t 25) (.i .u8 (65)))), .op (some 27) none (.p (.mv (.t 26))), .op (some 28) (some (27, true)) (.p (.mv (.t 0))), .op (some 29) (some (27, true)) (.p (.bin .leq (.t 28) (.i .u8 (90)))), .op (some 30) none (.pick (.t 27) (.t 29) (.b false)), .op (some 24) none (.p (.mv (.t 30))), .gh (.drop [25, 26, 27, 28, 29, 30])]) (.cond (.t 24) (.seq (.ops [ .op (some 31) none (.p (.mv (.t 0))), .op (some 32) none (.p (.cv .i64 (.t 31))), .op (some 33) none (.p (.bin .sub (.t 32) (.i .i64 (65)))), .op (some 34) none (.p (.bin .add (.t 33) (.i .i64 (10)))), .op (some 2) none (.p (.mv (.t 34))), .gh (.drop [0, 31, 32, 33, 34])]) (.ret)) (.skip)))))))) (.seq (.ops [ .op (some 2) none (.p (.mv (.i .i64 (36))))]) (.ret)))
theorem k99 : chkF Try.prog 99 1 [2] c99 = true := by kernel_rfl



theorem short_step {d r x Z : Int} (hd : 0 < d) (hd2 : d ≤ 4294967296) (hr : 0 ≤ r ∧ r < d) (hx : 0 ≤ x ∧ x < 4294967296) :
    (((r * 4294967296 % 18446744073709551616).toNat ||| x.toNat : Nat) : Int) = x + 4294967296 * r ∧ 0 ≤ (x + 4294967296 * r) / d ∧ (x + 4294967296 * r) / d < 4294967296 ∧ 0 ≤ (x + 4294967296 * r) % d ∧ (x + 4294967296 * r) % d < d ∧
    x + 4294967296 * (d * Z + r) = d * ((x + 4294967296 * r) / d + 4294967296 * Z) + (x + 4294967296 * r) % d ∧ x + 4294967296 * r < 18446744073709551616 := by
  have h0 : r * 4294967296 % 18446744073709551616 = r * 4294967296 := by omega
  have hs := Int.mul_ediv_add_emod (x + 4294967296 * r) d
  refine ⟨by rw [h0]; exact or_add r x hr.1 hx.1 hx.2, Int.ediv_nonneg (by omega) (by omega), ?_, Int.emod_nonneg _ (by omega), Int.emod_lt_of_pos _ hd, ?_, by omega⟩
  · apply Int.ediv_lt_of_lt_mul hd
    have : 4294967296 * (r + 1) ≤ 4294967296 * d := Int.mul_le_mul_of_nonneg_left (by omega) (by omega)
    omega
  · rw [Int.mul_add d, ← Int.mul_assoc d, Int.mul_comm d 4294967296, Int.mul_assoc]
    omega

theorem div_unique {V d q r : Int} (hd : 0 < d) (h : V = d * q + r) (hr : 0 ≤ r ∧ r < d) : V / d = q ∧ V % d = r := by
  rw [h, Int.add_comm, Int.add_mul_ediv_left _ _ (by omega), Int.add_mul_emod_self_left, Int.ediv_eq_zero_of_lt hr.1 hr.2, Int.emod_eq_of_lt hr.1 hr.2]
  simp

theorem set_low (zs : List Int) (c : Nat) (x y : Int) : (List.replicate (c + 1) x ++ zs).set c y = List.replicate c x ++ (y :: zs) := by
  rw [List.set_append_left _ _ (by simp)]
  rw [List.replicate_succ', List.set_append_right _ _ (by simp), List.length_replicate, Nat.sub_self, List.set_cons_zero, List.append_assoc, List.singleton_append]

theorem natural_short (fr : Bool) (a : List Int) (d : Int) (hd : 0 < d) (hb : a.length * 4 ≤ 140737488355328) : FSpec0 Try.prog 94 [uL fr a, .int .u32 d] (fun r => r = .tup [uL true (limbs (val a / d)), .int .u32 (val a % d)]) := by
  refine FSpec0.of_facts fun hf => fspec0_of_run k94 ?_
  have la : lim a := lim_of_factL hf.1
  have hdk := hf.2.1
  simp only [factV, inK] at hdk
  simp only [uL, c94, W1, W2, W3, popTo, memb, res, wres, env0, byteAt, optI, cutB, cutL, sliceR, strR, ldCells, ldR, iaR, faR, lenR, lenSR, ixR, exR, nchkR, mxR, csR, up, ZV.av, ZV.fit, zfits, fits, fitsL, cellsOf, down, downL, downLL, stR, mkR, bsR, boxR, alR, apR, cpR, srcQ, solid, killC, killV, killE, killO, killH, hget, hset, hdel, pubV, pubC, pubO, renV, renC, renO, reduceIte, reduceCtorEq, Nat.reduceEqDiff, Nat.reduceLT, Nat.reduceAdd, Int.reduceToNat, Nat.reduceLeDiff, Int.reducePow, Int.reduceLE, Int.reduceLT]
  intro _
  refine ⟨by omega, fun _ => ⟨by omega, ?_⟩⟩
  refine cut_intro (fun st => ∃ (zs : List Int) (r : Int), zs.length = a.length ∧ lim zs ∧ 0 ≤ r ∧ r < d ∧ val a = d * val zs + r ∧ st = ⟨[(6, .own 12 0 a.length true), (7, .int .u64 r)], [(12, .arr 99 true true 1 (encI .u32) zs)]⟩) ?_ ?_
  · simp only [W1, W2, W3, popTo, memb, res, wres, env0, byteAt, optI, cutB, cutL, sliceR, strR, ldCells, ldR, iaR, faR, lenR, lenSR, ixR, exR, nchkR, mxR, csR, up, ZV.av, ZV.fit, zfits, fits, fitsL, cellsOf, down, downL, downLL, stR, mkR, bsR, boxR, alR, apR, cpR, srcQ, solid, killC, killV, killE, killO, killH, hget, hset, hdel, pubV, pubC, pubO, renV, renC, renO, reduceIte, reduceCtorEq, Nat.reduceEqDiff, Nat.reduceLT, Nat.reduceAdd, Int.reduceToNat, Nat.reduceLeDiff, Int.reducePow, Int.reduceLE, Int.reduceLT]
    refine loop_intro (fun m st => ∃ (c : Nat) (zs : List Int) (r : Int), c ≤ a.length ∧ m = c ∧ zs.length = a.length - c ∧ lim zs ∧ 0 ≤ r ∧ r < d ∧ val (a.drop c) = d * val zs + r ∧
      st = ⟨[(0, uL fr a), (1, .int .u32 d), (6, .own 12 0 a.length true), (7, .int .u64 r), (8, .int .i64 ((c : Int) - 1))], [(12, .arr 99 true true 1 (encI .u32) (List.replicate c 0 ++ zs))]⟩) a.length
      [(0, uL fr a), (1, .int .u32 d), (6, .own 12 0 a.length true), (7, .int .u64 0), (8, .int .i64 ((a.length : Int) - 1))] (by simp [eget, uL]) ⟨a.length, [], 0, by omega, rfl, by simp, lim.nil, by omega, hd, by simp [val], by rw [List.append_nil]⟩ ?_
    rintro m st ⟨c, zs, r, hc, rfl, hzl, lz, r0, r1, hv, rfl⟩
    simp only [uL, W1, W2, W3, popTo, memb, res, wres, env0, byteAt, optI, cutB, cutL, sliceR, strR, ldCells, ldR, iaR, faR, lenR, lenSR, ixR, exR, nchkR, mxR, csR, up, ZV.av, ZV.fit, zfits, fits, fitsL, cellsOf, down, downL, downLL, stR, mkR, bsR, boxR, alR, apR, cpR, srcQ, solid, killC, killV, killE, killO, killH, hget, hset, hdel, pubV, pubC, pubO, renV, renC, renO, reduceIte, reduceCtorEq, Nat.reduceEqDiff, Nat.reduceLT, Nat.reduceAdd, Int.reduceToNat, Nat.reduceLeDiff, Int.reducePow, Int.reduceLE, Int.reduceLT]
    refine ⟨fun h0 => ⟨by omega, fun x hx _ _ => ?_⟩, fun h0 => ?_⟩
    · obtain ⟨c, rfl⟩ : ∃ c, m = c + 1 := ⟨m - 1, by omega⟩
      rw [show (((c + 1 : Nat) : Int) - 1).toNat = c by omega] at hx ⊢
      have hX := la.get hx
      obtain ⟨q0, q1, q2, q3, q4, q5, q6⟩ := short_step (Z := val zs) hd (by omega) ⟨r0, r1⟩ hX
      have hlen : (List.replicate (c + 1) (0 : Int) ++ zs).length = a.length := by simp; omega
      rw [q0, hlen]
      refine ⟨by omega, fun _ _ => ⟨by omega, fun _ => ⟨by omega, by omega, _, rfl, fun _ _ => ⟨by omega, by omega, ?_⟩⟩⟩⟩
      rw [set_low, Int.emod_eq_of_lt q1 q2]
      exact back_intro [(0, uL fr a), (1, .int .u32 d), (6, .own 12 0 a.length true), (7, .int .u64 ((x + 4294967296 * r) % d)), (8, .int .i64 ((c : Int) - 1))] (by simp [eget, uL]) (by omega)
        ⟨c, _ :: zs, _, by omega, rfl, by simp; omega, (show lim ([_] ++ zs) from lim.append (fun _ hx => by rw [List.mem_singleton.1 hx]; exact ⟨q1, q2⟩) lz), q3, q4, by rw [val_drop hx, hv, q5, val], rfl⟩
    · obtain rfl : m = 0 := by omega
      exact join_intro [(6, .own 12 0 a.length true), (7, .int .u64 r)] (by simp [eget]) ⟨zs, r, by omega, lz, r0, r1, by simpa using hv, by simp⟩
  · rintro st ⟨zs, r, hzl, lz, r0, r1, hv, rfl⟩
    obtain ⟨e1, e2⟩ := div_unique hd hv ⟨r0, r1⟩
    simp only [W1, W2, W3, popTo, memb, res, wres, env0, byteAt, optI, cutB, cutL, sliceR, strR, ldCells, ldR, iaR, faR, lenR, lenSR, ixR, exR, nchkR, mxR, csR, up, ZV.av, ZV.fit, zfits, fits, fitsL, cellsOf, down, downL, downLL, stR, mkR, bsR, boxR, alR, apR, cpR, srcQ, solid, killC, killV, killE, killO, killH, hget, hset, hdel, pubV, pubC, pubO, renV, renC, renO, reduceIte, reduceCtorEq, Nat.reduceEqDiff, Nat.reduceLT, Nat.reduceAdd, Int.reduceToNat, Nat.reduceLeDiff, Int.reducePow, Int.reduceLE, Int.reduceLT]
    refine call1 (natural_trim false zs (by omega)) (by repeat (first | exact subs_nil | refine subs_all rfl rfl (by omega) ?_)) ?_
    simp only [uL, W1, W2, W3, popTo, memb, res, wres, env0, byteAt, optI, cutB, cutL, sliceR, strR, ldCells, ldR, iaR, faR, lenR, lenSR, ixR, exR, nchkR, mxR, csR, up, ZV.av, ZV.fit, zfits, fits, fitsL, cellsOf, down, downL, downLL, stR, mkR, bsR, boxR, alR, apR, cpR, srcQ, solid, killC, killV, killE, killO, killH, hget, hset, hdel, pubV, pubC, pubO, renV, renC, renO, reduceIte, reduceCtorEq, Nat.reduceEqDiff, Nat.reduceLT, Nat.reduceAdd, Int.reduceToNat, Nat.reduceLeDiff, Int.reducePow, Int.reduceLE, Int.reduceLT]
    exact ret1' (by rw [trimL_limbs lz, e1, e2, show r % 4294967296 = r by omega]; simp only [uL, retR, retA, retL, ret1, ret1L, eget, hget, hset, St.set, eset, List.map_cons, List.map_nil, reduceIte, reduceCtorEq, Nat.reduceEqDiff, Nat.reduceLT, true_and, and_true, false_or, or_true, true_or, List.drop_zero, List.take_length, scalE_I, scalE_B, scalE_S])

theorem sloperef1_by (fr : Bool) (a : List Int) (d : Int) (hd : 0 < d) (hd2 : d < 4294967296) (hb : a.length * 4 ≤ 140737488355328) : FSpec0 Try.prog 95 [uL fr a, .int .u64 d] (fun r => r = .tup [uL true (limbs (val a / d)), .int .u64 (val a % d)]) := by
  refine FSpec0.of_facts fun hf => fspec0_of_run k95 ?_
  have la : lim a := lim_of_factL hf.1
  simp only [uL, c95, W1, W2, W3, popTo, memb, res, wres, env0, byteAt, optI, cutB, cutL, sliceR, strR, ldCells, ldR, iaR, faR, lenR, lenSR, ixR, exR, nchkR, mxR, csR, up, ZV.av, ZV.fit, zfits, fits, fitsL, cellsOf, down, downL, downLL, stR, mkR, bsR, boxR, alR, apR, cpR, srcQ, solid, killC, killV, killE, killO, killH, hget, hset, hdel, pubV, pubC, pubO, renV, renC, renO, reduceIte, reduceCtorEq, Nat.reduceEqDiff, Nat.reduceLT, Nat.reduceAdd, Int.reduceToNat, Nat.reduceLeDiff, Int.reducePow, Int.reduceLE, Int.reduceLT]
  intro _
  refine ⟨by omega, fun _ => ⟨by omega, ?_⟩⟩
  refine cut_intro (fun st => ∃ (zs : List Int) (r : Int), zs.length = a.length ∧ lim zs ∧ 0 ≤ r ∧ r < d ∧ val a = d * val zs + r ∧ st = ⟨[(6, .own 12 0 a.length true), (7, .int .u64 r)], [(12, .arr 99 true true 1 (encI .u32) zs)]⟩) ?_ ?_
  · simp only [W1, W2, W3, popTo, memb, res, wres, env0, byteAt, optI, cutB, cutL, sliceR, strR, ldCells, ldR, iaR, faR, lenR, lenSR, ixR, exR, nchkR, mxR, csR, up, ZV.av, ZV.fit, zfits, fits, fitsL, cellsOf, down, downL, downLL, stR, mkR, bsR, boxR, alR, apR, cpR, srcQ, solid, killC, killV, killE, killO, killH, hget, hset, hdel, pubV, pubC, pubO, renV, renC, renO, reduceIte, reduceCtorEq, Nat.reduceEqDiff, Nat.reduceLT, Nat.reduceAdd, Int.reduceToNat, Nat.reduceLeDiff, Int.reducePow, Int.reduceLE, Int.reduceLT]
    refine loop_intro (fun m st => ∃ (c : Nat) (zs : List Int) (r : Int), c ≤ a.length ∧ m = c ∧ zs.length = a.length - c ∧ lim zs ∧ 0 ≤ r ∧ r < d ∧ val (a.drop c) = d * val zs + r ∧
      st = ⟨[(0, uL fr a), (1, .int .u64 d), (6, .own 12 0 a.length true), (7, .int .u64 r), (8, .int .i64 ((c : Int) - 1))], [(12, .arr 99 true true 1 (encI .u32) (List.replicate c 0 ++ zs))]⟩) a.length
      [(0, uL fr a), (1, .int .u64 d), (6, .own 12 0 a.length true), (7, .int .u64 0), (8, .int .i64 ((a.length : Int) - 1))] (by simp [eget, uL]) ⟨a.length, [], 0, by omega, rfl, by simp, lim.nil, by omega, hd, by simp [val], by rw [List.append_nil]⟩ ?_
    rintro m st ⟨c, zs, r, hc, rfl, hzl, lz, r0, r1, hv, rfl⟩
    simp only [uL, W1, W2, W3, popTo, memb, res, wres, env0, byteAt, optI, cutB, cutL, sliceR, strR, ldCells, ldR, iaR, faR, lenR, lenSR, ixR, exR, nchkR, mxR, csR, up, ZV.av, ZV.fit, zfits, fits, fitsL, cellsOf, down, downL, downLL, stR, mkR, bsR, boxR, alR, apR, cpR, srcQ, solid, killC, killV, killE, killO, killH, hget, hset, hdel, pubV, pubC, pubO, renV, renC, renO, reduceIte, reduceCtorEq, Nat.reduceEqDiff, Nat.reduceLT, Nat.reduceAdd, Int.reduceToNat, Nat.reduceLeDiff, Int.reducePow, Int.reduceLE, Int.reduceLT]
    refine ⟨fun h0 => ⟨by omega, fun x hx _ _ => ?_⟩, fun h0 => ?_⟩
    · obtain ⟨c, rfl⟩ : ∃ c, m = c + 1 := ⟨m - 1, by omega⟩
      rw [show (((c + 1 : Nat) : Int) - 1).toNat = c by omega] at hx ⊢
      have hX := la.get hx
      obtain ⟨q0, q1, q2, q3, q4, q5, q6⟩ := short_step (Z := val zs) hd (by omega) ⟨r0, r1⟩ hX
      have hlen : (List.replicate (c + 1) (0 : Int) ++ zs).length = a.length := by simp; omega
      rw [q0, hlen]
      refine ⟨by omega, fun _ => ⟨by omega, fun _ => ⟨by omega, by omega, _, rfl, fun _ => ⟨by omega, by omega, ?_⟩⟩⟩⟩
      rw [set_low, Int.emod_eq_of_lt q1 q2]
      exact back_intro [(0, uL fr a), (1, .int .u64 d), (6, .own 12 0 a.length true), (7, .int .u64 ((x + 4294967296 * r) % d)), (8, .int .i64 ((c : Int) - 1))] (by simp [eget, uL]) (by omega)
        ⟨c, _ :: zs, _, by omega, rfl, by simp; omega, (show lim ([_] ++ zs) from lim.append (fun _ hx => by rw [List.mem_singleton.1 hx]; exact ⟨q1, q2⟩) lz), q3, q4, by rw [val_drop hx, hv, q5, val], rfl⟩
    · obtain rfl : m = 0 := by omega
      exact join_intro [(6, .own 12 0 a.length true), (7, .int .u64 r)] (by simp [eget]) ⟨zs, r, by omega, lz, r0, r1, by simpa using hv, by simp⟩
  · rintro st ⟨zs, r, hzl, lz, r0, r1, hv, rfl⟩
    obtain ⟨e1, e2⟩ := div_unique hd hv ⟨r0, r1⟩
    simp only [W1, W2, W3, popTo, memb, res, wres, env0, byteAt, optI, cutB, cutL, sliceR, strR, ldCells, ldR, iaR, faR, lenR, lenSR, ixR, exR, nchkR, mxR, csR, up, ZV.av, ZV.fit, zfits, fits, fitsL, cellsOf, down, downL, downLL, stR, mkR, bsR, boxR, alR, apR, cpR, srcQ, solid, killC, killV, killE, killO, killH, hget, hset, hdel, pubV, pubC, pubO, renV, renC, renO, reduceIte, reduceCtorEq, Nat.reduceEqDiff, Nat.reduceLT, Nat.reduceAdd, Int.reduceToNat, Nat.reduceLeDiff, Int.reducePow, Int.reduceLE, Int.reduceLT]
    refine call1 (sloperef1_Trim false zs (by omega)) (by repeat (first | exact subs_nil | refine subs_all rfl rfl (by omega) ?_)) ?_
    simp only [uL, W1, W2, W3, popTo, memb, res, wres, env0, byteAt, optI, cutB, cutL, sliceR, strR, ldCells, ldR, iaR, faR, lenR, lenSR, ixR, exR, nchkR, mxR, csR, up, ZV.av, ZV.fit, zfits, fits, fitsL, cellsOf, down, downL, downLL, stR, mkR, bsR, boxR, alR, apR, cpR, srcQ, solid, killC, killV, killE, killO, killH, hget, hset, hdel, pubV, pubC, pubO, renV, renC, renO, reduceIte, reduceCtorEq, Nat.reduceEqDiff, Nat.reduceLT, Nat.reduceAdd, Int.reduceToNat, Nat.reduceLeDiff, Int.reducePow, Int.reduceLE, Int.reduceLT]
    exact ret1' (by rw [trimL_limbs lz, e1, e2]; simp only [uL, retR, retA, retL, ret1, ret1L, eget, hget, hset, St.set, eset, List.map_cons, List.map_nil, reduceIte, reduceCtorEq, Nat.reduceEqDiff, Nat.reduceLT, true_and, and_true, false_or, or_true, true_or, List.drop_zero, List.take_length, scalE_I, scalE_B, scalE_S])

theorem base_pow {b : Int} (hb : 2 ≤ b) (n : Nat) : (2 : Int) ^ n ≤ b ^ n := by
  induction n with
  | zero => simp
  | succ n ih =>
    rw [Int.pow_succ, Int.pow_succ]
    have h1 : (2 : Int) ^ n * 2 ≤ b ^ n * 2 := Int.mul_le_mul_of_nonneg_right ih (by omega)
    have h2 : b ^ n * 2 ≤ b ^ n * b := Int.mul_le_mul_of_nonneg_left hb (Int.pow_nonneg (by omega))
    omega
theorem base_len {b : Int} (hb : 2 ≤ b) {n : Nat} (h : b ^ n < 4294967296) : n < 32 := by
  refine Nat.lt_of_not_le fun hn => ?_
  have h1 := base_pow hb n
  have h2 : (2 : Int) ^ 32 ≤ 2 ^ n := by
    obtain ⟨k, rfl⟩ := Nat.le.dest hn
    rw [Int.pow_add]
    have : (1 : Int) ≤ 2 ^ k := Int.pow_pos (by omega)
    have : (2 : Int) ^ 32 * 1 ≤ 2 ^ 32 * 2 ^ k := Int.mul_le_mul_of_nonneg_left this (by decide)
    omega
  rw [show (2 : Int) ^ 32 = 4294967296 from rfl] at h2
  omega

theorem natural_piece (b : Int) (h1 : 2 ≤ b) (h2 : b ≤ 36) : FSpec0 Try.prog 93 [.int .i64 b] (fun r => ∃ s : Nat, 1 ≤ s ∧ s < 32 ∧ b ^ s < 4294967296 ∧ r = .tup [.int .u32 (b ^ s), .int .i64 s]) := by
  refine fspec0_of_run k93 ?_
  simp only [c93, W1, W2, W3, popTo, memb, res, wres, env0, byteAt, optI, cutB, cutL, sliceR, strR, ldCells, ldR, iaR, faR, lenR, lenSR, ixR, exR, nchkR, mxR, csR, up, ZV.av, ZV.fit, zfits, fits, fitsL, cellsOf, down, downL, downLL, stR, mkR, bsR, boxR, alR, apR, cpR, srcQ, solid, killC, killV, killE, killO, killH, hget, hset, hdel, pubV, pubC, pubO, renV, renC, renO, reduceIte, reduceCtorEq, Nat.reduceEqDiff, Nat.reduceLT, Nat.reduceAdd, Int.reduceToNat, Nat.reduceLeDiff, Int.reducePow, Int.reduceLE, Int.reduceLT]
  have eb : b % 18446744073709551616 = b := by omega
  rw [eb]
  refine loop_intro (fun m st => ∃ s : Nat, 1 ≤ s ∧ b ^ s < 4294967296 ∧ m = 32 - s ∧ st = ⟨[(0, .int .i64 b), (4, .int .u64 (b ^ s)), (5, .int .i64 s)], []⟩) 31
    [(0, .int .i64 b), (4, .int .u64 (b ^ 1)), (5, .int .i64 (1 : Nat))] (by simp [eget]; rw [show (1 : Nat) = 0 + 1 from rfl, Int.pow_succ]; simp) ⟨1, by omega, by rw [Int.pow_one]; omega, by omega, rfl⟩ ?_
  rintro m st ⟨s, hs, hp, rfl, rfl⟩
  have hs32 := base_len h1 hp
  have hp0 : 0 < b ^ s := Int.pow_pos (by omega)
  have hmul : b ^ s * b ≤ 4294967296 * 36 := by
    have a1 : b ^ s * b ≤ b ^ s * 36 := Int.mul_le_mul_of_nonneg_left h2 (by omega)
    omega
  have hmul0 : 0 ≤ b ^ s * b := Int.mul_nonneg (by omega) (by omega)
  have em : b ^ s * b % 18446744073709551616 = b ^ s * b := by omega
  simp only [W1, W2, W3, popTo, memb, res, wres, env0, byteAt, optI, cutB, cutL, sliceR, strR, ldCells, ldR, iaR, faR, lenR, lenSR, ixR, exR, nchkR, mxR, csR, up, ZV.av, ZV.fit, zfits, fits, fitsL, cellsOf, down, downL, downLL, stR, mkR, bsR, boxR, alR, apR, cpR, srcQ, solid, killC, killV, killE, killO, killH, hget, hset, hdel, pubV, pubC, pubO, renV, renC, renO, reduceIte, reduceCtorEq, Nat.reduceEqDiff, Nat.reduceLT, Nat.reduceAdd, Int.reduceToNat, Nat.reduceLeDiff, Int.reducePow, Int.reduceLE, Int.reduceLT, eb, em]
  refine ⟨fun h => ⟨by omega, ?_⟩, fun h => ?_⟩
  · exact back_intro [(0, .int .i64 b), (4, .int .u64 (b ^ (s + 1))), (5, .int .i64 ((s + 1 : Nat) : Int))] (by simp [eget, Int.pow_succ]) (by have := base_len h1 (n := s + 1) (by rw [Int.pow_succ]; exact h); omega) ⟨s + 1, by omega, by rw [Int.pow_succ]; exact h, rfl, rfl⟩
  · exact ret0 (.tup [.int .u32 (b ^ s), .int .i64 s]) (by rw [show b ^ s % 4294967296 = b ^ s by omega]; simp only [retR, retA, retL, ret1, ret1L, eget, hget, hset, St.set, eset, List.map_cons, List.map_nil, reduceIte, reduceCtorEq, Nat.reduceEqDiff, Nat.reduceLT, true_and, and_true, false_or, or_true, true_or, List.drop_zero, List.take_length, scalE_I, scalE_B, scalE_S]) ⟨s, hs, hs32, hp, rfl⟩

/-- a digit's value; 36: it is none -/
def dval (c : Int) : Int := if 48 ≤ c ∧ c ≤ 57 then c - 48 else if 97 ≤ c ∧ c ≤ 122 then c - 87 else if 65 ≤ c ∧ c ≤ 90 then c - 55 else 36

theorem natural_value (c : Int) : FSpec0 Try.prog 96 [.int .u8 c] (fun r => r = .int .i64 (dval c)) := by
  refine FSpec0.of_facts fun hf => fspec0_of_run k96 ?_
  have hc := hf.1
  simp only [factV, inK] at hc
  simp only [c96, W1, W2, W3, popTo, memb, res, wres, env0, byteAt, optI, cutB, cutL, sliceR, strR, ldCells, ldR, iaR, faR, lenR, lenSR, ixR, exR, nchkR, mxR, csR, up, ZV.av, ZV.fit, zfits, fits, fitsL, cellsOf, down, downL, downLL, stR, mkR, bsR, boxR, alR, apR, cpR, srcQ, solid, killC, killV, killE, killO, killH, hget, hset, hdel, pubV, pubC, pubO, renV, renC, renO, reduceIte, reduceCtorEq, Nat.reduceEqDiff, Nat.reduceLT, Nat.reduceAdd, Int.reduceToNat, Nat.reduceLeDiff, Int.reducePow, Int.reduceLE, Int.reduceLT]
  repeat' (first
    | exact ret1' (by simp only [dval]; (repeat' split) <;> (try omega) <;> simp only [retR, retA, retL, ret1, ret1L, eget, hget, hset, St.set, eset, List.map_cons, List.map_nil, reduceIte, reduceCtorEq, Nat.reduceEqDiff, Nat.reduceLT, true_and, and_true, false_or, or_true, true_or, List.drop_zero, List.take_length, scalE_I, scalE_B, scalE_S] <;> first | omega | (refine congrArg (AV.int _) ?_; omega))
    | refine ⟨?_, ?_⟩ | omega | intro _)

theorem sloperef1_Digit (c : Int) : FSpec0 Try.prog 99 [.int .u8 c] (fun r => r = .int .i64 (dval c)) := by
  refine FSpec0.of_facts fun hf => fspec0_of_run k99 ?_
  have hc := hf.1
  simp only [factV, inK] at hc
  simp only [c99, W1, W2, W3, popTo, memb, res, wres, env0, byteAt, optI, cutB, cutL, sliceR, strR, ldCells, ldR, iaR, faR, lenR, lenSR, ixR, exR, nchkR, mxR, csR, up, ZV.av, ZV.fit, zfits, fits, fitsL, cellsOf, down, downL, downLL, stR, mkR, bsR, boxR, alR, apR, cpR, srcQ, solid, killC, killV, killE, killO, killH, hget, hset, hdel, pubV, pubC, pubO, renV, renC, renO, reduceIte, reduceCtorEq, Nat.reduceEqDiff, Nat.reduceLT, Nat.reduceAdd, Int.reduceToNat, Nat.reduceLeDiff, Int.reducePow, Int.reduceLE, Int.reduceLT]
  repeat' (first
    | exact ret1' (by simp only [dval]; (repeat' split) <;> (try omega) <;> simp only [retR, retA, retL, ret1, ret1L, eget, hget, hset, St.set, eset, List.map_cons, List.map_nil, reduceIte, reduceCtorEq, Nat.reduceEqDiff, Nat.reduceLT, true_and, and_true, false_or, or_true, true_or, List.drop_zero, List.take_length, scalE_I, scalE_B, scalE_S] <;> first | omega | (refine congrArg (AV.int _) ?_; omega))
    | refine ⟨?_, ?_⟩ | omega | intro _)

end Go.Vc
