/-
  Products, limb by limb.
-/
import Derived.Test.YtdlddbclcmecjaaVal
import Derived.Test.YtdlddbclcmecjaaVc25
set_option linter.unusedVariables false
set_option linter.unusedSimpArgs false
namespace Go.Vc
open Go
open Go.Proofs

/- natural.school: arguments 2, results in [4]; slots in use where its loops begin: [[1, 5, 18, 19, 20], [1, 5, 6, 7, 8, 18, 19, 20, 25, 26, 27]] -/
def c98 : MC := .seq (.ops [ .op (some 4) none (.p (.mv .nil)), .gh (.drop [4])]) (.seq (.ops [ .op (some 12) none (.p (.mv (.t 0))), .op (some 13) none (.p (.len (.t 12))), .op (some 14) none (.p (.mv (.t 1))), .op (some 15) none (.p (.len (.t 14))), .op (some 16) none (.p (.bin .add (.t 13) (.t 15))), .op (some 17) none (.w (.mk 99 1 4 [.int .u32] (encI .u32) (0 : Int) (.t 16) (.t 16))), .op (some 5) none (.p (.mv (.t 17))), .gh (.drop [12, 13, 14, 15, 16, 17])]) (.seq (.seq (.ops [ .op (some 18) none (.p (.mv (.t 0))), .op (some 19) none (.p (.len (.t 18))), .op (some 20) none (.p (.mv (.i .i64 (0)))), .gh (.drop [0])]) (.cut (.block 0 (.loop (.seq (.ops [ .op (some 21) none (.p (.bin .lss (.t 20) (.t 19)))]) (.seq (.cond (.t 21) (.skip) (.exit 0)) (.seq (.block 1 (.seq (.ops [ .op (some 22) none (.p (.mv (.t 20))), .op (some 23) none (.p (.ia 1 (.t 18) (.t 20))), .op (some 24) none (.p (.ld 1 false (.t 23))), .op (some 6) none (.p (.mv (.t 22))), .op (some 7) none (.p (.mv (.t 24))), .gh (.drop [22, 23, 24])]) (.seq (.ops [ .op (some 8) none (.p (.mv (.i .u64 (0))))]) (.seq (.seq (.ops [ .op (some 25) none (.p (.mv (.t 1))), .op (some 26) none (.p (.len (.t 25))), .op (some 27) none (.p (.mv (.i .i64 (0))))]) (.cut (.block 2 (.loop (.seq (.ops [ .op (some 28) none (.p (.bin .lss (.t 27) (.t 26)))]) (.seq (.cond (.t 28) (.skip) (.exit 2)) (.seq (.block 3 (.seq (.ops [ .op (some 29) none (.p (.mv (.t 27))), .op (some 30) none (.p (.ia 1 (.t 25) (.t 27))), .op (some 31) none (.p (.ld 1 false (.t 30))), .op (some 9) none (.p (.mv (.t 29))), .op (some 10) none (.p (.mv (.t 31))), .gh (.drop [29, 30, 31])]) (.seq (.ops [ .op (some 32) none (.p (.mv (.t 7))), .op (some 33) none (.p (.cv .u64 (.t 32))), .op (some 34) none (.p (.mv (.t 10))), .op (some 35) none (.p (.cv .u64 (.t 34))), .op (some 36) none (.p (.bin .mul (.t 33) (.t 35))), .op (some 37) none (.p (.mv (.t 5))), .op (some 38) none (.p (.mv (.t 6))), .op (some 39) none (.p (.mv (.t 9))), .op (some 40) none (.p (.bin .add (.t 38) (.t 39))), .op (some 41) none (.p (.ia 1 (.t 37) (.t 40))), .op (some 42) none (.p (.ld 1 false (.t 41))), .op (some 43) none (.p (.cv .u64 (.t 42))), .op (some 44) none (.p (.bin .add (.t 36) (.t 43))), .op (some 45) none (.p (.mv (.t 8))), .op (some 46) none (.p (.bin .add (.t 44) (.t 45))), .op (some 11) none (.p (.mv (.t 46))), .gh (.drop [8, 10, 32, 33, 34, 35, 36, 37, 38, 39, 40, 41, 42, 43, 44, 45, 46])]) (.seq (.ops [ .op (some 47) none (.p (.mv (.t 5))), .op (some 48) none (.p (.mv (.t 6))), .op (some 49) none (.p (.mv (.t 9))), .op (some 50) none (.p (.bin .add (.t 48) (.t 49))), .op (some 51) none (.p (.mv (.t 11))), .op (some 52) none (.p (.cv .u32 (.t 51))), .op (some 53) none (.p (.ia 1 (.t 47) (.t 50))), .op none none (.w (.st 1 (.t 53) (.t 52))), .gh (.drop [9, 47, 48, 49, 50, 51, 52, 53])]) (.ops [ .op (some 54) none (.p (.mv (.t 11))), .op (some 55) none (.p (.bin .shr (.t 54) (.i .u64 (32)))), .op (some 8) none (.p (.mv (.t 55))), .gh (.drop [11, 54, 55])]))))) (.ops [ .op (some 56) none (.p (.bin .add (.t 27) (.i .i64 (1)))), .op (some 27) none (.p (.mv (.t 56))), .gh (.drop [56])])))))))) (.ops [ .op (some 57) none (.p (.mv (.t 5))), .op (some 58) none (.p (.mv (.t 6))), .op (some 59) none (.p (.mv (.t 1))), .op (some 60) none (.p (.len (.t 59))), .op (some 61) none (.p (.bin .add (.t 58) (.t 60))), .op (some 62) none (.p (.mv (.t 8))), .op (some 63) none (.p (.cv .u32 (.t 62))), .op (some 64) none (.p (.ia 1 (.t 57) (.t 61))), .op none none (.w (.st 1 (.t 64) (.t 63))), .gh (.drop [6, 8, 57, 58, 59, 60, 61, 62, 63, 64])]))))) (.ops [ .op (some 65) none (.p (.bin .add (.t 20) (.i .i64 (1)))), .op (some 20) none (.p (.mv (.t 65))), .gh (.drop [65])])))))))) (.seq (.ops [ .op (some 66) none (.p (.mv (.t 5))), .op (some 4) none (.p (.mv (.t 66))), .gh (.drop [5, 66])]) (.ret))))
theorem k98 : chkF Try.prog 98 2 [4] c98 = true := by kernel_rfl

/- sloperef1.times: arguments 2, results in [4]; slots in use where its loops begin: [[0, 1, 5, 6], [0, 1, 5, 6, 7, 8]] -/
def c101 : MC := .seq (.ops [ .op (some 4) none (.p (.mv .nil)), .gh (.drop [4])]) (.seq (.ops [ .op (some 10) none (.p (.mv (.t 0))), .op (some 11) none (.p (.len (.t 10))), .op (some 12) none (.p (.mv (.t 1))), .op (some 13) none (.p (.len (.t 12))), .op (some 14) none (.p (.bin .add (.t 11) (.t 13))), .op (some 15) none (.w (.mk 99 1 4 [.int .u32] (encI .u32) (0 : Int) (.t 14) (.t 14))), .op (some 5) none (.p (.mv (.t 15))), .gh (.drop [10, 11, 12, 13, 14, 15])]) (.seq (.seq (.ops [ .op (some 6) none (.p (.mv (.i .i64 (0))))]) (.cut (.block 0 (.loop (.seq (.seq (.ops [ .op (some 16) none (.p (.mv (.t 6))), .op (some 17) none (.p (.mv (.t 0))), .op (some 18) none (.p (.len (.t 17))), .op (some 19) none (.p (.bin .lss (.t 16) (.t 18))), .gh (.drop [16, 17, 18])]) (.cond (.t 19) (.skip) (.exit 0))) (.seq (.block 1 (.seq (.ops [ .op (some 7) none (.p (.mv (.i .u64 (0))))]) (.seq (.seq (.ops [ .op (some 8) none (.p (.mv (.i .i64 (0))))]) (.cut (.block 2 (.loop (.seq (.seq (.ops [ .op (some 22) none (.p (.mv (.t 8))), .op (some 23) none (.p (.mv (.t 1))), .op (some 24) none (.p (.len (.t 23))), .op (some 25) none (.p (.bin .lss (.t 22) (.t 24))), .gh (.drop [22, 23, 24])]) (.cond (.t 25) (.skip) (.exit 2))) (.seq (.block 3 (.seq (.ops [ .op (some 28) none (.p (.mv (.t 0))), .op (some 29) none (.p (.mv (.t 6))), .op (some 30) none (.p (.ia 1 (.t 28) (.t 29))), .op (some 31) none (.p (.ld 1 false (.t 30))), .op (some 32) none (.p (.cv .u64 (.t 31))), .op (some 33) none (.p (.mv (.t 1))), .op (some 34) none (.p (.mv (.t 8))), .op (some 35) none (.p (.ia 1 (.t 33) (.t 34))), .op (some 36) none (.p (.ld 1 false (.t 35))), .op (some 37) none (.p (.cv .u64 (.t 36))), .op (some 38) none (.p (.bin .mul (.t 32) (.t 37))), .op (some 39) none (.p (.mv (.t 5))), .op (some 40) none (.p (.mv (.t 6))), .op (some 41) none (.p (.mv (.t 8))), .op (some 42) none (.p (.bin .add (.t 40) (.t 41))), .op (some 43) none (.p (.ia 1 (.t 39) (.t 42))), .op (some 44) none (.p (.ld 1 false (.t 43))), .op (some 45) none (.p (.cv .u64 (.t 44))), .op (some 46) none (.p (.bin .add (.t 38) (.t 45))), .op (some 47) none (.p (.mv (.t 7))), .op (some 48) none (.p (.bin .add (.t 46) (.t 47))), .op (some 9) none (.p (.mv (.t 48)))]) (.gh (.drop [7, 28, 29, 30, 31, 32, 33, 34, 35, 36, 37, 38, 39, 40, 41, 42, 43, 44, 45, 46, 47, 48]) (.seq (.ops [ .op (some 49) none (.p (.mv (.t 5))), .op (some 50) none (.p (.mv (.t 6))), .op (some 51) none (.p (.mv (.t 8))), .op (some 52) none (.p (.bin .add (.t 50) (.t 51))), .op (some 53) none (.p (.mv (.t 9))), .op (some 54) none (.p (.cv .u32 (.t 53))), .op (some 55) none (.p (.ia 1 (.t 49) (.t 52))), .op none none (.w (.st 1 (.t 55) (.t 54))), .gh (.drop [49, 50, 51, 52, 53, 54, 55])]) (.ops [ .op (some 56) none (.p (.mv (.t 9))), .op (some 57) none (.p (.bin .shr (.t 56) (.i .u64 (32)))), .op (some 7) none (.p (.mv (.t 57))), .gh (.drop [9, 56, 57])]))))) (.ops [ .op (some 26) none (.p (.mv (.t 8))), .op (some 27) none (.p (.bin .add (.t 26) (.i .i64 (1)))), .op (some 8) none (.p (.mv (.t 27))), .gh (.drop [26, 27])]))))))) (.ops [ .op (some 58) none (.p (.mv (.t 5))), .op (some 59) none (.p (.mv (.t 6))), .op (some 60) none (.p (.mv (.t 1))), .op (some 61) none (.p (.len (.t 60))), .op (some 62) none (.p (.bin .add (.t 59) (.t 61))), .op (some 63) none (.p (.mv (.t 7))), .op (some 64) none (.p (.cv .u32 (.t 63))), .op (some 65) none (.p (.ia 1 (.t 58) (.t 62))), .op none none (.w (.st 1 (.t 65) (.t 64))), .gh (.drop [7, 58, 59, 60, 61, 62, 63, 64, 65])])))) (.ops [ .op (some 20) none (.p (.mv (.t 6))), .op (some 21) none (.p (.bin .add (.t 20) (.i .i64 (1)))), .op (some 6) none (.p (.mv (.t 21))), .gh (.drop [20, 21])]))))))) (.seq (.ops [ .op (some 66) none (.p (.mv (.t 5))), .op (some 4) none (.p (.mv (.t 66))), .gh (.drop [5, 66])]) (.ret))))
theorem k101 : chkF Try.prog 101 2 [4] c101 = true := by kernel_rfl



theorem pow_add' (m n : Nat) : (4294967296 : Int) ^ (m + n) = 4294967296 ^ m * 4294967296 ^ n := Int.pow_add _ _ _

theorem mul_bound {x y : Int} (hx : 0 ≤ x ∧ x < 4294967296) (hy : 0 ≤ y ∧ y < 4294967296) : 0 ≤ x * y ∧ x * y ≤ 18446744065119617025 := by
  refine ⟨Int.mul_nonneg hx.1 hy.1, ?_⟩
  have h1 : x * y ≤ 4294967295 * y := Int.mul_le_mul_of_nonneg_right (by omega) hy.1
  omega

theorem row_step {us : List Int} {p : Nat} {x y c u : Int} (lu : lim us) (hu : us[p]? = some u) (hx : 0 ≤ x ∧ x < 4294967296) (hy : 0 ≤ y ∧ y < 4294967296) (hc : 0 ≤ c ∧ c < 4294967296) :
    0 ≤ x * y + u + c ∧ x * y + u + c < 18446744073709551616 ∧ ((x * y % 18446744073709551616 + u) % 18446744073709551616 + c) % 18446744073709551616 = x * y + u + c ∧ 0 ≤ (x * y + u + c) / 4294967296 ∧ (x * y + u + c) / 4294967296 < 4294967296 ∧
    lim (us.set p ((x * y + u + c) % 4294967296)) ∧ val (us.set p ((x * y + u + c) % 4294967296)) + 4294967296 ^ (p + 1) * ((x * y + u + c) / 4294967296) = val us + 4294967296 ^ p * (x * y + c) := by
  have hxy := mul_bound hx hy
  have hU := lu.get hu
  rw [val_set hu, pow_s]
  generalize x * y = q at *
  have hs := Int.mul_ediv_add_emod (q + u + c) 4294967296
  refine ⟨by omega, by omega, by omega, by omega, by omega, lu.set p (by omega), ?_⟩
  generalize (q + u + c) % 4294967296 = m at *
  generalize (q + u + c) / 4294967296 = d at *
  have h1 : (4294967296 : Int) ^ p * (q + u + c) = 4294967296 ^ p * (4294967296 * d + m) := by rw [hs]
  simp only [Int.mul_add, Int.mul_sub, ← Int.mul_assoc] at h1 ⊢
  omega

theorem row_next {Z Y x y c V : Int} {i k : Nat} {T : Int} (h : V + 4294967296 ^ (i + k) * c = Z + 4294967296 ^ i * x * T) (h2 : Y = V + 4294967296 ^ (i + k) * (x * y + c)) : Y = Z + 4294967296 ^ i * x * (T + 4294967296 ^ k * y) := by
  rw [h2, pow_add'] at *
  have e : (4294967296 : Int) ^ i * 4294967296 ^ k * (x * y + c) = 4294967296 ^ i * 4294967296 ^ k * c + 4294967296 ^ i * x * (4294967296 ^ k * y) := by
    rw [Int.mul_add, Int.add_comm]; congr 1
    rw [Int.mul_assoc, Int.mul_assoc, Int.mul_left_comm (4294967296 ^ k) x y]
  rw [e, Int.mul_add]
  omega

theorem set_mid {us : List Int} {n p : Nat} {e x : Int} (hp : p < us.length) : (us ++ List.replicate n x).set p e = us.set p e ++ List.replicate n x := by
  rw [List.set_append, if_pos hp]
theorem get_mid {us vs : List Int} {p : Nat} (hp : p < us.length) : (us ++ vs)[p]? = us[p]? := List.getElem?_append_left hp

theorem set_rep2 (us : List Int) (N i p : Nat) (e x : Int) (hp : us.length = p) (hi : i < N) : (us ++ List.replicate (N - i) x).set p e = (us ++ [e]) ++ List.replicate (N - (i + 1)) x := by
  rw [List.set_append, if_neg (by omega), hp, Nat.sub_self, show N - i = (N - (i + 1)) + 1 by omega, List.replicate_succ, List.set_cons_zero, List.append_assoc, List.singleton_append]

theorem natural_school (fr fr' : Bool) (xs ys : List Int) (hb : (xs.length + ys.length) * 4 ≤ 140737488355328) :
    FSpec0 Try.prog 98 [uL fr xs, uL fr' ys] (fun r => ∃ zs, r = uL true zs ∧ lim zs ∧ zs.length = xs.length + ys.length ∧ val zs = val xs * val ys) := by
  refine FSpec0.of_facts fun hf => fspec0_of_run k98 ?_
  have lx : lim xs := lim_of_factL hf.1
  have ly : lim ys := lim_of_factL hf.2.1
  simp only [uL, c98, W1, W2, W3, popTo, memb, res, wres, env0, byteAt, optI, cutB, cutL, sliceR, strR, ldCells, ldR, iaR, faR, lenR, lenSR, ixR, exR, nchkR, mxR, csR, up, ZV.av, ZV.fit, zfits, fits, fitsL, cellsOf, down, downL, downLL, stR, mkR, bsR, boxR, alR, apR, cpR, srcQ, solid, killC, killV, killE, killO, killH, hget, hset, hdel, pubV, pubC, pubO, renV, renC, renO, reduceIte, reduceCtorEq, Nat.reduceEqDiff, Nat.reduceLT, Nat.reduceAdd, Int.reduceToNat, Nat.reduceLeDiff, Int.reducePow, Int.reduceLE, Int.reduceLT]
  intro _ _
  refine ⟨by omega, by omega, fun _ => ?_⟩
  rw [show ((xs.length : Int) + ys.length).toNat = xs.length + ys.length by omega]
  refine cut_intro (fun st => ∃ zs : List Int, zs.length = xs.length + ys.length ∧ lim zs ∧ val zs = val xs * val ys ∧ st = ⟨[(5, .own 17 0 (xs.length + ys.length) true)], [(17, .arr 99 true true 1 (encI .u32) zs)]⟩) ?_ ?_
  · simp only [W1, W2, W3, popTo, memb, res, wres, env0, byteAt, optI, cutB, cutL, sliceR, strR, ldCells, ldR, iaR, faR, lenR, lenSR, ixR, exR, nchkR, mxR, csR, up, ZV.av, ZV.fit, zfits, fits, fitsL, cellsOf, down, downL, downLL, stR, mkR, bsR, boxR, alR, apR, cpR, srcQ, solid, killC, killV, killE, killO, killH, hget, hset, hdel, pubV, pubC, pubO, renV, renC, renO, reduceIte, reduceCtorEq, Nat.reduceEqDiff, Nat.reduceLT, Nat.reduceAdd, Int.reduceToNat, Nat.reduceLeDiff, Int.reducePow, Int.reduceLE, Int.reduceLT]
    refine loop_intro (fun m st => ∃ (i : Nat) (zs : List Int), i ≤ xs.length ∧ m = xs.length - i ∧ zs.length = i + ys.length ∧ lim zs ∧ val zs = val (xs.take i) * val ys ∧
      st = ⟨[(1, .ro fr' 1 (encI .u32) ys), (5, .own 17 0 (xs.length + ys.length) true), (18, .ro fr 1 (encI .u32) xs), (19, .int .i64 xs.length), (20, .int .i64 i)], [(17, .arr 99 true true 1 (encI .u32) (zs ++ List.replicate (xs.length - i) 0))]⟩) xs.length
      [(1, .ro fr' 1 (encI .u32) ys), (5, .own 17 0 (xs.length + ys.length) true), (18, .ro fr 1 (encI .u32) xs), (19, .int .i64 xs.length), (20, .int .i64 (0 : Nat))] (by simp [eget]) ⟨0, List.replicate ys.length 0, by omega, by omega, by simp, lim.rep _, by simp [val, val_rep], by rw [List.replicate_append_replicate, Nat.sub_zero, Nat.add_comm]⟩ ?_
    rintro m st ⟨i, zs, hi, rfl, hzl, lz, hv, rfl⟩
    simp only [W1, W2, W3, popTo, memb, res, wres, env0, byteAt, optI, cutB, cutL, sliceR, strR, ldCells, ldR, iaR, faR, lenR, lenSR, ixR, exR, nchkR, mxR, csR, up, ZV.av, ZV.fit, zfits, fits, fitsL, cellsOf, down, downL, downLL, stR, mkR, bsR, boxR, alR, apR, cpR, srcQ, solid, killC, killV, killE, killO, killH, hget, hset, hdel, pubV, pubC, pubO, renV, renC, renO, reduceIte, reduceCtorEq, Nat.reduceEqDiff, Nat.reduceLT, Nat.reduceAdd, Int.reduceToNat, Nat.reduceLeDiff, Int.reducePow, Int.reduceLE, Int.reduceLT]
    refine ⟨fun h0 => ⟨by omega, fun x hx => fun _ => ?_⟩, fun h0 => ?_⟩
    · have hX := lx.get hx
      refine cut_intro (fun st => ∃ (c : Int) (us : List Int), 0 ≤ c ∧ c < 4294967296 ∧ us.length = i + ys.length ∧ lim us ∧ val us + 4294967296 ^ (i + ys.length) * c = val zs + 4294967296 ^ i * x * val ys ∧
        st = ⟨[(1, .ro fr' 1 (encI .u32) ys), (5, .own 17 0 (xs.length + ys.length) true), (6, .int .i64 i), (8, .int .u64 c), (18, .ro fr 1 (encI .u32) xs), (19, .int .i64 xs.length), (20, .int .i64 i)], [(17, .arr 99 true true 1 (encI .u32) (us ++ List.replicate (xs.length - i) 0))]⟩) ?_ ?_
      · simp only [W1, W2, W3, popTo, memb, res, wres, env0, byteAt, optI, cutB, cutL, sliceR, strR, ldCells, ldR, iaR, faR, lenR, lenSR, ixR, exR, nchkR, mxR, csR, up, ZV.av, ZV.fit, zfits, fits, fitsL, cellsOf, down, downL, downLL, stR, mkR, bsR, boxR, alR, apR, cpR, srcQ, solid, killC, killV, killE, killO, killH, hget, hset, hdel, pubV, pubC, pubO, renV, renC, renO, reduceIte, reduceCtorEq, Nat.reduceEqDiff, Nat.reduceLT, Nat.reduceAdd, Int.reduceToNat, Nat.reduceLeDiff, Int.reducePow, Int.reduceLE, Int.reduceLT]
        refine loop_intro (fun m st => ∃ (k : Nat) (c : Int) (us : List Int), k ≤ ys.length ∧ m = ys.length - k ∧ 0 ≤ c ∧ c < 4294967296 ∧ us.length = i + ys.length ∧ lim us ∧ val us + 4294967296 ^ (i + k) * c = val zs + 4294967296 ^ i * x * val (ys.take k) ∧
          st = ⟨[(1, .ro fr' 1 (encI .u32) ys), (5, .own 17 0 (xs.length + ys.length) true), (6, .int .i64 i), (7, .int .u32 x), (8, .int .u64 c), (18, .ro fr 1 (encI .u32) xs), (19, .int .i64 xs.length), (20, .int .i64 i), (25, .ro fr' 1 (encI .u32) ys), (26, .int .i64 ys.length), (27, .int .i64 k)], [(17, .arr 99 true true 1 (encI .u32) (us ++ List.replicate (xs.length - i) 0))]⟩) ys.length
          [(1, .ro fr' 1 (encI .u32) ys), (5, .own 17 0 (xs.length + ys.length) true), (6, .int .i64 i), (7, .int .u32 x), (8, .int .u64 0), (18, .ro fr 1 (encI .u32) xs), (19, .int .i64 xs.length), (20, .int .i64 i), (25, .ro fr' 1 (encI .u32) ys), (26, .int .i64 ys.length), (27, .int .i64 (0 : Nat))] (by simp [eget]) ⟨0, 0, zs, by omega, by omega, by omega, by omega, hzl, lz, by simp [val], rfl⟩ ?_
        rintro m st ⟨k, c, us, hk, rfl, c0, c1, hul, lu, hw, rfl⟩
        simp only [W1, W2, W3, popTo, memb, res, wres, env0, byteAt, optI, cutB, cutL, sliceR, strR, ldCells, ldR, iaR, faR, lenR, lenSR, ixR, exR, nchkR, mxR, csR, up, ZV.av, ZV.fit, zfits, fits, fitsL, cellsOf, down, downL, downLL, stR, mkR, bsR, boxR, alR, apR, cpR, srcQ, solid, killC, killV, killE, killO, killH, hget, hset, hdel, pubV, pubC, pubO, renV, renC, renO, reduceIte, reduceCtorEq, Nat.reduceEqDiff, Nat.reduceLT, Nat.reduceAdd, Int.reduceToNat, Nat.reduceLeDiff, Int.reducePow, Int.reduceLE, Int.reduceLT]
        refine ⟨fun h1 => ⟨by omega, fun y hy => ?_⟩, fun h1 => ?_⟩
        · have hY := ly.get hy
          have en : ((i : Int) + k).toNat = i + k := by omega
          have hlen : (us ++ List.replicate (xs.length - i) 0).length = xs.length + ys.length := by simp; omega
          rw [en, hlen, get_mid (show i + k < us.length by omega)]
          refine fun _ _ => ⟨by omega, fun _ => ⟨by omega, by omega, fun e he _ => ⟨by omega, fun _ => ⟨by omega, by omega, ?_⟩⟩⟩⟩
          obtain ⟨s0, s1, s2, d0, d1, hL, hV⟩ := row_step lu he hX hY ⟨c0, c1⟩
          rw [s2]
          refine ⟨_, rfl, fun _ => ⟨by omega, ?_⟩⟩
          rw [set_mid (show i + k < us.length by omega)]
          refine back_intro [(1, .ro fr' 1 (encI .u32) ys), (5, .own 17 0 (xs.length + ys.length) true), (6, .int .i64 i), (7, .int .u32 x), (8, .int .u64 ((x * y + e + c) / 4294967296)), (18, .ro fr 1 (encI .u32) xs), (19, .int .i64 xs.length), (20, .int .i64 i), (25, .ro fr' 1 (encI .u32) ys), (26, .int .i64 ys.length), (27, .int .i64 ((k + 1 : Nat) : Int))]
            (by simp [eget]) (by omega) ⟨k + 1, _, us.set (i + k) ((x * y + e + c) % 4294967296), by omega, rfl, d0, d1, by simp [hul], hL, ?_, rfl⟩
          rw [val_take_succ hy]
          exact row_next hw hV
        · obtain rfl : k = ys.length := by omega
          rw [List.take_length] at hw
          exact join_intro [(1, .ro fr' 1 (encI .u32) ys), (5, .own 17 0 (xs.length + ys.length) true), (6, .int .i64 i), (8, .int .u64 c), (18, .ro fr 1 (encI .u32) xs), (19, .int .i64 xs.length), (20, .int .i64 i)] (by simp [eget]) ⟨c, us, c0, c1, hul, lu, hw, rfl⟩
      · rintro st ⟨c, us, c0, c1, hul, lu, hw, rfl⟩
        simp only [W1, W2, W3, popTo, memb, res, wres, env0, byteAt, optI, cutB, cutL, sliceR, strR, ldCells, ldR, iaR, faR, lenR, lenSR, ixR, exR, nchkR, mxR, csR, up, ZV.av, ZV.fit, zfits, fits, fitsL, cellsOf, down, downL, downLL, stR, mkR, bsR, boxR, alR, apR, cpR, srcQ, solid, killC, killV, killE, killO, killH, hget, hset, hdel, pubV, pubC, pubO, renV, renC, renO, reduceIte, reduceCtorEq, Nat.reduceEqDiff, Nat.reduceLT, Nat.reduceAdd, Int.reduceToNat, Nat.reduceLeDiff, Int.reducePow, Int.reduceLE, Int.reduceLT]
        have en : ((i : Int) + ys.length).toNat = i + ys.length := by omega
        have hlen : (us ++ List.replicate (xs.length - i) 0).length = xs.length + ys.length := by simp; omega
        have ec : c % 4294967296 = c := by omega
        rw [en, hlen, ec]
        refine fun _ => ⟨by omega, fun _ => ⟨by omega, by omega, _, rfl, by omega, ?_⟩⟩
        rw [set_rep2 us xs.length i _ _ _ hul (by omega)]
        refine back_intro [(1, .ro fr' 1 (encI .u32) ys), (5, .own 17 0 (xs.length + ys.length) true), (18, .ro fr 1 (encI .u32) xs), (19, .int .i64 xs.length), (20, .int .i64 ((i + 1 : Nat) : Int))]
          (by simp [eget]) (by omega) ⟨i + 1, us ++ [c], by omega, rfl, by simp; omega, lu.snoc ⟨c0, c1⟩, ?_, rfl⟩
        rw [val_snoc, hul, hw, hv, val_take_succ hx, Int.add_mul]
    · obtain rfl : i = xs.length := by omega
      rw [List.take_length] at hv
      rw [Nat.sub_self]
      exact join_intro [(5, .own 17 0 (xs.length + ys.length) true)] (by simp [eget]) ⟨zs, hzl, lz, hv, by simp⟩
  · rintro st ⟨zs, hzl, lz, hv, rfl⟩
    simp only [W1, W2, W3, popTo, memb, res, wres, env0, byteAt, optI, cutB, cutL, sliceR, strR, ldCells, ldR, iaR, faR, lenR, lenSR, ixR, exR, nchkR, mxR, csR, up, ZV.av, ZV.fit, zfits, fits, fitsL, cellsOf, down, downL, downLL, stR, mkR, bsR, boxR, alR, apR, cpR, srcQ, solid, killC, killV, killE, killO, killH, hget, hset, hdel, pubV, pubC, pubO, renV, renC, renO, reduceIte, reduceCtorEq, Nat.reduceEqDiff, Nat.reduceLT, Nat.reduceAdd, Int.reduceToNat, Nat.reduceLeDiff, Int.reducePow, Int.reduceLE, Int.reduceLT]
    exact ret0 (uL true zs) (by simp only [uL, retR, retA, retL, ret1, ret1L, eget, hget, hset, St.set, eset, List.map_cons, List.map_nil, reduceIte, reduceCtorEq, Nat.reduceEqDiff, Nat.reduceLT, true_and, and_true, false_or, or_true, true_or, List.drop_zero, List.take_length, scalE_I, scalE_B, scalE_S]; rw [List.take_of_length_le (by omega)]) ⟨zs, rfl, lz, hzl, hv⟩

theorem sloperef1_times (fr fr' : Bool) (xs ys : List Int) (hb : (xs.length + ys.length) * 4 ≤ 140737488355328) :
    FSpec0 Try.prog 101 [uL fr xs, uL fr' ys] (fun r => ∃ zs, r = uL true zs ∧ lim zs ∧ zs.length = xs.length + ys.length ∧ val zs = val xs * val ys) := by
  refine FSpec0.of_facts fun hf => fspec0_of_run k101 ?_
  have lx : lim xs := lim_of_factL hf.1
  have ly : lim ys := lim_of_factL hf.2.1
  simp only [uL, c101, W1, W2, W3, popTo, memb, res, wres, env0, byteAt, optI, cutB, cutL, sliceR, strR, ldCells, ldR, iaR, faR, lenR, lenSR, ixR, exR, nchkR, mxR, csR, up, ZV.av, ZV.fit, zfits, fits, fitsL, cellsOf, down, downL, downLL, stR, mkR, bsR, boxR, alR, apR, cpR, srcQ, solid, killC, killV, killE, killO, killH, hget, hset, hdel, pubV, pubC, pubO, renV, renC, renO, reduceIte, reduceCtorEq, Nat.reduceEqDiff, Nat.reduceLT, Nat.reduceAdd, Int.reduceToNat, Nat.reduceLeDiff, Int.reducePow, Int.reduceLE, Int.reduceLT]
  intro _ _
  refine ⟨by omega, by omega, ?_⟩
  rw [show ((xs.length : Int) + ys.length).toNat = xs.length + ys.length by omega]
  refine cut_intro (fun st => ∃ zs : List Int, zs.length = xs.length + ys.length ∧ lim zs ∧ val zs = val xs * val ys ∧ st = ⟨[(5, .own 15 0 (xs.length + ys.length) true)], [(15, .arr 99 true true 1 (encI .u32) zs)]⟩) ?_ ?_
  · simp only [W1, W2, W3, popTo, memb, res, wres, env0, byteAt, optI, cutB, cutL, sliceR, strR, ldCells, ldR, iaR, faR, lenR, lenSR, ixR, exR, nchkR, mxR, csR, up, ZV.av, ZV.fit, zfits, fits, fitsL, cellsOf, down, downL, downLL, stR, mkR, bsR, boxR, alR, apR, cpR, srcQ, solid, killC, killV, killE, killO, killH, hget, hset, hdel, pubV, pubC, pubO, renV, renC, renO, reduceIte, reduceCtorEq, Nat.reduceEqDiff, Nat.reduceLT, Nat.reduceAdd, Int.reduceToNat, Nat.reduceLeDiff, Int.reducePow, Int.reduceLE, Int.reduceLT]
    refine loop_intro (fun m st => ∃ (i : Nat) (zs : List Int), i ≤ xs.length ∧ m = xs.length - i ∧ zs.length = i + ys.length ∧ lim zs ∧ val zs = val (xs.take i) * val ys ∧
      st = ⟨[(0, .ro fr 1 (encI .u32) xs), (1, .ro fr' 1 (encI .u32) ys), (5, .own 15 0 (xs.length + ys.length) true), (6, .int .i64 i)], [(15, .arr 99 true true 1 (encI .u32) (zs ++ List.replicate (xs.length - i) 0))]⟩) xs.length
      [(0, .ro fr 1 (encI .u32) xs), (1, .ro fr' 1 (encI .u32) ys), (5, .own 15 0 (xs.length + ys.length) true), (6, .int .i64 (0 : Nat))] (by simp [eget]) ⟨0, List.replicate ys.length 0, by omega, by omega, by simp, lim.rep _, by simp [val, val_rep], by rw [List.replicate_append_replicate, Nat.sub_zero, Nat.add_comm]⟩ ?_
    rintro m st ⟨i, zs, hi, rfl, hzl, lz, hv, rfl⟩
    simp only [W1, W2, W3, popTo, memb, res, wres, env0, byteAt, optI, cutB, cutL, sliceR, strR, ldCells, ldR, iaR, faR, lenR, lenSR, ixR, exR, nchkR, mxR, csR, up, ZV.av, ZV.fit, zfits, fits, fitsL, cellsOf, down, downL, downLL, stR, mkR, bsR, boxR, alR, apR, cpR, srcQ, solid, killC, killV, killE, killO, killH, hget, hset, hdel, pubV, pubC, pubO, renV, renC, renO, reduceIte, reduceCtorEq, Nat.reduceEqDiff, Nat.reduceLT, Nat.reduceAdd, Int.reduceToNat, Nat.reduceLeDiff, Int.reducePow, Int.reduceLE, Int.reduceLT]
    refine fun _ => ⟨fun h0 => ?_, fun h0 => ?_⟩
    · have hx : xs[i]? = some xs[i] := List.getElem?_eq_getElem (by omega)
      generalize hxx : xs[i] = x at hx
      have hX := lx.get hx
      refine cut_intro (fun st => ∃ (c : Int) (us : List Int), 0 ≤ c ∧ c < 4294967296 ∧ us.length = i + ys.length ∧ lim us ∧ val us + 4294967296 ^ (i + ys.length) * c = val zs + 4294967296 ^ i * x * val ys ∧
        st = ⟨[(0, .ro fr 1 (encI .u32) xs), (1, .ro fr' 1 (encI .u32) ys), (5, .own 15 0 (xs.length + ys.length) true), (6, .int .i64 i), (7, .int .u64 c)], [(15, .arr 99 true true 1 (encI .u32) (us ++ List.replicate (xs.length - i) 0))]⟩) ?_ ?_
      · simp only [W1, W2, W3, popTo, memb, res, wres, env0, byteAt, optI, cutB, cutL, sliceR, strR, ldCells, ldR, iaR, faR, lenR, lenSR, ixR, exR, nchkR, mxR, csR, up, ZV.av, ZV.fit, zfits, fits, fitsL, cellsOf, down, downL, downLL, stR, mkR, bsR, boxR, alR, apR, cpR, srcQ, solid, killC, killV, killE, killO, killH, hget, hset, hdel, pubV, pubC, pubO, renV, renC, renO, reduceIte, reduceCtorEq, Nat.reduceEqDiff, Nat.reduceLT, Nat.reduceAdd, Int.reduceToNat, Nat.reduceLeDiff, Int.reducePow, Int.reduceLE, Int.reduceLT]
        refine loop_intro (fun m st => ∃ (k : Nat) (c : Int) (us : List Int), k ≤ ys.length ∧ m = ys.length - k ∧ 0 ≤ c ∧ c < 4294967296 ∧ us.length = i + ys.length ∧ lim us ∧ val us + 4294967296 ^ (i + k) * c = val zs + 4294967296 ^ i * x * val (ys.take k) ∧
          st = ⟨[(0, .ro fr 1 (encI .u32) xs), (1, .ro fr' 1 (encI .u32) ys), (5, .own 15 0 (xs.length + ys.length) true), (6, .int .i64 i), (7, .int .u64 c), (8, .int .i64 k)], [(15, .arr 99 true true 1 (encI .u32) (us ++ List.replicate (xs.length - i) 0))]⟩) ys.length
          [(0, .ro fr 1 (encI .u32) xs), (1, .ro fr' 1 (encI .u32) ys), (5, .own 15 0 (xs.length + ys.length) true), (6, .int .i64 i), (7, .int .u64 0), (8, .int .i64 (0 : Nat))] (by simp [eget]) ⟨0, 0, zs, by omega, by omega, by omega, by omega, hzl, lz, by simp [val], rfl⟩ ?_
        rintro m st ⟨k, c, us, hk, rfl, c0, c1, hul, lu, hw, rfl⟩
        simp only [W1, W2, W3, popTo, memb, res, wres, env0, byteAt, optI, cutB, cutL, sliceR, strR, ldCells, ldR, iaR, faR, lenR, lenSR, ixR, exR, nchkR, mxR, csR, up, ZV.av, ZV.fit, zfits, fits, fitsL, cellsOf, down, downL, downLL, stR, mkR, bsR, boxR, alR, apR, cpR, srcQ, solid, killC, killV, killE, killO, killH, hget, hset, hdel, pubV, pubC, pubO, renV, renC, renO, reduceIte, reduceCtorEq, Nat.reduceEqDiff, Nat.reduceLT, Nat.reduceAdd, Int.reduceToNat, Nat.reduceLeDiff, Int.reducePow, Int.reduceLE, Int.reduceLT]
        refine fun _ => ⟨fun h1 => ?_, fun h1 => ?_⟩
        · have en : ((i : Int) + k).toNat = i + k := by omega
          have hlen : (us ++ List.replicate (xs.length - i) 0).length = xs.length + ys.length := by simp; omega
          rw [en, hlen, get_mid (show i + k < us.length by omega)]
          refine ⟨by omega, fun x' hx' _ => ⟨by omega, fun y hy _ => ⟨by omega, fun _ => ⟨by omega, by omega, fun e he _ => ⟨by omega, fun _ => ⟨by omega, by omega, ?_⟩⟩⟩⟩⟩⟩
          rw [hx] at hx'
          obtain rfl := Option.some.inj hx'
          have hY := ly.get hy
          obtain ⟨s0, s1, s2, d0, d1, hL, hV⟩ := row_step lu he hX hY ⟨c0, c1⟩
          rw [s2]
          refine ⟨_, rfl, fun _ => ⟨by omega, ?_⟩⟩
          rw [set_mid (show i + k < us.length by omega)]
          refine back_intro [(0, .ro fr 1 (encI .u32) xs), (1, .ro fr' 1 (encI .u32) ys), (5, .own 15 0 (xs.length + ys.length) true), (6, .int .i64 i), (7, .int .u64 ((x * y + e + c) / 4294967296)), (8, .int .i64 ((k + 1 : Nat) : Int))]
            (by simp [eget]) (by omega) ⟨k + 1, _, us.set (i + k) ((x * y + e + c) % 4294967296), by omega, rfl, d0, d1, by simp [hul], hL, ?_, rfl⟩
          rw [val_take_succ hy]
          exact row_next hw hV
        · obtain rfl : k = ys.length := by omega
          rw [List.take_length] at hw
          exact join_intro [(0, .ro fr 1 (encI .u32) xs), (1, .ro fr' 1 (encI .u32) ys), (5, .own 15 0 (xs.length + ys.length) true), (6, .int .i64 i), (7, .int .u64 c)] (by simp [eget]) ⟨c, us, c0, c1, hul, lu, hw, rfl⟩
      · rintro st ⟨c, us, c0, c1, hul, lu, hw, rfl⟩
        simp only [W1, W2, W3, popTo, memb, res, wres, env0, byteAt, optI, cutB, cutL, sliceR, strR, ldCells, ldR, iaR, faR, lenR, lenSR, ixR, exR, nchkR, mxR, csR, up, ZV.av, ZV.fit, zfits, fits, fitsL, cellsOf, down, downL, downLL, stR, mkR, bsR, boxR, alR, apR, cpR, srcQ, solid, killC, killV, killE, killO, killH, hget, hset, hdel, pubV, pubC, pubO, renV, renC, renO, reduceIte, reduceCtorEq, Nat.reduceEqDiff, Nat.reduceLT, Nat.reduceAdd, Int.reduceToNat, Nat.reduceLeDiff, Int.reducePow, Int.reduceLE, Int.reduceLT]
        have en : ((i : Int) + ys.length).toNat = i + ys.length := by omega
        have hlen : (us ++ List.replicate (xs.length - i) 0).length = xs.length + ys.length := by simp; omega
        have ec : c % 4294967296 = c := by omega
        rw [en, hlen, ec]
        refine fun _ => ⟨by omega, fun _ => ⟨by omega, by omega, _, rfl, by omega, ?_⟩⟩
        rw [set_rep2 us xs.length i _ _ _ hul (by omega)]
        refine back_intro [(0, .ro fr 1 (encI .u32) xs), (1, .ro fr' 1 (encI .u32) ys), (5, .own 15 0 (xs.length + ys.length) true), (6, .int .i64 ((i + 1 : Nat) : Int))]
          (by simp [eget]) (by omega) ⟨i + 1, us ++ [c], by omega, rfl, by simp; omega, lu.snoc ⟨c0, c1⟩, ?_, rfl⟩
        rw [val_snoc, hul, hw, hv, val_take_succ hx, Int.add_mul]
    · obtain rfl : i = xs.length := by omega
      rw [List.take_length] at hv
      rw [Nat.sub_self]
      exact join_intro [(5, .own 15 0 (xs.length + ys.length) true)] (by simp [eget]) ⟨zs, hzl, lz, hv, by simp⟩
  · rintro st ⟨zs, hzl, lz, hv, rfl⟩
    simp only [W1, W2, W3, popTo, memb, res, wres, env0, byteAt, optI, cutB, cutL, sliceR, strR, ldCells, ldR, iaR, faR, lenR, lenSR, ixR, exR, nchkR, mxR, csR, up, ZV.av, ZV.fit, zfits, fits, fitsL, cellsOf, down, downL, downLL, stR, mkR, bsR, boxR, alR, apR, cpR, srcQ, solid, killC, killV, killE, killO, killH, hget, hset, hdel, pubV, pubC, pubO, renV, renC, renO, reduceIte, reduceCtorEq, Nat.reduceEqDiff, Nat.reduceLT, Nat.reduceAdd, Int.reduceToNat, Nat.reduceLeDiff, Int.reducePow, Int.reduceLE, Int.reduceLT]
    exact ret0 (uL true zs) (by simp only [uL, retR, retA, retL, ret1, ret1L, eget, hget, hset, St.set, eset, List.map_cons, List.map_nil, reduceIte, reduceCtorEq, Nat.reduceEqDiff, Nat.reduceLT, true_and, and_true, false_or, or_true, true_or, List.drop_zero, List.take_length, scalE_I, scalE_B, scalE_S]; rw [List.take_of_length_le (by omega)]) ⟨zs, rfl, lz, hzl, hv⟩

end Go.Vc
