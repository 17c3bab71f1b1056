/-
  Powers: the program's and the document's.
-/
import Derived.Test.YtdlddbclcmecjaaLawRing
import Derived.Test.YtdlddbclcmecjaaNat15
set_option linter.unusedVariables false
set_option linter.unusedSimpArgs false
namespace Go.Vc
open Go
open Go.Proofs

/- bits.Len64: arguments 1, results in [2]; slots in use where its loops begin: [] -/
def tb139_0 : ByteArray := ⟨#[0, 1, 2, 2, 3, 3, 3, 3, 4, 4, 4, 4, 4, 4, 4, 4, 5, 5, 5, 5, 5, 5, 5, 5, 5, 5, 5, 5, 5, 5, 5, 5, 6, 6, 6, 6, 6, 6, 6, 6, 6, 6, 6, 6, 6, 6, 6, 6, 6, 6, 6, 6, 6, 6, 6, 6, 6, 6, 6, 6, 6, 6, 6, 6, 7, 7, 7, 7, 7, 7, 7, 7, 7, 7, 7, 7, 7, 7, 7, 7, 7, 7, 7, 7, 7, 7, 7, 7, 7, 7, 7, 7, 7, 7, 7, 7, 7, 7, 7, 7, 7, 7, 7, 7, 7, 7, 7, 7, 7, 7, 7, 7, 7, 7, 7, 7, 7, 7, 7, 7, 7, 7, 7, 7, 7, 7, 7, 7, 8, 8, 8, 8, 8, 8, 8, 8, 8, 8, 8, 8, 8, 8, 8, 8, 8, 8, 8, 8, 8, 8, 8, 8, 8, 8, 8, 8, 8, 8, 8, 8, 8, 8, 8, 8, 8, 8, 8, 8, 8, 8, 8, 8, 8, 8, 8, 8, 8, 8, 8, 8, 8, 8, 8, 8, 8, 8, 8, 8, 8, 8, 8, 8, 8, 8, 8, 8, 8, 8, 8, 8, 8, 8, 8, 8, 8, 8, 8, 8, 8, 8, 8, 8, 8, 8, 8, 8, 8, 8, 8, 8, 8, 8, 8, 8, 8, 8, 8, 8, 8, 8, 8, 8, 8, 8, 8, 8, 8, 8, 8, 8, 8, 8, 8, 8, 8, 8, 8, 8, 8, 8, 8, 8, 8, 8, 8, 8]⟩
def c139 : MC := .seq (.ops [ .op (some 2) none (.p (.mv (.i .i64 (0))))]) (.seq (.cut (.seq (.ops [ .op (some 3) none (.p (.mv (.t 0))), .op (some 4) none (.p (.bin .geq (.t 3) (.i .u64 (4294967296)))), .gh (.drop [3])]) (.cond (.t 4) (.seq (.ops [ .op (some 5) none (.p (.mv (.t 0))), .op (some 6) none (.p (.bin .shr (.t 5) (.i .u64 (32)))), .op (some 0) none (.p (.mv (.t 6))), .gh (.drop [5, 6])]) (.ops [ .op (some 2) none (.p (.mv (.i .i64 (32))))])) (.skip)))) (.seq (.cut (.seq (.ops [ .op (some 7) none (.p (.mv (.t 0))), .op (some 8) none (.p (.bin .geq (.t 7) (.i .u64 (65536)))), .gh (.drop [7])]) (.cond (.t 8) (.seq (.ops [ .op (some 9) none (.p (.mv (.t 0))), .op (some 10) none (.p (.bin .shr (.t 9) (.i .u64 (16)))), .op (some 0) none (.p (.mv (.t 10))), .gh (.drop [9, 10])]) (.ops [ .op (some 11) none (.p (.mv (.t 2))), .op (some 12) none (.p (.bin .add (.t 11) (.i .i64 (16)))), .op (some 2) none (.p (.mv (.t 12))), .gh (.drop [11, 12])])) (.skip)))) (.seq (.cut (.seq (.ops [ .op (some 13) none (.p (.mv (.t 0))), .op (some 14) none (.p (.bin .geq (.t 13) (.i .u64 (256)))), .gh (.drop [13])]) (.cond (.t 14) (.seq (.ops [ .op (some 15) none (.p (.mv (.t 0))), .op (some 16) none (.p (.bin .shr (.t 15) (.i .u64 (8)))), .op (some 0) none (.p (.mv (.t 16))), .gh (.drop [15, 16])]) (.ops [ .op (some 17) none (.p (.mv (.t 2))), .op (some 18) none (.p (.bin .add (.t 17) (.i .i64 (8)))), .op (some 2) none (.p (.mv (.t 18))), .gh (.drop [17, 18])])) (.skip)))) (.seq (.ops [ .op (some 19) none (.p (.mv (.t 2))), .op (some 20) none (.p (.mv (.t 0))), .op (some 21) none (.p (.cv .u8 (.t 20))), .op (some 22) none (.p (.ix (.s tb139_0) (.t 21))), .op (some 23) none (.p (.cv .i64 (.t 22))), .op (some 24) none (.p (.bin .add (.t 19) (.t 23))), .op (some 2) none (.p (.mv (.t 24))), .gh (.drop [0, 19, 20, 21, 22, 23, 24])]) (.ret)))))
theorem k139 : chkF Try.prog 139 1 [2] c139 = true := by kernel_rfl

/- bits.Len: arguments 1, results in [2]; slots in use where its loops begin: [] -/
def c136 : MC := .seq (.ops [ .op (some 2) none (.p (.mv (.i .i64 (0)))), .gh (.drop [2])]) (.seq (.cond (.b false) (.seq (.ops [ .op (some 3) none (.p (.mv (.t 0))), .op (some 4) none (.p (.cv .u32 (.t 3))), .op (some 5) none (.call 121 [(.t 4)]), .op (some 2) none (.p (.mv (.t 5))), .gh (.drop [0, 3, 4, 5])]) (.ret)) (.skip)) (.seq (.ops [ .op (some 6) none (.p (.mv (.t 0))), .op (some 7) none (.call 139 [(.t 6)]), .op (some 2) none (.p (.mv (.t 7))), .gh (.drop [0, 6, 7])]) (.ret)))
theorem k136 : chkF Try.prog 136 1 [2] c136 = true := by kernel_rfl

/- natural.raise: arguments 2, results in [4, 5]; slots in use where its loops begin: [[0, 1, 6, 7, 8]] -/
def c120 : MC := .seq (.ops [ .op (some 4) none (.p (.mv .nil)), .op (some 5) none (.p (.mv (.i .i64 (0)))), .gh (.drop [4, 5])]) (.seq (.ops [ .op (some 9) none (.call 22 [(.i .u64 (1))]), .op (some 6) none (.p (.mv (.t 9))), .op (some 7) none (.p (.mv (.i .i64 (0)))), .gh (.drop [9])]) (.seq (.seq (.ops [ .op (some 10) none (.p (.mv (.t 1))), .op (some 11) none (.p (.cv .u64 (.t 10))), .op (some 12) none (.call 136 [(.t 11)]), .op (some 13) none (.p (.bin .sub (.t 12) (.i .i64 (1)))), .op (some 8) none (.p (.mv (.t 13))), .gh (.drop [10, 11, 12, 13])]) (.block 0 (.loop (.seq (.seq (.ops [ .op (some 14) none (.p (.mv (.t 8))), .op (some 15) none (.p (.bin .geq (.t 14) (.i .i64 (0)))), .gh (.drop [14])]) (.cond (.t 15) (.skip) (.exit 0))) (.seq (.block 1 (.seq (.seq (.ops [ .op (some 19) none (.p (.mv (.t 6))), .op (some 20) none (.p (.mv (.t 6))), .op (some 21) none (.call 107 [(.t 19), (.t 20)]), .op (some 22) none (.call 103 [(.t 21)]), .op (some 18) none (.p (.mv (.t 22))), .op (some 23) none (.p (.ex (.t 18) 0)), .op (some 24) none (.p (.ex (.t 18) 1)), .op (some 6) none (.p (.mv (.t 23))), .op (some 7) none (.p (.mv (.t 24))), .gh (.drop [18, 19, 20, 21, 22, 23, 24])]) (.seq (.ops [ .op (some 25) none (.p (.mv (.t 7))), .op (some 26) none (.p (.bin .neq (.t 25) (.i .i64 (0)))), .gh (.drop [25])]) (.cond (.t 26) (.seq (.ops [ .op (some 27) none (.p (.mv (.t 7))), .op (some 4) none (.p (.mv .nil)), .op (some 5) none (.p (.mv (.t 27))), .gh (.drop [7, 27])]) (.ret)) (.skip)))) (.seq (.ops [ .op (some 28) none (.p (.mv (.t 1))), .op (some 29) none (.p (.mv (.t 8))), .op (some 30) none (.p (.bin .shr (.t 28) (.t 29))), .op (some 31) none (.p (.bin .and (.t 30) (.i .i64 (1)))), .op (some 32) none (.p (.bin .eql (.t 31) (.i .i64 (1)))), .gh (.drop [28, 29, 30, 31])]) (.cond (.t 32) (.seq (.ops [ .op (some 34) none (.p (.mv (.t 6))), .op (some 35) none (.p (.mv (.t 0))), .op (some 36) none (.call 107 [(.t 34), (.t 35)]), .op (some 37) none (.call 103 [(.t 36)]), .op (some 33) none (.p (.mv (.t 37))), .op (some 38) none (.p (.ex (.t 33) 0)), .op (some 39) none (.p (.ex (.t 33) 1)), .op (some 6) none (.p (.mv (.t 38))), .op (some 7) none (.p (.mv (.t 39))), .gh (.drop [33, 34, 35, 36, 37, 38, 39])]) (.seq (.ops [ .op (some 40) none (.p (.mv (.t 7))), .op (some 41) none (.p (.bin .neq (.t 40) (.i .i64 (0)))), .gh (.drop [40])]) (.cond (.t 41) (.seq (.ops [ .op (some 42) none (.p (.mv (.t 7))), .op (some 4) none (.p (.mv .nil)), .op (some 5) none (.p (.mv (.t 42))), .gh (.drop [7, 42])]) (.ret)) (.skip)))) (.skip))))) (.ops [ .op (some 16) none (.p (.mv (.t 8))), .op (some 17) none (.p (.bin .sub (.t 16) (.i .i64 (1)))), .op (some 8) none (.p (.mv (.t 17))), .gh (.drop [16, 17])])))))) (.seq (.ops [ .op (some 43) none (.p (.mv (.t 6))), .op (some 44) none (.p (.mv (.t 7))), .op (some 4) none (.p (.mv (.t 43))), .op (some 5) none (.p (.mv (.t 44))), .gh (.drop [6, 7, 43, 44])]) (.ret))))
theorem k120 : chkF Try.prog 120 2 [4, 5] c120 = true := by kernel_rfl

/- natural.Pow: arguments 2, results in [4, 5]; slots in use where its loops begin: [] -/
def c65 : MC := .seq (.ops [ .op (some 4) none (.p (.mv .nil)), .op (some 5) none (.p (.mv (.i .i64 (0)))), .gh (.drop [4, 5])]) (.seq (.block 0 (.seq (.ops [ .op (some 7) none (.p (.mv (.t 0))), .op (some 8) none (.call 79 [(.t 7)]), .op (some 9) none (.p (.un .not (.t 8))), .op (some 6) none (.p (.mv (.t 9))), .gh (.drop [7, 8, 9])]) (.cond (.t 6) (.seq (.ops [ .op (some 4) none (.p (.mv .nil)), .op (some 5) none (.p (.mv (.i .i64 (20))))]) (.ret)) (.seq (.ops [ .op (some 11) none (.p (.mv (.t 1))), .op (some 12) none (.p (.bin .lss (.t 11) (.i .i64 (0)))), .op (some 13) none (.p (.mv (.t 12))), .op (some 14) (some (13, false)) (.p (.mv (.t 1))), .op (some 15) (some (13, false)) (.p (.bin .gtr (.t 14) (.i .i64 (1024)))), .op (some 16) none (.pick (.t 13) (.b true) (.t 15)), .op (some 10) none (.p (.mv (.t 16))), .gh (.drop [11, 12, 13, 14, 15, 16])]) (.cond (.t 10) (.seq (.ops [ .op (some 4) none (.p (.mv .nil)), .op (some 5) none (.p (.mv (.i .i64 (1))))]) (.ret)) (.skip)))))) (.seq (.ops [ .op (some 17) none (.p (.mv (.t 0))), .op (some 18) none (.p (.mv (.t 1))), .op (some 19) none (.call 120 [(.t 17), (.t 18)]), .op (some 20) none (.p (.ex (.t 19) 0)), .op (some 21) none (.p (.ex (.t 19) 1)), .op (some 4) none (.p (.mv (.t 20))), .op (some 5) none (.p (.mv (.t 21))), .gh (.drop [0, 1, 17, 18, 19, 20, 21])]) (.ret)))
theorem k65 : chkF Try.prog 65 2 [4, 5] c65 = true := by kernel_rfl

/- sloperef1.Pow: arguments 2, results in [4, 5]; slots in use where its loops begin: [[0, 1, 6, 8]] -/
def c66 : MC := .seq (.ops [ .op (some 4) none (.p (.mv .nil)), .op (some 5) none (.p (.mv (.i .i64 (0)))), .gh (.drop [4, 5])]) (.seq (.seq (.ops [ .op (some 9) none (.p (.mv (.t 0))), .op (some 10) none (.call 85 [(.t 9)]), .op (some 11) none (.p (.un .not (.t 10))), .gh (.drop [9, 10])]) (.cond (.t 11) (.seq (.ops [ .op (some 4) none (.p (.mv .nil)), .op (some 5) none (.p (.mv (.i .i64 (20))))]) (.ret)) (.skip))) (.seq (.seq (.ops [ .op (some 12) none (.p (.mv (.t 1))), .op (some 13) none (.p (.bin .lss (.t 12) (.i .i64 (0)))), .op (some 14) none (.p (.mv (.t 13))), .op (some 15) (some (14, false)) (.p (.mv (.t 1))), .op (some 16) (some (14, false)) (.p (.bin .gtr (.t 15) (.i .i64 (1024)))), .op (some 17) none (.pick (.t 14) (.b true) (.t 16)), .gh (.drop [12, 13, 14, 15, 16])]) (.cond (.t 17) (.seq (.ops [ .op (some 4) none (.p (.mv .nil)), .op (some 5) none (.p (.mv (.i .i64 (1))))]) (.ret)) (.skip))) (.seq (.ops [ .op (some 18) none (.call 25 [(.i .u64 (1))]), .op (some 6) none (.p (.mv (.t 18))), .gh (.drop [18])]) (.seq (.ops [ .op (some 7) none (.p (.mv (.i .i64 (0)))), .gh (.drop [7])]) (.seq (.seq (.ops [ .op (some 8) none (.p (.mv (.i .i64 (0))))]) (.cut (.block 0 (.loop (.seq (.seq (.ops [ .op (some 19) none (.p (.mv (.t 8))), .op (some 20) none (.p (.mv (.t 1))), .op (some 21) none (.p (.bin .lss (.t 19) (.t 20))), .gh (.drop [19, 20])]) (.cond (.t 21) (.skip) (.exit 0))) (.seq (.block 1 (.seq (.ops [ .op (some 25) none (.p (.mv (.t 6))), .op (some 26) none (.p (.mv (.t 0))), .op (some 27) none (.call 45 [(.t 25), (.t 26)]), .op (some 24) none (.p (.mv (.t 27))), .op (some 28) none (.p (.ex (.t 24) 0)), .op (some 29) none (.p (.ex (.t 24) 1)), .op (some 6) none (.p (.mv (.t 28))), .op (some 7) none (.p (.mv (.t 29))), .gh (.drop [24, 25, 26, 27, 28, 29])]) (.seq (.ops [ .op (some 30) none (.p (.mv (.t 7))), .op (some 31) none (.p (.bin .neq (.t 30) (.i .i64 (0)))), .gh (.drop [30])]) (.cond (.t 31) (.seq (.ops [ .op (some 32) none (.p (.mv (.t 7))), .op (some 4) none (.p (.mv .nil)), .op (some 5) none (.p (.mv (.t 32))), .gh (.drop [7, 32])]) (.ret)) (.skip))))) (.ops [ .op (some 22) none (.p (.mv (.t 8))), .op (some 23) none (.p (.bin .add (.t 22) (.i .i64 (1)))), .op (some 8) none (.p (.mv (.t 23))), .gh (.drop [22, 23])]))))))) (.seq (.ops [ .op (some 33) none (.p (.mv (.t 6))), .op (some 4) none (.p (.mv (.t 33))), .op (some 5) none (.p (.mv (.i .i64 (0)))), .gh (.drop [6, 33])]) (.ret)))))))
theorem k66 : chkF Try.prog 66 2 [4, 5] c66 = true := by kernel_rfl



theorem limbs_mono {u v : Int} {m : Nat} (h0 : 0 ≤ u) (h : u ≤ v) (hv : (limbs v).length ≤ m) : (limbs u).length ≤ m := by
  rw [limbs_len_le (by omega)] at hv ⊢
  omega
theorem pow_up {V : Int} (hV : 1 ≤ V) {j k : Nat} (h : j ≤ k) : V ^ j ≤ V ^ k := by
  obtain ⟨d, rfl⟩ := Nat.le.dest h
  induction d with
  | zero => exact Int.le_refl _
  | succ d ih =>
    have h1 := ih (by omega)
    have h2 : 0 ≤ V ^ (j + d) := Int.pow_nonneg (by omega)
    rw [show j + (d + 1) = j + d + 1 by omega, Int.pow_succ]
    have : V ^ (j + d) * 1 ≤ V ^ (j + d) * V := Int.mul_le_mul_of_nonneg_left hV h2
    omega
theorem limbs_one : limbs 1 = [1] := by
  have := from_one
  unfold fromL at this
  rw [trimL_limbs (by intro x hx; simp at hx; omega)] at this
  simpa [val] using this
theorem big_up {V : Int} (hV : 0 ≤ V) {j k : Nat} (h : j ≤ k) (hf : (limbs (V ^ k)).length ≤ 2048) : (limbs (V ^ j)).length ≤ 2048 := by
  by_cases h0 : V = 0
  · subst h0
    cases j with
    | zero => rw [Int.pow_zero, limbs_one]; simp
    | succ j => rw [Int.zero_pow (by omega), limbs_zero]; simp
  · exact limbs_mono (Int.pow_nonneg hV) (pow_up (by omega) h) hf
theorem fit_no {v : Int} (h : ¬ (limbs v).length ≤ 2048) : fitL v = [] ∧ fitE v = 2 := by rw [fitL, fitE, if_neg h, if_neg h]; exact ⟨rfl, rfl⟩
theorem fit_yes {v : Int} (h : (limbs v).length ≤ 2048) : fitL v = limbs v ∧ fitE v = 0 := by rw [fitL, fitE, if_pos h, if_pos h]; exact ⟨rfl, rfl⟩

theorem bits_Len64 (x : Int) : FSpec0 Try.prog 139 [.int .u64 x] (fun r => r = .int .i64 (blen x.toNat)) := by
  refine FSpec0.of_facts fun hf => fspec0_of_run k139 ?_
  have hx := hf.1
  simp only [factV, inK] at hx
  simp only [c139, W1, W2, W3, popTo, memb, res, wres, env0, byteAt, optI, cutB, cutL, sliceR, strR, ldCells, ldR, iaR, faR, lenR, lenSR, ixR, exR, nchkR, mxR, csR, up, ZV.av, ZV.fit, zfits, fits, fitsL, cellsOf, down, downL, downLL, stR, mkR, bsR, boxR, alR, apR, cpR, srcQ, solid, killC, killV, killE, killO, killH, hget, hset, hdel, pubV, pubC, pubO, renV, renC, renO, reduceIte, reduceCtorEq, Nat.reduceEqDiff, Nat.reduceLT, Nat.reduceAdd, Int.reduceToNat, Nat.reduceLeDiff, Int.reducePow, Int.reduceLE, Int.reduceLT]
  have step : ∀ (y : Int) (s : Nat), 0 ≤ y → ((2 ^ s : Nat) : Int) ≤ y → blen (y / ((2 ^ s : Nat) : Int)).toNat + s = blen y.toNat := fun y s h0 h => by
    obtain ⟨y, rfl⟩ := Int.eq_ofNat_of_zero_le h0
    have h : 2 ^ s ≤ y := by exact_mod_cast h
    rw [← Int.natCast_ediv, Int.toNat_natCast, Int.toNat_natCast]
    exact blen_div h
  refine cut_intro (fun st => ∃ (y : Int) (n : Nat), 0 ≤ y ∧ y < 4294967296 ∧ n ≤ 32 ∧ blen x.toNat = blen y.toNat + n ∧ st = ⟨[(0, .int .u64 y), (2, .int .i64 n)], []⟩) ?_ ?_
  · simp only [W1, W2, W3, popTo, memb, res, wres, env0, byteAt, optI, cutB, cutL, sliceR, strR, ldCells, ldR, iaR, faR, lenR, lenSR, ixR, exR, nchkR, mxR, csR, up, ZV.av, ZV.fit, zfits, fits, fitsL, cellsOf, down, downL, downLL, stR, mkR, bsR, boxR, alR, apR, cpR, srcQ, solid, killC, killV, killE, killO, killH, hget, hset, hdel, pubV, pubC, pubO, renV, renC, renO, reduceIte, reduceCtorEq, Nat.reduceEqDiff, Nat.reduceLT, Nat.reduceAdd, Int.reduceToNat, Nat.reduceLeDiff, Int.reducePow, Int.reduceLE, Int.reduceLT]
    refine ⟨fun h _ => join_intro [(0, .int .u64 (x / 4294967296)), (2, .int .i64 (32 : Nat))] (by simp [eget]) ⟨x / 4294967296, 32, by omega, by omega, by omega, ?_, rfl⟩, fun h => join_intro [(0, .int .u64 x), (2, .int .i64 (0 : Nat))] (by simp [eget]) ⟨x, 0, by omega, by omega, by omega, rfl, rfl⟩⟩
    exact (step x 32 hx.1 h).symm
  rintro st ⟨y, n, y0, y1, n1, he, rfl⟩
  simp only [W1, W2, W3, popTo, memb, res, wres, env0, byteAt, optI, cutB, cutL, sliceR, strR, ldCells, ldR, iaR, faR, lenR, lenSR, ixR, exR, nchkR, mxR, csR, up, ZV.av, ZV.fit, zfits, fits, fitsL, cellsOf, down, downL, downLL, stR, mkR, bsR, boxR, alR, apR, cpR, srcQ, solid, killC, killV, killE, killO, killH, hget, hset, hdel, pubV, pubC, pubO, renV, renC, renO, reduceIte, reduceCtorEq, Nat.reduceEqDiff, Nat.reduceLT, Nat.reduceAdd, Int.reduceToNat, Nat.reduceLeDiff, Int.reducePow, Int.reduceLE, Int.reduceLT]
  refine cut_intro (fun st => ∃ (z : Int) (m : Nat), 0 ≤ z ∧ z < 65536 ∧ m ≤ 48 ∧ blen x.toNat = blen z.toNat + m ∧ st = ⟨[(0, .int .u64 z), (2, .int .i64 m)], []⟩) ?_ ?_
  · simp only [W1, W2, W3, popTo, memb, res, wres, env0, byteAt, optI, cutB, cutL, sliceR, strR, ldCells, ldR, iaR, faR, lenR, lenSR, ixR, exR, nchkR, mxR, csR, up, ZV.av, ZV.fit, zfits, fits, fitsL, cellsOf, down, downL, downLL, stR, mkR, bsR, boxR, alR, apR, cpR, srcQ, solid, killC, killV, killE, killO, killH, hget, hset, hdel, pubV, pubC, pubO, renV, renC, renO, reduceIte, reduceCtorEq, Nat.reduceEqDiff, Nat.reduceLT, Nat.reduceAdd, Int.reduceToNat, Nat.reduceLeDiff, Int.reducePow, Int.reduceLE, Int.reduceLT]
    refine ⟨fun h _ => ⟨by omega, join_intro [(0, .int .u64 (y / 65536)), (2, .int .i64 ((n + 16 : Nat) : Int))] (by simp [eget]) ⟨y / 65536, n + 16, by omega, by omega, by omega, ?_, rfl⟩⟩, fun h => join_intro [(0, .int .u64 y), (2, .int .i64 n)] (by simp [eget]) ⟨y, n, by omega, by omega, by omega, he, rfl⟩⟩
    have := step y 16 y0 h
    rw [he, ← this]
    have e : (y / ((2 ^ 16 : Nat) : Int)) = y / 65536 := rfl
    rw [e]; omega
  rintro st ⟨y, n, y0, y1, n1, he, rfl⟩
  simp only [W1, W2, W3, popTo, memb, res, wres, env0, byteAt, optI, cutB, cutL, sliceR, strR, ldCells, ldR, iaR, faR, lenR, lenSR, ixR, exR, nchkR, mxR, csR, up, ZV.av, ZV.fit, zfits, fits, fitsL, cellsOf, down, downL, downLL, stR, mkR, bsR, boxR, alR, apR, cpR, srcQ, solid, killC, killV, killE, killO, killH, hget, hset, hdel, pubV, pubC, pubO, renV, renC, renO, reduceIte, reduceCtorEq, Nat.reduceEqDiff, Nat.reduceLT, Nat.reduceAdd, Int.reduceToNat, Nat.reduceLeDiff, Int.reducePow, Int.reduceLE, Int.reduceLT]
  refine cut_intro (fun st => ∃ (z : Int) (m : Nat), 0 ≤ z ∧ z < 256 ∧ m ≤ 56 ∧ blen x.toNat = blen z.toNat + m ∧ st = ⟨[(0, .int .u64 z), (2, .int .i64 m)], []⟩) ?_ ?_
  · simp only [W1, W2, W3, popTo, memb, res, wres, env0, byteAt, optI, cutB, cutL, sliceR, strR, ldCells, ldR, iaR, faR, lenR, lenSR, ixR, exR, nchkR, mxR, csR, up, ZV.av, ZV.fit, zfits, fits, fitsL, cellsOf, down, downL, downLL, stR, mkR, bsR, boxR, alR, apR, cpR, srcQ, solid, killC, killV, killE, killO, killH, hget, hset, hdel, pubV, pubC, pubO, renV, renC, renO, reduceIte, reduceCtorEq, Nat.reduceEqDiff, Nat.reduceLT, Nat.reduceAdd, Int.reduceToNat, Nat.reduceLeDiff, Int.reducePow, Int.reduceLE, Int.reduceLT]
    refine ⟨fun h _ => ⟨by omega, join_intro [(0, .int .u64 (y / 256)), (2, .int .i64 ((n + 8 : Nat) : Int))] (by simp [eget]) ⟨y / 256, n + 8, by omega, by omega, by omega, ?_, rfl⟩⟩, fun h => join_intro [(0, .int .u64 y), (2, .int .i64 n)] (by simp [eget]) ⟨y, n, by omega, by omega, by omega, he, rfl⟩⟩
    have := step y 8 y0 h
    rw [he, ← this]
    have e : (y / ((2 ^ 8 : Nat) : Int)) = y / 256 := rfl
    rw [e]; omega
  rintro st ⟨z, m, z0, z1, m1, he2, rfl⟩
  simp only [W1, W2, W3, popTo, memb, res, wres, env0, byteAt, optI, cutB, cutL, sliceR, strR, ldCells, ldR, iaR, faR, lenR, lenSR, ixR, exR, nchkR, mxR, csR, up, ZV.av, ZV.fit, zfits, fits, fitsL, cellsOf, down, downL, downLL, stR, mkR, bsR, boxR, alR, apR, cpR, srcQ, solid, killC, killV, killE, killO, killH, hget, hset, hdel, pubV, pubC, pubO, renV, renC, renO, reduceIte, reduceCtorEq, Nat.reduceEqDiff, Nat.reduceLT, Nat.reduceAdd, Int.reduceToNat, Nat.reduceLeDiff, Int.reducePow, Int.reduceLE, Int.reduceLT]
  have hz : z % 256 = z := by omega
  have ht := tab_len tb139_0 (by decide +kernel) z z0 z1
  have hb : blen z.toNat ≤ 8 := blen_le.2 (by omega)
  rw [hz, ht]
  exact ⟨⟨z0, by rw [show tb139_0.size = 256 by decide +kernel]; omega⟩, fun _ => ⟨by omega, ret1' (by rw [he2, Int.natCast_add, Int.add_comm]; simp only [retR, retA, retL, ret1, ret1L, eget, hget, hset, St.set, eset, List.map_cons, List.map_nil, reduceIte, reduceCtorEq, Nat.reduceEqDiff, Nat.reduceLT, true_and, and_true, false_or, or_true, true_or, List.drop_zero, List.take_length, scalE_I, scalE_B, scalE_S])⟩⟩

theorem bits_Len (x : Int) : FSpec0 Try.prog 136 [.int .u64 x] (fun r => r = .int .i64 (blen x.toNat)) := by
  refine fspec0_of_run k136 ?_
  simp only [c136, W1, W2, W3, popTo, memb, res, wres, env0, byteAt, optI, cutB, cutL, sliceR, strR, ldCells, ldR, iaR, faR, lenR, lenSR, ixR, exR, nchkR, mxR, csR, up, ZV.av, ZV.fit, zfits, fits, fitsL, cellsOf, down, downL, downLL, stR, mkR, bsR, boxR, alR, apR, cpR, srcQ, solid, killC, killV, killE, killO, killH, hget, hset, hdel, pubV, pubC, pubO, renV, renC, renO, reduceIte, reduceCtorEq, Nat.reduceEqDiff, Nat.reduceLT, Nat.reduceAdd, Int.reduceToNat, Nat.reduceLeDiff, Int.reducePow, Int.reduceLE, Int.reduceLT]
  refine call1 (bits_Len64 x) (by repeat (first | exact subs_nil | refine subs_int ?_ | refine subs_ro ?_ | refine subs_bool ?_ | refine subs_str ?_ | refine subs_nilro ?_ | refine subs_lits rfl ?_ | refine subs_all rfl rfl (by simp) ?_ | refine subs_own rfl rfl ?_ | refine subs_fn ?_)) ?_; simp only [uL, W1, W2, W3, popTo, memb, res, wres, env0, byteAt, optI, cutB, cutL, sliceR, strR, ldCells, ldR, iaR, faR, lenR, lenSR, ixR, exR, nchkR, mxR, csR, up, ZV.av, ZV.fit, zfits, fits, fitsL, cellsOf, down, downL, downLL, stR, mkR, bsR, boxR, alR, apR, cpR, srcQ, solid, killC, killV, killE, killO, killH, hget, hset, hdel, pubV, pubC, pubO, renV, renC, renO, reduceIte, reduceCtorEq, Nat.reduceEqDiff, Nat.reduceLT, Nat.reduceAdd, Int.reduceToNat, Nat.reduceLeDiff, Int.reducePow, Int.reduceLE, Int.reduceLT]
  exact ret1' (by simp only [retR, retA, retL, ret1, ret1L, eget, hget, hset, St.set, eset, List.map_cons, List.map_nil, reduceIte, reduceCtorEq, Nat.reduceEqDiff, Nat.reduceLT, true_and, and_true, false_or, or_true, true_or, List.drop_zero, List.take_length, scalE_I, scalE_B, scalE_S])

theorem natural_raise (fr : Bool) (n : List Int) (k : Nat) (hn : n.length ≤ 100000) (hk : k ≤ 1000000) : FSpec0 Try.prog 120 [uL fr n, .int .i64 k] (fun r => r = lE (fitL (val n ^ k)) (fitE (val n ^ k))) := by
  refine FSpec0.of_facts fun hf => fspec0_of_run k120 ?_
  have ln : lim n := lim_of_factL hf.1
  have hV := (val_bound ln).1
  generalize hVe : val n = V at *
  simp only [uL, c120, W1, W2, W3, popTo, memb, res, wres, env0, byteAt, optI, cutB, cutL, sliceR, strR, ldCells, ldR, iaR, faR, lenR, lenSR, ixR, exR, nchkR, mxR, csR, up, ZV.av, ZV.fit, zfits, fits, fitsL, cellsOf, down, downL, downLL, stR, mkR, bsR, boxR, alR, apR, cpR, srcQ, solid, killC, killV, killE, killO, killH, hget, hset, hdel, pubV, pubC, pubO, renV, renC, renO, reduceIte, reduceCtorEq, Nat.reduceEqDiff, Nat.reduceLT, Nat.reduceAdd, Int.reduceToNat, Nat.reduceLeDiff, Int.reducePow, Int.reduceLE, Int.reduceLT]
  refine call1 (natural_From 1) (by repeat (first | exact subs_nil | refine subs_int ?_ | refine subs_ro ?_ | refine subs_bool ?_ | refine subs_str ?_ | refine subs_nilro ?_ | refine subs_lits rfl ?_ | refine subs_all rfl rfl (by simp) ?_ | refine subs_own rfl rfl ?_ | refine subs_fn ?_)) ?_; simp only [uL, W1, W2, W3, popTo, memb, res, wres, env0, byteAt, optI, cutB, cutL, sliceR, strR, ldCells, ldR, iaR, faR, lenR, lenSR, ixR, exR, nchkR, mxR, csR, up, ZV.av, ZV.fit, zfits, fits, fitsL, cellsOf, down, downL, downLL, stR, mkR, bsR, boxR, alR, apR, cpR, srcQ, solid, killC, killV, killE, killO, killH, hget, hset, hdel, pubV, pubC, pubO, renV, renC, renO, reduceIte, reduceCtorEq, Nat.reduceEqDiff, Nat.reduceLT, Nat.reduceAdd, Int.reduceToNat, Nat.reduceLeDiff, Int.reducePow, Int.reduceLE, Int.reduceLT]
  rw [from_one, show (k : Int) % 18446744073709551616 = k by omega]
  refine call1 (bits_Len k) (by repeat (first | exact subs_nil | refine subs_int ?_ | refine subs_ro ?_ | refine subs_bool ?_ | refine subs_str ?_ | refine subs_nilro ?_ | refine subs_lits rfl ?_ | refine subs_all rfl rfl (by simp) ?_ | refine subs_own rfl rfl ?_ | refine subs_fn ?_)) ?_; simp only [uL, W1, W2, W3, popTo, memb, res, wres, env0, byteAt, optI, cutB, cutL, sliceR, strR, ldCells, ldR, iaR, faR, lenR, lenSR, ixR, exR, nchkR, mxR, csR, up, ZV.av, ZV.fit, zfits, fits, fitsL, cellsOf, down, downL, downLL, stR, mkR, bsR, boxR, alR, apR, cpR, srcQ, solid, killC, killV, killE, killO, killH, hget, hset, hdel, pubV, pubC, pubO, renV, renC, renO, reduceIte, reduceCtorEq, Nat.reduceEqDiff, Nat.reduceLT, Nat.reduceAdd, Int.reduceToNat, Nat.reduceLeDiff, Int.reducePow, Int.reduceLE, Int.reduceLT]
  have hb : blen k ≤ 20 := blen_le.2 (by omega)
  refine ⟨by omega, ?_⟩
  refine loop_intro (fun m st => ∃ i : Nat, m = i ∧ i ≤ 20 ∧ (limbs (V ^ (k / 2 ^ i))).length ≤ 2048 ∧ st = ⟨[(0, uL fr n), (1, .int .i64 k), (6, uL true (limbs (V ^ (k / 2 ^ i)))), (7, .int .i64 0), (8, .int .i64 ((i : Int) - 1))], []⟩) (blen k)
    [(0, uL fr n), (1, .int .i64 k), (6, uL true (limbs (V ^ (k / 2 ^ blen k)))), (7, .int .i64 0), (8, .int .i64 ((blen k : Int) - 1))]
    (by rw [Nat.div_eq_of_lt (blen_lt k), Int.pow_zero, limbs_one]; simp [eget, uL]) ⟨blen k, rfl, hb, by rw [Nat.div_eq_of_lt (blen_lt k), Int.pow_zero, limbs_one]; simp, rfl⟩ ?_
  rintro m st ⟨i, rfl, hi, hfit, rfl⟩
  simp only [uL, W1, W2, W3, popTo, memb, res, wres, env0, byteAt, optI, cutB, cutL, sliceR, strR, ldCells, ldR, iaR, faR, lenR, lenSR, ixR, exR, nchkR, mxR, csR, up, ZV.av, ZV.fit, zfits, fits, fitsL, cellsOf, down, downL, downLL, stR, mkR, bsR, boxR, alR, apR, cpR, srcQ, solid, killC, killV, killE, killO, killH, hget, hset, hdel, pubV, pubC, pubO, renV, renC, renO, reduceIte, reduceCtorEq, Nat.reduceEqDiff, Nat.reduceLT, Nat.reduceAdd, Int.reduceToNat, Nat.reduceLeDiff, Int.reducePow, Int.reduceLE, Int.reduceLT]
  refine ⟨fun h0 => ?_, fun h0 => ?_⟩
  · obtain ⟨i, rfl⟩ : ∃ j, m = j + 1 := ⟨m - 1, by omega⟩
    have hj : k / 2 ^ i = 2 * (k / 2 ^ (i + 1)) + k / 2 ^ i % 2 := by
      rw [Nat.pow_succ, ← Nat.div_div_eq_div_mul]; omega
    have hjk : k / 2 ^ i ≤ k := Nat.div_le_self _ _
    generalize k / 2 ^ (i + 1) = j at *
    have hsq : V ^ j * V ^ j = V ^ (2 * j) := by rw [← Int.pow_add]; congr 1; omega
    have no : ∀ q, q ≤ k → ¬ (limbs (V ^ q)).length ≤ 2048 → ∀ env, eget env 4 = .nilS → eget env 5 = .int .i64 2 → Ret0 [4, 5] (fun r => r = lE (fitL (V ^ k)) (fitE (V ^ k))) ⟨env, []⟩ := fun q hq hb env h4 h5 => by
      obtain ⟨e1, e2⟩ := fit_no (v := V ^ k) (fun h => hb (big_up hV hq h))
      exact ret1' (by rw [e1, e2]; simp only [uL, h4, h5, retR, retA, retL, ret1, ret1L, eget, hget, hset, St.set, eset, List.map_cons, List.map_nil, reduceIte, reduceCtorEq, Nat.reduceEqDiff, Nat.reduceLT, true_and, and_true, false_or, or_true, true_or, List.drop_zero, List.take_length, scalE_I, scalE_B, scalE_S]; rfl)
    refine callK0 (natural_times true true (limbs (V ^ j)) (limbs (V ^ j)) (by omega)) (by repeat (first | exact subs_nil | refine subs_int ?_ | refine subs_ro ?_ | refine subs_bool ?_ | refine subs_str ?_ | refine subs_nilro ?_ | refine subs_lits rfl ?_ | refine subs_all rfl rfl (by simp) ?_ | refine subs_own rfl rfl ?_ | refine subs_fn ?_)) ?_
    rintro r ⟨zs, rfl, lz, hz, hv⟩
    rw [limbs_val (Int.pow_nonneg hV), hsq] at hv
    simp only [uL, W1, W2, W3, popTo, memb, res, wres, env0, byteAt, optI, cutB, cutL, sliceR, strR, ldCells, ldR, iaR, faR, lenR, lenSR, ixR, exR, nchkR, mxR, csR, up, ZV.av, ZV.fit, zfits, fits, fitsL, cellsOf, down, downL, downLL, stR, mkR, bsR, boxR, alR, apR, cpR, srcQ, solid, killC, killV, killE, killO, killH, hget, hset, hdel, pubV, pubC, pubO, renV, renC, renO, reduceIte, reduceCtorEq, Nat.reduceEqDiff, Nat.reduceLT, Nat.reduceAdd, Int.reduceToNat, Nat.reduceLeDiff, Int.reducePow, Int.reduceLE, Int.reduceLT]
    refine call1 (natural_fit true zs (by omega)) (by repeat (first | exact subs_nil | refine subs_int ?_ | refine subs_ro ?_ | refine subs_bool ?_ | refine subs_str ?_ | refine subs_nilro ?_ | refine subs_lits rfl ?_ | refine subs_all rfl rfl (by simp) ?_ | refine subs_own rfl rfl ?_ | refine subs_fn ?_)) ?_
    rw [hv]
    simp only [uL, W1, W2, W3, popTo, memb, res, wres, env0, byteAt, optI, cutB, cutL, sliceR, strR, ldCells, ldR, iaR, faR, lenR, lenSR, ixR, exR, nchkR, mxR, csR, up, ZV.av, ZV.fit, zfits, fits, fitsL, cellsOf, down, downL, downLL, stR, mkR, bsR, boxR, alR, apR, cpR, srcQ, solid, killC, killV, killE, killO, killH, hget, hset, hdel, pubV, pubC, pubO, renV, renC, renO, reduceIte, reduceCtorEq, Nat.reduceEqDiff, Nat.reduceLT, Nat.reduceAdd, Int.reduceToNat, Nat.reduceLeDiff, Int.reducePow, Int.reduceLE, Int.reduceLT]
    by_cases hf2 : (limbs (V ^ (2 * j))).length ≤ 2048
    · obtain ⟨e1, e2⟩ := fit_yes hf2
      rw [e1, e2]
      refine ⟨fun h => absurd rfl h, fun _ _ => ?_⟩
      have ei : (((i + 1 : Nat) : Int) - 1).toNat = i := by omega
      have ec : (k : Int) / 2 ^ i = ((k / 2 ^ i : Nat) : Int) := by rw [Int.natCast_ediv]; congr 1
      rw [ei, if_pos (show i ≤ 64 by omega), ec, Int.toNat_natCast, show k / 2 ^ i &&& 1 = k / 2 ^ i % 2 from Nat.and_two_pow_sub_one_eq_mod _ 1]
      refine ⟨by omega, fun _ => ⟨by omega, fun hodd => ?_, fun heven => ⟨by omega, ?_⟩⟩⟩
      · have hodd : k / 2 ^ i % 2 = 1 := by omega
        rw [hodd] at hj
        refine callK0 (natural_times true fr (limbs (V ^ (2 * j))) n (by omega)) (by repeat (first | exact subs_nil | refine subs_int ?_ | refine subs_ro ?_ | refine subs_bool ?_ | refine subs_str ?_ | refine subs_nilro ?_ | refine subs_lits rfl ?_ | refine subs_all rfl rfl (by simp) ?_ | refine subs_own rfl rfl ?_ | refine subs_fn ?_)) ?_
        rintro r ⟨zs, rfl, lz, hz, hv⟩
        rw [limbs_val (Int.pow_nonneg hV), hVe, ← Int.pow_succ, show (2 * j).succ = k / 2 ^ i by omega] at hv
        simp only [uL, W1, W2, W3, popTo, memb, res, wres, env0, byteAt, optI, cutB, cutL, sliceR, strR, ldCells, ldR, iaR, faR, lenR, lenSR, ixR, exR, nchkR, mxR, csR, up, ZV.av, ZV.fit, zfits, fits, fitsL, cellsOf, down, downL, downLL, stR, mkR, bsR, boxR, alR, apR, cpR, srcQ, solid, killC, killV, killE, killO, killH, hget, hset, hdel, pubV, pubC, pubO, renV, renC, renO, reduceIte, reduceCtorEq, Nat.reduceEqDiff, Nat.reduceLT, Nat.reduceAdd, Int.reduceToNat, Nat.reduceLeDiff, Int.reducePow, Int.reduceLE, Int.reduceLT]
        refine call1 (natural_fit true zs (by omega)) (by repeat (first | exact subs_nil | refine subs_int ?_ | refine subs_ro ?_ | refine subs_bool ?_ | refine subs_str ?_ | refine subs_nilro ?_ | refine subs_lits rfl ?_ | refine subs_all rfl rfl (by simp) ?_ | refine subs_own rfl rfl ?_ | refine subs_fn ?_)) ?_
        rw [hv]
        simp only [uL, W1, W2, W3, popTo, memb, res, wres, env0, byteAt, optI, cutB, cutL, sliceR, strR, ldCells, ldR, iaR, faR, lenR, lenSR, ixR, exR, nchkR, mxR, csR, up, ZV.av, ZV.fit, zfits, fits, fitsL, cellsOf, down, downL, downLL, stR, mkR, bsR, boxR, alR, apR, cpR, srcQ, solid, killC, killV, killE, killO, killH, hget, hset, hdel, pubV, pubC, pubO, renV, renC, renO, reduceIte, reduceCtorEq, Nat.reduceEqDiff, Nat.reduceLT, Nat.reduceAdd, Int.reduceToNat, Nat.reduceLeDiff, Int.reducePow, Int.reduceLE, Int.reduceLT]
        by_cases hf3 : (limbs (V ^ (k / 2 ^ i))).length ≤ 2048
        · obtain ⟨e1, e2⟩ := fit_yes hf3
          rw [e1, e2]
          refine ⟨fun h => absurd rfl h, fun _ => ⟨by omega, ?_⟩⟩
          exact back_intro [(0, uL fr n), (1, .int .i64 k), (6, uL true (limbs (V ^ (k / 2 ^ i)))), (7, .int .i64 0), (8, .int .i64 ((i : Int) - 1))] (by simp [eget, uL] <;> omega) (by omega) ⟨i, rfl, by omega, hf3, rfl⟩
        · obtain ⟨e1, e2⟩ := fit_no hf3
          rw [e1, e2]
          refine ⟨fun _ => no _ hjk hf3 _ rfl rfl, fun h => absurd (by omega) h⟩
      · have heven : k / 2 ^ i = 2 * j := by omega
        rw [← heven] at hf2 ⊢
        exact back_intro [(0, uL fr n), (1, .int .i64 k), (6, uL true (limbs (V ^ (k / 2 ^ i)))), (7, .int .i64 0), (8, .int .i64 ((i : Int) - 1))] (by simp [eget, uL] <;> omega) (by omega) ⟨i, rfl, by omega, hf2, rfl⟩
    · obtain ⟨e1, e2⟩ := fit_no hf2
      rw [e1, e2]
      refine ⟨fun _ => no (2 * j) (by omega) hf2 _ rfl rfl, fun h => absurd (by omega) h⟩
  · have : m = 0 := by omega
    subst this
    rw [Nat.pow_zero, Nat.div_one] at hfit ⊢
    obtain ⟨e1, e2⟩ := fit_yes hfit
    exact ret1' (by rw [e1, e2]; simp only [uL, retR, retA, retL, ret1, ret1L, eget, hget, hset, St.set, eset, List.map_cons, List.map_nil, reduceIte, reduceCtorEq, Nat.reduceEqDiff, Nat.reduceLT, true_and, and_true, false_or, or_true, true_or, List.drop_zero, List.take_length, scalE_I, scalE_B, scalE_S])

def powOk (n : List Int) (k : Int) : Prop := may n ∧ 0 ≤ k ∧ k ≤ 1024
instance (n : List Int) (k : Int) : Decidable (powOk n k) := inferInstanceAs (Decidable (_ ∧ _ ∧ _))
def powL (n : List Int) (k : Int) : List Int := if powOk n k then fitL (val n ^ k.toNat) else []
def powE (n : List Int) (k : Int) : Int := if powOk n k then fitE (val n ^ k.toNat) else if may n then 1 else 20

theorem natural_Pow (fr : Bool) (n : List Int) (k : Int) : FSpec0 Try.prog 65 [uL fr n, .int .i64 k] (fun r => r = lE (powL n k) (powE n k)) := by
  refine fspec0_of_run k65 ?_
  simp only [uL, c65, W1, W2, W3, popTo, memb, res, wres, env0, byteAt, optI, cutB, cutL, sliceR, strR, ldCells, ldR, iaR, faR, lenR, lenSR, ixR, exR, nchkR, mxR, csR, up, ZV.av, ZV.fit, zfits, fits, fitsL, cellsOf, down, downL, downLL, stR, mkR, bsR, boxR, alR, apR, cpR, srcQ, solid, killC, killV, killE, killO, killH, hget, hset, hdel, pubV, pubC, pubO, renV, renC, renO, reduceIte, reduceCtorEq, Nat.reduceEqDiff, Nat.reduceLT, Nat.reduceAdd, Int.reduceToNat, Nat.reduceLeDiff, Int.reducePow, Int.reduceLE, Int.reduceLT]
  refine call1 (natural_May fr n) (by repeat (first | exact subs_nil | refine subs_int ?_ | refine subs_ro ?_ | refine subs_bool ?_ | refine subs_str ?_ | refine subs_nilro ?_ | refine subs_lits rfl ?_ | refine subs_all rfl rfl (by simp) ?_ | refine subs_own rfl rfl ?_ | refine subs_fn ?_)) ?_
  simp only [uL, W1, W2, W3, popTo, memb, res, wres, env0, byteAt, optI, cutB, cutL, sliceR, strR, ldCells, ldR, iaR, faR, lenR, lenSR, ixR, exR, nchkR, mxR, csR, up, ZV.av, ZV.fit, zfits, fits, fitsL, cellsOf, down, downL, downLL, stR, mkR, bsR, boxR, alR, apR, cpR, srcQ, solid, killC, killV, killE, killO, killH, hget, hset, hdel, pubV, pubC, pubO, renV, renC, renO, reduceIte, reduceCtorEq, Nat.reduceEqDiff, Nat.reduceLT, Nat.reduceAdd, Int.reduceToNat, Nat.reduceLeDiff, Int.reducePow, Int.reduceLE, Int.reduceLT]
  have no : ∀ (h : ¬ powOk n k) (e : Int), e = (if may n then 1 else 20) → ∀ (env : Env), eget env 4 = .nilS → eget env 5 = .int .i64 e → Ret0 [4, 5] (fun r => r = lE (powL n k) (powE n k)) ⟨env, []⟩ := fun h e he env h4 h5 => by
    exact ret1' (by rw [powL, powE, if_neg h, if_neg h, ← he]; simp only [uL, h4, h5, retR, retA, retL, ret1, ret1L, eget, hget, hset, St.set, eset, List.map_cons, List.map_nil, reduceIte, reduceCtorEq, Nat.reduceEqDiff, Nat.reduceLT, true_and, and_true, false_or, or_true, true_or, List.drop_zero, List.take_length, scalE_I, scalE_B, scalE_S]; rfl)
  refine ⟨fun h => no (fun h' => h h'.1) 20 (by rw [if_neg h]) _ rfl rfl, fun h => ⟨fun h1 => no (fun h' => by have := h'.2.1; omega) 1 (by rw [if_pos (Classical.not_not.1 h)]) _ rfl rfl, fun h1 => ⟨fun h2 => no (fun h' => by have := h'.2.2; omega) 1 (by rw [if_pos (Classical.not_not.1 h)]) _ rfl rfl, fun h2 => ?_⟩⟩⟩
  have hm := Classical.not_not.1 h
  have hl := hm.1
  have hp : powOk n k := ⟨hm, by omega, by omega⟩
  rw [powL, powE, if_pos hp, if_pos hp]
  obtain ⟨k, rfl⟩ := Int.eq_ofNat_of_zero_le (show 0 ≤ k by omega)
  rw [Int.toNat_natCast]
  refine call1 (natural_raise fr n k (by omega) (by omega)) (by repeat (first | exact subs_nil | refine subs_int ?_ | refine subs_ro ?_ | refine subs_bool ?_ | refine subs_str ?_ | refine subs_nilro ?_ | refine subs_lits rfl ?_ | refine subs_all rfl rfl (by simp) ?_ | refine subs_own rfl rfl ?_ | refine subs_fn ?_)) ?_
  simp only [uL, W1, W2, W3, popTo, memb, res, wres, env0, byteAt, optI, cutB, cutL, sliceR, strR, ldCells, ldR, iaR, faR, lenR, lenSR, ixR, exR, nchkR, mxR, csR, up, ZV.av, ZV.fit, zfits, fits, fitsL, cellsOf, down, downL, downLL, stR, mkR, bsR, boxR, alR, apR, cpR, srcQ, solid, killC, killV, killE, killO, killH, hget, hset, hdel, pubV, pubC, pubO, renV, renC, renO, reduceIte, reduceCtorEq, Nat.reduceEqDiff, Nat.reduceLT, Nat.reduceAdd, Int.reduceToNat, Nat.reduceLeDiff, Int.reducePow, Int.reduceLE, Int.reduceLT]
  exact ret1' (by simp only [uL, retR, retA, retL, ret1, ret1L, eget, hget, hset, St.set, eset, List.map_cons, List.map_nil, reduceIte, reduceCtorEq, Nat.reduceEqDiff, Nat.reduceLT, true_and, and_true, false_or, or_true, true_or, List.drop_zero, List.take_length, scalE_I, scalE_B, scalE_S])

theorem sloperef1_Pow (fr : Bool) (n : List Int) (k : Int) : FSpec0 Try.prog 66 [uL fr n, .int .i64 k] (fun r => r = lE (powL n k) (powE n k)) := by
  refine FSpec0.of_facts fun hf => fspec0_of_run k66 ?_
  have ln : lim n := lim_of_factL hf.1
  have hV := (val_bound ln).1
  simp only [uL, c66, W1, W2, W3, popTo, memb, res, wres, env0, byteAt, optI, cutB, cutL, sliceR, strR, ldCells, ldR, iaR, faR, lenR, lenSR, ixR, exR, nchkR, mxR, csR, up, ZV.av, ZV.fit, zfits, fits, fitsL, cellsOf, down, downL, downLL, stR, mkR, bsR, boxR, alR, apR, cpR, srcQ, solid, killC, killV, killE, killO, killH, hget, hset, hdel, pubV, pubC, pubO, renV, renC, renO, reduceIte, reduceCtorEq, Nat.reduceEqDiff, Nat.reduceLT, Nat.reduceAdd, Int.reduceToNat, Nat.reduceLeDiff, Int.reducePow, Int.reduceLE, Int.reduceLT]
  refine call1 (sloperef1_May fr n) (by repeat (first | exact subs_nil | refine subs_int ?_ | refine subs_ro ?_ | refine subs_bool ?_ | refine subs_str ?_ | refine subs_nilro ?_ | refine subs_lits rfl ?_ | refine subs_all rfl rfl (by simp) ?_ | refine subs_own rfl rfl ?_ | refine subs_fn ?_)) ?_
  simp only [uL, W1, W2, W3, popTo, memb, res, wres, env0, byteAt, optI, cutB, cutL, sliceR, strR, ldCells, ldR, iaR, faR, lenR, lenSR, ixR, exR, nchkR, mxR, csR, up, ZV.av, ZV.fit, zfits, fits, fitsL, cellsOf, down, downL, downLL, stR, mkR, bsR, boxR, alR, apR, cpR, srcQ, solid, killC, killV, killE, killO, killH, hget, hset, hdel, pubV, pubC, pubO, renV, renC, renO, reduceIte, reduceCtorEq, Nat.reduceEqDiff, Nat.reduceLT, Nat.reduceAdd, Int.reduceToNat, Nat.reduceLeDiff, Int.reducePow, Int.reduceLE, Int.reduceLT]
  have no : ∀ (h : ¬ powOk n k) (e : Int), e = (if may n then 1 else 20) → ∀ (env : Env), eget env 4 = .nilS → eget env 5 = .int .i64 e → Ret0 [4, 5] (fun r => r = lE (powL n k) (powE n k)) ⟨env, []⟩ := fun h e he env h4 h5 => by
    exact ret1' (by rw [powL, powE, if_neg h, if_neg h, ← he]; simp only [uL, h4, h5, retR, retA, retL, ret1, ret1L, eget, hget, hset, St.set, eset, List.map_cons, List.map_nil, reduceIte, reduceCtorEq, Nat.reduceEqDiff, Nat.reduceLT, true_and, and_true, false_or, or_true, true_or, List.drop_zero, List.take_length, scalE_I, scalE_B, scalE_S]; rfl)
  refine ⟨fun h => no (fun h' => h h'.1) 20 (by rw [if_neg h]) _ rfl rfl, fun h => ⟨fun h1 => no (fun h' => by have := h'.2.1; omega) 1 (by rw [if_pos (Classical.not_not.1 h)]) _ rfl rfl, fun h1 => ⟨fun h2 => no (fun h' => by have := h'.2.2; omega) 1 (by rw [if_pos (Classical.not_not.1 h)]) _ rfl rfl, fun h2 => ?_⟩⟩⟩
  have hm := Classical.not_not.1 h
  have hl := hm.1
  have hp : powOk n k := ⟨hm, by omega, by omega⟩
  rw [powL, powE, if_pos hp, if_pos hp]
  obtain ⟨k, rfl⟩ := Int.eq_ofNat_of_zero_le (show 0 ≤ k by omega)
  rw [Int.toNat_natCast]
  have hk1 : (k : Int) ≤ 1024 := by omega
  clear no h1 h2 h hp
  generalize hVe : val n = V at *
  refine call1 (sloperef1_From 1) (by repeat (first | exact subs_nil | refine subs_int ?_ | refine subs_ro ?_ | refine subs_bool ?_ | refine subs_str ?_ | refine subs_nilro ?_ | refine subs_lits rfl ?_ | refine subs_all rfl rfl (by simp) ?_ | refine subs_own rfl rfl ?_ | refine subs_fn ?_)) ?_; simp only [uL, W1, W2, W3, popTo, memb, res, wres, env0, byteAt, optI, cutB, cutL, sliceR, strR, ldCells, ldR, iaR, faR, lenR, lenSR, ixR, exR, nchkR, mxR, csR, up, ZV.av, ZV.fit, zfits, fits, fitsL, cellsOf, down, downL, downLL, stR, mkR, bsR, boxR, alR, apR, cpR, srcQ, solid, killC, killV, killE, killO, killH, hget, hset, hdel, pubV, pubC, pubO, renV, renC, renO, reduceIte, reduceCtorEq, Nat.reduceEqDiff, Nat.reduceLT, Nat.reduceAdd, Int.reduceToNat, Nat.reduceLeDiff, Int.reducePow, Int.reduceLE, Int.reduceLT]
  rw [from_one]
  refine cut_intro (fun st => (limbs (V ^ k)).length ≤ 2048 ∧ st = ⟨[(6, uL true (limbs (V ^ k)))], []⟩) ?_ ?_
  · simp only [uL, W1, W2, W3, popTo, memb, res, wres, env0, byteAt, optI, cutB, cutL, sliceR, strR, ldCells, ldR, iaR, faR, lenR, lenSR, ixR, exR, nchkR, mxR, csR, up, ZV.av, ZV.fit, zfits, fits, fitsL, cellsOf, down, downL, downLL, stR, mkR, bsR, boxR, alR, apR, cpR, srcQ, solid, killC, killV, killE, killO, killH, hget, hset, hdel, pubV, pubC, pubO, renV, renC, renO, reduceIte, reduceCtorEq, Nat.reduceEqDiff, Nat.reduceLT, Nat.reduceAdd, Int.reduceToNat, Nat.reduceLeDiff, Int.reducePow, Int.reduceLE, Int.reduceLT]
    refine loop_intro (fun m st => ∃ i : Nat, i ≤ k ∧ m = k - i ∧ (limbs (V ^ i)).length ≤ 2048 ∧ st = ⟨[(0, uL fr n), (1, .int .i64 k), (6, uL true (limbs (V ^ i))), (8, .int .i64 i)], []⟩) k
      [(0, uL fr n), (1, .int .i64 k), (6, uL true (limbs (V ^ 0))), (8, .int .i64 (0 : Nat))] (by rw [Int.pow_zero, limbs_one]; simp [eget, uL]) ⟨0, by omega, rfl, by rw [Int.pow_zero, limbs_one]; simp, rfl⟩ ?_
    rintro m st ⟨i, hi, rfl, hfit, rfl⟩
    simp only [uL, W1, W2, W3, popTo, memb, res, wres, env0, byteAt, optI, cutB, cutL, sliceR, strR, ldCells, ldR, iaR, faR, lenR, lenSR, ixR, exR, nchkR, mxR, csR, up, ZV.av, ZV.fit, zfits, fits, fitsL, cellsOf, down, downL, downLL, stR, mkR, bsR, boxR, alR, apR, cpR, srcQ, solid, killC, killV, killE, killO, killH, hget, hset, hdel, pubV, pubC, pubO, renV, renC, renO, reduceIte, reduceCtorEq, Nat.reduceEqDiff, Nat.reduceLT, Nat.reduceAdd, Int.reduceToNat, Nat.reduceLeDiff, Int.reducePow, Int.reduceLE, Int.reduceLT]
    refine ⟨fun h0 => ?_, fun h0 => ?_⟩
    · refine call1 (sloperef1_Mul true fr (limbs (V ^ i)) n) (by repeat (first | exact subs_nil | refine subs_int ?_ | refine subs_ro ?_ | refine subs_bool ?_ | refine subs_str ?_ | refine subs_nilro ?_ | refine subs_lits rfl ?_ | refine subs_all rfl rfl (by simp) ?_ | refine subs_own rfl rfl ?_ | refine subs_fn ?_)) ?_
      have hmm : may (limbs (V ^ i)) ∧ may n := ⟨may_of_len hfit, hm⟩
      rw [mulL, mulE, if_pos hmm, if_pos hmm, limbs_val (Int.pow_nonneg hV), hVe, ← Int.pow_succ]
      simp only [uL, W1, W2, W3, popTo, memb, res, wres, env0, byteAt, optI, cutB, cutL, sliceR, strR, ldCells, ldR, iaR, faR, lenR, lenSR, ixR, exR, nchkR, mxR, csR, up, ZV.av, ZV.fit, zfits, fits, fitsL, cellsOf, down, downL, downLL, stR, mkR, bsR, boxR, alR, apR, cpR, srcQ, solid, killC, killV, killE, killO, killH, hget, hset, hdel, pubV, pubC, pubO, renV, renC, renO, reduceIte, reduceCtorEq, Nat.reduceEqDiff, Nat.reduceLT, Nat.reduceAdd, Int.reduceToNat, Nat.reduceLeDiff, Int.reducePow, Int.reduceLE, Int.reduceLT]
      by_cases hf3 : (limbs (V ^ (i + 1))).length ≤ 2048
      · obtain ⟨e1, e2⟩ := fit_yes hf3
        rw [e1, e2]
        refine ⟨fun h => absurd rfl h, fun _ => ⟨by omega, ?_⟩⟩
        exact back_intro [(0, uL fr n), (1, .int .i64 k), (6, uL true (limbs (V ^ (i + 1)))), (8, .int .i64 ((i + 1 : Nat) : Int))] (by simp [eget, uL]) (by omega) ⟨i + 1, by omega, rfl, hf3, rfl⟩
      · obtain ⟨e1, e2⟩ := fit_no hf3
        obtain ⟨e3, e4⟩ := fit_no (v := V ^ k) (fun h => hf3 (big_up hV (by omega) h))
        rw [e1, e2, e3, e4]
        exact ⟨fun _ => ret1' (by simp only [uL, retR, retA, retL, ret1, ret1L, eget, hget, hset, St.set, eset, List.map_cons, List.map_nil, reduceIte, reduceCtorEq, Nat.reduceEqDiff, Nat.reduceLT, true_and, and_true, false_or, or_true, true_or, List.drop_zero, List.take_length, scalE_I, scalE_B, scalE_S]; rfl), fun h => absurd (by omega) h⟩
    · obtain rfl : i = k := by omega
      exact join_intro [(6, uL true (limbs (V ^ i)))] (by simp [eget, uL]) ⟨hfit, rfl⟩
  · rintro st ⟨hfit, rfl⟩
    obtain ⟨e1, e2⟩ := fit_yes hfit
    simp only [uL, W1, W2, W3, popTo, memb, res, wres, env0, byteAt, optI, cutB, cutL, sliceR, strR, ldCells, ldR, iaR, faR, lenR, lenSR, ixR, exR, nchkR, mxR, csR, up, ZV.av, ZV.fit, zfits, fits, fitsL, cellsOf, down, downL, downLL, stR, mkR, bsR, boxR, alR, apR, cpR, srcQ, solid, killC, killV, killE, killO, killH, hget, hset, hdel, pubV, pubC, pubO, renV, renC, renO, reduceIte, reduceCtorEq, Nat.reduceEqDiff, Nat.reduceLT, Nat.reduceAdd, Int.reduceToNat, Nat.reduceLeDiff, Int.reducePow, Int.reduceLE, Int.reduceLT]
    exact ret1' (by rw [e1, e2]; simp only [uL, retR, retA, retL, ret1, ret1L, eget, hget, hset, St.set, eset, List.map_cons, List.map_nil, reduceIte, reduceCtorEq, Nat.reduceEqDiff, Nat.reduceLT, true_and, and_true, false_or, or_true, true_or, List.drop_zero, List.take_length, scalE_I, scalE_B, scalE_S])

end Go.Vc
