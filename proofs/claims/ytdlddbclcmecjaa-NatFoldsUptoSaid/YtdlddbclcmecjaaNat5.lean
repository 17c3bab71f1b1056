/-
  Sums and differences, limb by limb.
-/
import Derived.Test.YtdlddbclcmecjaaNat1
set_option linter.unusedVariables false
set_option linter.unusedSimpArgs false
namespace Go.Vc
open Go
open Go.Proofs

/- bits.Add32: arguments 3, results in [6, 7]; slots in use where its loops begin: [] -/
def c131 : MC := .seq (.ops [ .op (some 6) none (.p (.mv (.i .u32 (0)))), .op (some 7) none (.p (.mv (.i .u32 (0)))), .gh (.drop [6, 7])]) (.seq (.ops [ .op (some 9) none (.p (.mv (.t 0))), .op (some 10) none (.p (.cv .u64 (.t 9))), .op (some 11) none (.p (.mv (.t 1))), .op (some 12) none (.p (.cv .u64 (.t 11))), .op (some 13) none (.p (.bin .add (.t 10) (.t 12))), .op (some 14) none (.p (.mv (.t 2))), .op (some 15) none (.p (.cv .u64 (.t 14))), .op (some 16) none (.p (.bin .add (.t 13) (.t 15))), .op (some 8) none (.p (.mv (.t 16))), .gh (.drop [0, 1, 2, 9, 10, 11, 12, 13, 14, 15, 16])]) (.seq (.ops [ .op (some 17) none (.p (.mv (.t 8))), .op (some 18) none (.p (.cv .u32 (.t 17))), .op (some 6) none (.p (.mv (.t 18))), .gh (.drop [17, 18])]) (.seq (.ops [ .op (some 19) none (.p (.mv (.t 8))), .op (some 20) none (.p (.bin .shr (.t 19) (.i .u64 (32)))), .op (some 21) none (.p (.cv .u32 (.t 20))), .op (some 7) none (.p (.mv (.t 21))), .gh (.drop [8, 19, 20, 21])]) (.ret))))
theorem k131 : chkF Try.prog 131 3 [6, 7] c131 = true := by kernel_rfl



theorem bits_Add32 (x y c : Int) : FSpec0 Try.prog 131 [.int .u32 x, .int .u32 y, .int .u32 c] (fun r => r = .tup [.int .u32 ((x + y + c) % 4294967296), .int .u32 ((x + y + c) / 4294967296)]) := by
  refine FSpec0.of_facts fun hf => fspec0_of_run k131 ?_
  obtain ⟨hx, hy, hc, _⟩ := hf
  simp only [factV, inK] at hx hy hc
  simp only [c131, W1, W2, W3, popTo, memb, res, wres, env0, byteAt, optI, cutB, cutL, sliceR, strR, ldCells, ldR, iaR, faR, lenR, lenSR, ixR, exR, nchkR, mxR, csR, up, ZV.av, ZV.fit, zfits, fits, fitsL, cellsOf, down, downL, downLL, stR, mkR, bsR, boxR, alR, apR, cpR, srcQ, solid, killC, killV, killE, killO, killH, hget, hset, hdel, pubV, pubC, pubO, renV, renC, renO, reduceIte, reduceCtorEq, Nat.reduceEqDiff, Nat.reduceLT, Nat.reduceAdd, Int.reduceToNat, Nat.reduceLeDiff, Int.reducePow, Int.reduceLE, Int.reduceLT]
  intro _ _ _ _
  have e1 : ((x + y) % 18446744073709551616 + c) % 18446744073709551616 % 4294967296 = (x + y + c) % 4294967296 := by omega
  have e2 : ((x + y) % 18446744073709551616 + c) % 18446744073709551616 / 4294967296 % 4294967296 = (x + y + c) / 4294967296 := by omega
  rw [e1, e2]
  exact ret0 (.tup [.int .u32 ((x + y + c) % 4294967296), .int .u32 ((x + y + c) / 4294967296)]) (by simp only [retR, retA, retL, ret1, ret1L, eget, hget, hset, St.set, eset, List.map_cons, List.map_nil, reduceIte, reduceCtorEq, Nat.reduceEqDiff, Nat.reduceLT, true_and, and_true, false_or, or_true, true_or, List.drop_zero, List.take_length, scalE_I, scalE_B, scalE_S]) rfl

end Go.Vc
