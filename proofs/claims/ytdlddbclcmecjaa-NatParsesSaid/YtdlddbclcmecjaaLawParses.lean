/-
  NatParses: the walk.
-/
import Derived.Test.YtdlddbclcmecjaaNat20
set_option linter.unusedVariables false
set_option linter.unusedSimpArgs false
namespace Go.Vc
open Go
open Go.Proofs

/- slopelaw1.NatParses: arguments 2, results in [4]; slots in use where its loops begin: [] -/
def c6 : MC := .seq (.ops [ .op (some 4) none (.p (.mv (.b false))), .gh (.drop [4])]) (.seq (.ops [ .op (some 12) none (.p (.mv (.t 0))), .op (some 13) none (.p (.mv (.t 1))), .op (some 14) none (.call 36 [(.t 12), (.t 13)]), .op (some 11) none (.p (.mv (.t 14))), .op (some 15) none (.p (.ex (.t 11) 0)), .op (some 16) none (.p (.ex (.t 11) 1)), .op (some 17) none (.p (.ex (.t 11) 2)), .op (some 5) none (.p (.mv (.t 15))), .op (some 6) none (.p (.mv (.t 16))), .op (some 7) none (.p (.mv (.t 17))), .gh (.drop [11, 12, 13, 14, 15, 16, 17])]) (.seq (.ops [ .op (some 19) none (.p (.mv (.t 0))), .op (some 20) none (.p (.mv (.t 1))), .op (some 21) none (.call 37 [(.t 19), (.t 20)]), .op (some 18) none (.p (.mv (.t 21))), .op (some 22) none (.p (.ex (.t 18) 0)), .op (some 23) none (.p (.ex (.t 18) 1)), .op (some 24) none (.p (.ex (.t 18) 2)), .op (some 8) none (.p (.mv (.t 22))), .op (some 9) none (.p (.mv (.t 23))), .op (some 10) none (.p (.mv (.t 24))), .gh (.drop [0, 1, 18, 19, 20, 21, 22, 23, 24])]) (.seq (.ops [ .op (some 25) none (.p (.mv (.t 7))), .op (some 26) none (.call 31 [(.t 25)]), .op (some 27) none (.p (.mv (.t 10))), .op (some 28) none (.p (.bin .eql (.t 26) (.t 27))), .op (some 29) none (.p (.mv (.t 28))), .op (some 30) (some (29, true)) (.p (.mv (.t 6))), .op (some 31) (some (29, true)) (.p (.mv (.t 9))), .op (some 32) (some (29, true)) (.p (.bin .eql (.t 30) (.t 31))), .op (some 33) none (.pick (.t 29) (.t 32) (.b false)), .op (some 34) none (.p (.mv (.t 33))), .op (some 35) (some (34, true)) (.p (.mv (.t 5))), .op (some 36) (some (34, true)) (.p (.mv (.t 8))), .op (some 37) (some (34, true)) (.call 24 [(.t 35), (.t 36)]), .op (some 38) none (.pick (.t 34) (.t 37) (.b false)), .op (some 4) none (.p (.mv (.t 38))), .gh (.drop [5, 6, 7, 8, 9, 10, 25, 26, 27, 28, 29, 30, 31, 32, 33, 34, 35, 36, 37, 38])]) (.ret))))
theorem k6 : chkF Try.prog 6 2 [4] c6 = true := by kernel_rfl



theorem parseR_parts (s : ByteArray) (b : Int) : ∃ (l : List Int) (p e : Int), parseR s b = .tup [uL true l, .int .i64 p, .int .i64 e] := by
  unfold parseR
  repeat' split
  all_goals exact ⟨_, _, _, rfl⟩

theorem NatParses_true (s : ByteArray) (b : Int) : FSpec0 Try.prog 6 [.str s, .int .i64 b] (fun r => r = .bool true) := by
  refine fspec0_of_run k6 ?_
  obtain ⟨l, p, e, hr⟩ := parseR_parts s b
  have h1 := natural_Parse s b
  have h2 := sloperef1_Parse s b
  rw [hr] at h1 h2
  simp only [c6, W1, W2, W3, popTo, memb, res, wres, env0, byteAt, optI, cutB, cutL, sliceR, strR, ldCells, ldR, iaR, faR, lenR, lenSR, ixR, exR, nchkR, mxR, csR, up, ZV.av, ZV.fit, zfits, fits, fitsL, cellsOf, down, downL, downLL, stR, mkR, bsR, boxR, alR, apR, cpR, srcQ, solid, killC, killV, killE, killO, killH, hget, hset, hdel, pubV, pubC, pubO, renV, renC, renO, reduceIte, reduceCtorEq, Nat.reduceEqDiff, Nat.reduceLT, Nat.reduceAdd, Int.reduceToNat, Nat.reduceLeDiff, Int.reducePow, Int.reduceLE, Int.reduceLT]
  refine call1 h1 (by repeat (first | exact subs_nil | refine subs_int ?_ | refine subs_ro ?_ | refine subs_bool ?_ | refine subs_str ?_ | refine subs_nilro ?_ | refine subs_lits rfl ?_ | refine subs_all rfl rfl (by simp) ?_ | refine subs_own rfl rfl ?_ | refine subs_fn ?_)) ?_
  simp only [uL, W1, W2, W3, popTo, memb, res, wres, env0, byteAt, optI, cutB, cutL, sliceR, strR, ldCells, ldR, iaR, faR, lenR, lenSR, ixR, exR, nchkR, mxR, csR, up, ZV.av, ZV.fit, zfits, fits, fitsL, cellsOf, down, downL, downLL, stR, mkR, bsR, boxR, alR, apR, cpR, srcQ, solid, killC, killV, killE, killO, killH, hget, hset, hdel, pubV, pubC, pubO, renV, renC, renO, reduceIte, reduceCtorEq, Nat.reduceEqDiff, Nat.reduceLT, Nat.reduceAdd, Int.reduceToNat, Nat.reduceLeDiff, Int.reducePow, Int.reduceLE, Int.reduceLT]
  refine call1 h2 (by repeat (first | exact subs_nil | refine subs_int ?_ | refine subs_ro ?_ | refine subs_bool ?_ | refine subs_str ?_ | refine subs_nilro ?_ | refine subs_lits rfl ?_ | refine subs_all rfl rfl (by simp) ?_ | refine subs_own rfl rfl ?_ | refine subs_fn ?_)) ?_
  simp only [uL, W1, W2, W3, popTo, memb, res, wres, env0, byteAt, optI, cutB, cutL, sliceR, strR, ldCells, ldR, iaR, faR, lenR, lenSR, ixR, exR, nchkR, mxR, csR, up, ZV.av, ZV.fit, zfits, fits, fitsL, cellsOf, down, downL, downLL, stR, mkR, bsR, boxR, alR, apR, cpR, srcQ, solid, killC, killV, killE, killO, killH, hget, hset, hdel, pubV, pubC, pubO, renV, renC, renO, reduceIte, reduceCtorEq, Nat.reduceEqDiff, Nat.reduceLT, Nat.reduceAdd, Int.reduceToNat, Nat.reduceLeDiff, Int.reducePow, Int.reduceLE, Int.reduceLT]
  refine call1 (slopelaw1_num e) (by repeat (first | exact subs_nil | refine subs_int ?_ | refine subs_ro ?_ | refine subs_bool ?_ | refine subs_str ?_ | refine subs_nilro ?_ | refine subs_lits rfl ?_ | refine subs_all rfl rfl (by simp) ?_ | refine subs_own rfl rfl ?_ | refine subs_fn ?_)) ?_; simp only [uL, W1, W2, W3, popTo, memb, res, wres, env0, byteAt, optI, cutB, cutL, sliceR, strR, ldCells, ldR, iaR, faR, lenR, lenSR, ixR, exR, nchkR, mxR, csR, up, ZV.av, ZV.fit, zfits, fits, fitsL, cellsOf, down, downL, downLL, stR, mkR, bsR, boxR, alR, apR, cpR, srcQ, solid, killC, killV, killE, killO, killH, hget, hset, hdel, pubV, pubC, pubO, renV, renC, renO, reduceIte, reduceCtorEq, Nat.reduceEqDiff, Nat.reduceLT, Nat.reduceAdd, Int.reduceToNat, Nat.reduceLeDiff, Int.reducePow, Int.reduceLE, Int.reduceLT]
  refine call1 (slopelaw1_same true true l l) (by repeat (first | exact subs_nil | refine subs_int ?_ | refine subs_ro ?_ | refine subs_bool ?_ | refine subs_str ?_ | refine subs_nilro ?_ | refine subs_lits rfl ?_ | refine subs_all rfl rfl (by simp) ?_ | refine subs_own rfl rfl ?_ | refine subs_fn ?_)) ?_; simp only [uL, W1, W2, W3, popTo, memb, res, wres, env0, byteAt, optI, cutB, cutL, sliceR, strR, ldCells, ldR, iaR, faR, lenR, lenSR, ixR, exR, nchkR, mxR, csR, up, ZV.av, ZV.fit, zfits, fits, fitsL, cellsOf, down, downL, downLL, stR, mkR, bsR, boxR, alR, apR, cpR, srcQ, solid, killC, killV, killE, killO, killH, hget, hset, hdel, pubV, pubC, pubO, renV, renC, renO, reduceIte, reduceCtorEq, Nat.reduceEqDiff, Nat.reduceLT, Nat.reduceAdd, Int.reduceToNat, Nat.reduceLeDiff, Int.reducePow, Int.reduceLE, Int.reduceLT]
  exact ret1' (by simp only [retR, retA, retL, ret1, ret1L, eget, hget, hset, St.set, eset, List.map_cons, List.map_nil, reduceIte, reduceCtorEq, Nat.reduceEqDiff, Nat.reduceLT, true_and, and_true, false_or, or_true, true_or, List.drop_zero, List.take_length, scalE_I, scalE_B, scalE_S, eq_self, decide_true])

end Go.Vc
