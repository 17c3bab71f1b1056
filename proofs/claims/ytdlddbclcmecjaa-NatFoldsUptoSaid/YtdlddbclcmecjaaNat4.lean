/-
  Results that fit; several naturals.
-/
import Derived.Test.YtdlddbclcmecjaaVal
import Derived.Test.YtdlddbclcmecjaaVc22
set_option linter.unusedVariables false
set_option linter.unusedSimpArgs false
namespace Go.Vc
open Go
open Go.Proofs

/- natural.fit: arguments 1, results in [2, 3]; slots in use where its loops begin: [] -/
def c103 : MC := .seq (.ops [ .op (some 2) none (.p (.mv .nil)), .op (some 3) none (.p (.mv (.i .i64 (0)))), .gh (.drop [2, 3])]) (.seq (.ops [ .op (some 5) none (.p (.mv (.t 0))), .op (some 6) none (.call 81 [(.t 5)]), .op (some 4) none (.p (.mv (.t 6))), .gh (.drop [0, 5, 6])]) (.seq (.seq (.ops [ .op (some 7) none (.p (.mv (.t 4))), .op (some 8) none (.p (.len (.t 7))), .op (some 9) none (.p (.bin .gtr (.t 8) (.i .i64 (2048)))), .gh (.drop [7, 8])]) (.cond (.t 9) (.seq (.ops [ .op (some 2) none (.p (.mv .nil)), .op (some 3) none (.p (.mv (.i .i64 (2))))]) (.ret)) (.skip))) (.seq (.ops [ .op (some 10) none (.p (.mv (.t 4))), .op (some 2) none (.p (.mv (.t 10))), .op (some 3) none (.p (.mv (.i .i64 (0)))), .gh (.drop [4, 10])]) (.ret))))
theorem k103 : chkF Try.prog 103 1 [2, 3] c103 = true := by kernel_rfl

/- sloperef1.fit: arguments 1, results in [2, 3]; slots in use where its loops begin: [] -/
def c86 : MC := .seq (.ops [ .op (some 2) none (.p (.mv .nil)), .op (some 3) none (.p (.mv (.i .i64 (0)))), .gh (.drop [2, 3])]) (.seq (.ops [ .op (some 5) none (.p (.mv (.t 0))), .op (some 6) none (.call 83 [(.t 5)]), .op (some 4) none (.p (.mv (.t 6))), .gh (.drop [0, 5, 6])]) (.seq (.seq (.ops [ .op (some 7) none (.p (.mv (.t 4))), .op (some 8) none (.p (.len (.t 7))), .op (some 9) none (.p (.bin .gtr (.t 8) (.i .i64 (2048)))), .gh (.drop [7, 8])]) (.cond (.t 9) (.seq (.ops [ .op (some 2) none (.p (.mv .nil)), .op (some 3) none (.p (.mv (.i .i64 (2))))]) (.ret)) (.skip))) (.seq (.ops [ .op (some 10) none (.p (.mv (.t 4))), .op (some 2) none (.p (.mv (.t 10))), .op (some 3) none (.p (.mv (.i .i64 (0)))), .gh (.drop [4, 10])]) (.ret))))
theorem k86 : chkF Try.prog 86 1 [2, 3] c86 = true := by kernel_rfl

/- natural.all: arguments 1, results in [2]; slots in use where its loops begin: [[5, 6, 7]] -/
def c102 : MC := .seq (.ops [ .op (some 2) none (.p (.mv (.b false))), .gh (.drop [2])]) (.seq (.seq (.ops [ .op (some 5) none (.p (.mv (.t 0))), .op (some 6) none (.p (.len (.t 5))), .op (some 7) none (.p (.mv (.i .i64 (0)))), .gh (.drop [0])]) (.cut (.block 0 (.loop (.seq (.ops [ .op (some 8) none (.p (.bin .lss (.t 7) (.t 6)))]) (.seq (.cond (.t 8) (.skip) (.exit 0)) (.seq (.block 1 (.seq (.ops [ .op (some 9) none (.p (.ia 1 (.t 5) (.t 7))), .op (some 10) none (.p (.ld 1 false (.t 9))), .op (some 4) none (.p (.mv (.t 10))), .gh (.drop [9, 10])]) (.seq (.ops [ .op (some 11) none (.p (.mv (.t 4))), .op (some 12) none (.call 79 [(.t 11)]), .op (some 13) none (.p (.un .not (.t 12))), .gh (.drop [4, 11, 12])]) (.cond (.t 13) (.seq (.ops [ .op (some 2) none (.p (.mv (.b false)))]) (.ret)) (.skip))))) (.ops [ .op (some 14) none (.p (.bin .add (.t 7) (.i .i64 (1)))), .op (some 7) none (.p (.mv (.t 14))), .gh (.drop [14])])))))))) (.seq (.ops [ .op (some 2) none (.p (.mv (.b true)))]) (.ret)))
theorem k102 : chkF Try.prog 102 1 [2] c102 = true := by kernel_rfl



/-- a result, or that it is too big -/
def fitL (v : Int) : List Int := if (limbs v).length ≤ 2048 then limbs v else []
def fitE (v : Int) : Int := if (limbs v).length ≤ 2048 then 0 else 2
abbrev lE (l : List Int) (e : Int) : AV := .tup [uL true l, .int .i64 e]

theorem fitL_len (v : Int) : (fitL v).length ≤ 2048 := by unfold fitL; split <;> simp_all
theorem fitL_lim (v : Int) : lim (fitL v) := by unfold fitL; split; exact limbs_lim v; exact lim.nil
theorem fitL_may (v : Int) : may (fitL v) := by unfold fitL; split; exact may_of_len ‹_›; simp [may]

theorem natural_fit (fr : Bool) (xs : List Int) (hb : xs.length * 4 ≤ 140737488355328) : FSpec0 Try.prog 103 [uL fr xs] (fun r => r = lE (fitL (val xs)) (fitE (val xs))) := by
  refine FSpec0.of_facts fun hf => fspec0_of_run k103 ?_
  have lx : lim xs := lim_of_factL hf.1
  simp only [uL, c103, W1, W2, W3, popTo, memb, res, wres, env0, byteAt, optI, cutB, cutL, sliceR, strR, ldCells, ldR, iaR, faR, lenR, lenSR, ixR, exR, nchkR, mxR, csR, up, ZV.av, ZV.fit, zfits, fits, fitsL, cellsOf, down, downL, downLL, stR, mkR, bsR, boxR, alR, apR, cpR, srcQ, solid, killC, killV, killE, killO, killH, hget, hset, hdel, pubV, pubC, pubO, renV, renC, renO, reduceIte, reduceCtorEq, Nat.reduceEqDiff, Nat.reduceLT, Nat.reduceAdd, Int.reduceToNat, Nat.reduceLeDiff, Int.reducePow, Int.reduceLE, Int.reduceLT]
  refine call1 (natural_trim fr xs hb) (by repeat (first | exact subs_nil | refine subs_int ?_ | refine subs_ro ?_ | refine subs_bool ?_ | refine subs_str ?_ | refine subs_nilro ?_ | refine subs_lits rfl ?_ | refine subs_all rfl rfl (by simp) ?_ | refine subs_own rfl rfl ?_ | refine subs_fn ?_)) ?_
  rw [trimL_limbs lx]
  simp only [uL, W1, W2, W3, popTo, memb, res, wres, env0, byteAt, optI, cutB, cutL, sliceR, strR, ldCells, ldR, iaR, faR, lenR, lenSR, ixR, exR, nchkR, mxR, csR, up, ZV.av, ZV.fit, zfits, fits, fitsL, cellsOf, down, downL, downLL, stR, mkR, bsR, boxR, alR, apR, cpR, srcQ, solid, killC, killV, killE, killO, killH, hget, hset, hdel, pubV, pubC, pubO, renV, renC, renO, reduceIte, reduceCtorEq, Nat.reduceEqDiff, Nat.reduceLT, Nat.reduceAdd, Int.reduceToNat, Nat.reduceLeDiff, Int.reducePow, Int.reduceLE, Int.reduceLT]
  intro _
  refine ⟨fun h => ret1' (by simp only [uL, fitL, fitE, if_neg (show ¬ (limbs (val xs)).length ≤ 2048 by omega), retR, retA, retL, ret1, ret1L, eget, hget, hset, St.set, eset, List.map_cons, List.map_nil, reduceIte, reduceCtorEq, Nat.reduceEqDiff, Nat.reduceLT, true_and, and_true, false_or, or_true, true_or, List.drop_zero, List.take_length, scalE_I, scalE_B, scalE_S]; rfl), fun h => ret1' (by simp only [uL, fitL, fitE, if_pos (show (limbs (val xs)).length ≤ 2048 by omega), retR, retA, retL, ret1, ret1L, eget, hget, hset, St.set, eset, List.map_cons, List.map_nil, reduceIte, reduceCtorEq, Nat.reduceEqDiff, Nat.reduceLT, true_and, and_true, false_or, or_true, true_or, List.drop_zero, List.take_length, scalE_I, scalE_B, scalE_S])⟩

theorem sloperef1_fit (fr : Bool) (xs : List Int) (hb : xs.length * 4 ≤ 140737488355328) : FSpec0 Try.prog 86 [uL fr xs] (fun r => r = lE (fitL (val xs)) (fitE (val xs))) := by
  refine FSpec0.of_facts fun hf => fspec0_of_run k86 ?_
  have lx : lim xs := lim_of_factL hf.1
  simp only [uL, c86, W1, W2, W3, popTo, memb, res, wres, env0, byteAt, optI, cutB, cutL, sliceR, strR, ldCells, ldR, iaR, faR, lenR, lenSR, ixR, exR, nchkR, mxR, csR, up, ZV.av, ZV.fit, zfits, fits, fitsL, cellsOf, down, downL, downLL, stR, mkR, bsR, boxR, alR, apR, cpR, srcQ, solid, killC, killV, killE, killO, killH, hget, hset, hdel, pubV, pubC, pubO, renV, renC, renO, reduceIte, reduceCtorEq, Nat.reduceEqDiff, Nat.reduceLT, Nat.reduceAdd, Int.reduceToNat, Nat.reduceLeDiff, Int.reducePow, Int.reduceLE, Int.reduceLT]
  refine call1 (sloperef1_Trim fr xs hb) (by repeat (first | exact subs_nil | refine subs_int ?_ | refine subs_ro ?_ | refine subs_bool ?_ | refine subs_str ?_ | refine subs_nilro ?_ | refine subs_lits rfl ?_ | refine subs_all rfl rfl (by simp) ?_ | refine subs_own rfl rfl ?_ | refine subs_fn ?_)) ?_
  rw [trimL_limbs lx]
  simp only [uL, W1, W2, W3, popTo, memb, res, wres, env0, byteAt, optI, cutB, cutL, sliceR, strR, ldCells, ldR, iaR, faR, lenR, lenSR, ixR, exR, nchkR, mxR, csR, up, ZV.av, ZV.fit, zfits, fits, fitsL, cellsOf, down, downL, downLL, stR, mkR, bsR, boxR, alR, apR, cpR, srcQ, solid, killC, killV, killE, killO, killH, hget, hset, hdel, pubV, pubC, pubO, renV, renC, renO, reduceIte, reduceCtorEq, Nat.reduceEqDiff, Nat.reduceLT, Nat.reduceAdd, Int.reduceToNat, Nat.reduceLeDiff, Int.reducePow, Int.reduceLE, Int.reduceLT]
  intro _
  refine ⟨fun h => ret1' (by simp only [uL, fitL, fitE, if_neg (show ¬ (limbs (val xs)).length ≤ 2048 by omega), retR, retA, retL, ret1, ret1L, eget, hget, hset, St.set, eset, List.map_cons, List.map_nil, reduceIte, reduceCtorEq, Nat.reduceEqDiff, Nat.reduceLT, true_and, and_true, false_or, or_true, true_or, List.drop_zero, List.take_length, scalE_I, scalE_B, scalE_S]; rfl), fun h => ret1' (by simp only [uL, fitL, fitE, if_pos (show (limbs (val xs)).length ≤ 2048 by omega), retR, retA, retL, ret1, ret1L, eget, hget, hset, St.set, eset, List.map_cons, List.map_nil, reduceIte, reduceCtorEq, Nat.reduceEqDiff, Nat.reduceLT, true_and, and_true, false_or, or_true, true_or, List.drop_zero, List.take_length, scalE_I, scalE_B, scalE_S])⟩

/-- lists of lists of limbs -/
abbrev uLL (fr : Bool) (L : List (List Int)) : AV := .ro fr 1 (encR 1 (encI .u32)) L

theorem natural_all (fr : Bool) (L : List (List Int)) : FSpec0 Try.prog 102 [uLL fr L] (fun r => r = .bool (decide (∀ x, x ∈ L → may x))) := by
  refine FSpec0.of_facts fun hf => fspec0_of_run k102 ?_
  simp only [uL, c102, W1, W2, W3, popTo, memb, res, wres, env0, byteAt, optI, cutB, cutL, sliceR, strR, ldCells, ldR, iaR, faR, lenR, lenSR, ixR, exR, nchkR, mxR, csR, up, ZV.av, ZV.fit, zfits, fits, fitsL, cellsOf, down, downL, downLL, stR, mkR, bsR, boxR, alR, apR, cpR, srcQ, solid, killC, killV, killE, killO, killH, hget, hset, hdel, pubV, pubC, pubO, renV, renC, renO, reduceIte, reduceCtorEq, Nat.reduceEqDiff, Nat.reduceLT, Nat.reduceAdd, Int.reduceToNat, Nat.reduceLeDiff, Int.reducePow, Int.reduceLE, Int.reduceLT]
  intro hlen
  refine cut_intro (fun st => (∀ x, x ∈ L → may x) ∧ st = ⟨[], []⟩) ?_ ?_
  · simp only [W1, W2, W3, popTo, memb, res, wres, env0, byteAt, optI, cutB, cutL, sliceR, strR, ldCells, ldR, iaR, faR, lenR, lenSR, ixR, exR, nchkR, mxR, csR, up, ZV.av, ZV.fit, zfits, fits, fitsL, cellsOf, down, downL, downLL, stR, mkR, bsR, boxR, alR, apR, cpR, srcQ, solid, killC, killV, killE, killO, killH, hget, hset, hdel, pubV, pubC, pubO, renV, renC, renO, reduceIte, reduceCtorEq, Nat.reduceEqDiff, Nat.reduceLT, Nat.reduceAdd, Int.reduceToNat, Nat.reduceLeDiff, Int.reducePow, Int.reduceLE, Int.reduceLT]
    refine loop_intro (fun m st => ∃ i : Nat, i ≤ L.length ∧ m = L.length - i ∧ (∀ x, x ∈ L.take i → may x) ∧ st = ⟨[(5, uLL fr L), (6, .int .i64 L.length), (7, .int .i64 i)], []⟩) L.length
      [(5, uLL fr L), (6, .int .i64 L.length), (7, .int .i64 (0 : Nat))] (by simp [eget]) ⟨0, by omega, by omega, by simp, rfl⟩ ?_
    rintro m st ⟨i, hi, rfl, hm, rfl⟩
    simp only [W1, W2, W3, popTo, memb, res, wres, env0, byteAt, optI, cutB, cutL, sliceR, strR, ldCells, ldR, iaR, faR, lenR, lenSR, ixR, exR, nchkR, mxR, csR, up, ZV.av, ZV.fit, zfits, fits, fitsL, cellsOf, down, downL, downLL, stR, mkR, bsR, boxR, alR, apR, cpR, srcQ, solid, killC, killV, killE, killO, killH, hget, hset, hdel, pubV, pubC, pubO, renV, renC, renO, reduceIte, reduceCtorEq, Nat.reduceEqDiff, Nat.reduceLT, Nat.reduceAdd, Int.reduceToNat, Nat.reduceLeDiff, Int.reducePow, Int.reduceLE, Int.reduceLT]
    refine ⟨fun h0 => ⟨by omega, fun e he => ?_⟩, fun h0 => ?_⟩
    · refine call1 (natural_May fr e) (by repeat (first | exact subs_nil | refine subs_int ?_ | refine subs_ro ?_ | refine subs_bool ?_ | refine subs_str ?_ | refine subs_nilro ?_ | refine subs_lits rfl ?_ | refine subs_all rfl rfl (by simp) ?_ | refine subs_own rfl rfl ?_ | refine subs_fn ?_)) ?_
      simp only [W1, W2, W3, popTo, memb, res, wres, env0, byteAt, optI, cutB, cutL, sliceR, strR, ldCells, ldR, iaR, faR, lenR, lenSR, ixR, exR, nchkR, mxR, csR, up, ZV.av, ZV.fit, zfits, fits, fitsL, cellsOf, down, downL, downLL, stR, mkR, bsR, boxR, alR, apR, cpR, srcQ, solid, killC, killV, killE, killO, killH, hget, hset, hdel, pubV, pubC, pubO, renV, renC, renO, reduceIte, reduceCtorEq, Nat.reduceEqDiff, Nat.reduceLT, Nat.reduceAdd, Int.reduceToNat, Nat.reduceLeDiff, Int.reducePow, Int.reduceLE, Int.reduceLT]
      refine ⟨fun h => ret0 (.bool false) (by simp only [retR, retA, retL, ret1, ret1L, eget, hget, hset, St.set, eset, List.map_cons, List.map_nil, reduceIte, reduceCtorEq, Nat.reduceEqDiff, Nat.reduceLT, true_and, and_true, false_or, or_true, true_or, List.drop_zero, List.take_length, scalE_I, scalE_B, scalE_S]) ?_, fun h => ⟨by omega, back_intro [(5, uLL fr L), (6, .int .i64 L.length), (7, .int .i64 ((i + 1 : Nat) : Int))] (by simp [eget]) (by omega) ⟨i + 1, by omega, rfl, ?_, rfl⟩⟩⟩
      · rw [decide_eq_false]; exact fun hall => h (hall e (List.mem_of_getElem? he))
      · intro x hx
        rw [take_step he] at hx
        rcases List.mem_append.1 hx with h1 | h1
        · exact hm x h1
        · simp at h1; subst h1; exact Classical.not_not.1 h
    · refine join_intro [] (by simp) ⟨?_, rfl⟩
      rw [List.take_of_length_le (by omega)] at hm; exact hm
  · rintro st ⟨hm, rfl⟩
    simp only [W1, W2, W3, popTo, memb, res, wres, env0, byteAt, optI, cutB, cutL, sliceR, strR, ldCells, ldR, iaR, faR, lenR, lenSR, ixR, exR, nchkR, mxR, csR, up, ZV.av, ZV.fit, zfits, fits, fitsL, cellsOf, down, downL, downLL, stR, mkR, bsR, boxR, alR, apR, cpR, srcQ, solid, killC, killV, killE, killO, killH, hget, hset, hdel, pubV, pubC, pubO, renV, renC, renO, reduceIte, reduceCtorEq, Nat.reduceEqDiff, Nat.reduceLT, Nat.reduceAdd, Int.reduceToNat, Nat.reduceLeDiff, Int.reducePow, Int.reduceLE, Int.reduceLT]
    exact ret0 (.bool true) (by simp only [retR, retA, retL, ret1, ret1L, eget, hget, hset, St.set, eset, List.map_cons, List.map_nil, reduceIte, reduceCtorEq, Nat.reduceEqDiff, Nat.reduceLT, true_and, and_true, false_or, or_true, true_or, List.drop_zero, List.take_length, scalE_I, scalE_B, scalE_S]) (by rw [decide_eq_true hm])

end Go.Vc
