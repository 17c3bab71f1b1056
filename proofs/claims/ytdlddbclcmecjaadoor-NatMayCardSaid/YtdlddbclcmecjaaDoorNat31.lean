/-
  Uint, Bit, Ones, Tail: the program's and the document's.
-/
import Derived.Test.YtdlddbclcmecjaaDoorNat30
set_option linter.unusedVariables false
set_option linter.unusedSimpArgs false
namespace Go.Vc
open Go
open Go.Proofs

/- natural.Bit: arguments 2, results in [4]; slots in use where its loops begin: [] -/
def c15 : MC := .seq (.ops [ .op (some 4) none (.p (.mv (.i .i64 (0)))), .gh (.drop [4])]) (.seq (.seq (.ops [ .op (some 5) none (.p (.mv (.t 0))), .op (some 6) none (.call 7 [(.t 5)]), .op (some 7) none (.p (.un .not (.t 6))), .op (some 8) none (.p (.mv (.t 7))), .op (some 9) (some (8, false)) (.p (.mv (.t 1))), .op (some 10) (some (8, false)) (.p (.bin .lss (.t 9) (.i .i64 (0)))), .op (some 11) none (.pick (.t 8) (.b true) (.t 10)), .op (some 12) none (.p (.mv (.t 11))), .op (some 13) (some (12, false)) (.p (.mv (.t 1))), .op (some 14) (some (12, false)) (.p (.bin .quo (.t 13) (.i .i64 (32)))), .op (some 15) (some (12, false)) (.p (.mv (.t 0))), .op (some 16) (some (12, false)) (.p (.len (.t 15))), .op (some 17) (some (12, false)) (.p (.bin .geq (.t 14) (.t 16))), .op (some 18) none (.pick (.t 12) (.b true) (.t 17)), .gh (.drop [5, 6, 7, 8, 9, 10, 11, 12, 13, 14, 15, 16, 17])]) (.cond (.t 18) (.seq (.ops [ .op (some 4) none (.p (.mv (.i .i64 (0))))]) (.ret)) (.skip))) (.seq (.ops [ .op (some 19) none (.p (.mv (.t 0))), .op (some 20) none (.p (.mv (.t 1))), .op (some 21) none (.p (.bin .quo (.t 20) (.i .i64 (32)))), .op (some 22) none (.p (.ia 1 (.t 19) (.t 21))), .op (some 23) none (.p (.ld 1 false (.t 22))), .op (some 24) none (.p (.mv (.t 1))), .op (some 25) none (.p (.bin .rem (.t 24) (.i .i64 (32)))), .op (some 26) none (.p (.bin .shr (.t 23) (.t 25))), .op (some 27) none (.p (.bin .and (.t 26) (.i .u32 (1)))), .op (some 28) none (.p (.cv .i64 (.t 27))), .op (some 4) none (.p (.mv (.t 28))), .gh (.drop [0, 1, 19, 20, 21, 22, 23, 24, 25, 26, 27, 28])]) (.ret)))
theorem k15 : chkF Tryd.prog 15 2 [4] c15 = true := by kernel_rfl

/- natural.Tail: arguments 1, results in [2]; slots in use where its loops begin: [[7, 8, 9]] -/
def c13 : MC := .seq (.ops [ .op (some 2) none (.p (.mv (.i .i64 (0)))), .gh (.drop [2])]) (.seq (.seq (.ops [ .op (some 5) none (.p (.mv (.t 0))), .op (some 6) none (.call 7 [(.t 5)]), .gh (.drop [5])]) (.cond (.t 6) (.seq (.ops [ .op (some 7) none (.p (.mv (.t 0))), .op (some 8) none (.p (.len (.t 7))), .op (some 9) none (.p (.mv (.i .i64 (0)))), .gh (.drop [0])]) (.cut (.block 0 (.loop (.seq (.ops [ .op (some 10) none (.p (.bin .lss (.t 9) (.t 8)))]) (.seq (.cond (.t 10) (.skip) (.exit 0)) (.seq (.block 1 (.seq (.ops [ .op (some 11) none (.p (.mv (.t 9))), .op (some 12) none (.p (.ia 1 (.t 7) (.t 9))), .op (some 13) none (.p (.ld 1 false (.t 12))), .op (some 3) none (.p (.mv (.t 11))), .op (some 4) none (.p (.mv (.t 13))), .gh (.drop [11, 12, 13])]) (.seq (.ops [ .op (some 14) none (.p (.mv (.t 4))), .op (some 15) none (.p (.bin .neq (.t 14) (.i .u32 (0)))), .gh (.drop [14])]) (.cond (.t 15) (.seq (.ops [ .op (some 16) none (.p (.mv (.t 3))), .op (some 17) none (.p (.bin .mul (.i .i64 (32)) (.t 16))), .op (some 18) none (.p (.mv (.t 4))), .op (some 19) none (.call 21 [(.t 18)]), .op (some 20) none (.p (.bin .add (.t 17) (.t 19))), .op (some 2) none (.p (.mv (.t 20))), .gh (.drop [3, 4, 16, 17, 18, 19, 20])]) (.ret)) (.skip))))) (.ops [ .op (some 21) none (.p (.bin .add (.t 9) (.i .i64 (1)))), .op (some 9) none (.p (.mv (.t 21))), .gh (.drop [21])])))))))) (.skip))) (.seq (.ops [ .op (some 2) none (.p (.mv (.i .i64 (0))))]) (.ret)))
theorem k13 : chkF Tryd.prog 13 1 [2] c13 = true := by kernel_rfl

/- sloperef1.Uint: arguments 1, results in [2, 3]; slots in use where its loops begin: [] -/
def c6 : MC := .seq (.ops [ .op (some 2) none (.p (.mv (.i .u64 (0)))), .op (some 3) none (.p (.mv (.b false))), .gh (.drop [2, 3])]) (.seq (.seq (.ops [ .op (some 5) none (.p (.mv (.t 0))), .op (some 6) none (.call 8 [(.t 5)]), .op (some 7) none (.p (.un .not (.t 6))), .op (some 8) none (.p (.mv (.t 7))), .op (some 9) (some (8, false)) (.p (.mv (.t 0))), .op (some 10) (some (8, false)) (.p (.len (.t 9))), .op (some 11) (some (8, false)) (.p (.bin .gtr (.t 10) (.i .i64 (2)))), .op (some 12) none (.pick (.t 8) (.b true) (.t 11)), .gh (.drop [5, 6, 7, 8, 9, 10, 11])]) (.cond (.t 12) (.seq (.ops [ .op (some 2) none (.p (.mv (.i .u64 (0)))), .op (some 3) none (.p (.mv (.b false)))]) (.ret)) (.skip))) (.seq (.ops [ .op (some 4) none (.p (.mv (.i .u64 (0))))]) (.seq (.seq (.ops [ .op (some 13) none (.p (.mv (.t 0))), .op (some 14) none (.p (.len (.t 13))), .op (some 15) none (.p (.bin .gtr (.t 14) (.i .i64 (1)))), .gh (.drop [13, 14])]) (.cond (.t 15) (.ops [ .op (some 16) none (.p (.mv (.t 0))), .op (some 17) none (.p (.ia 1 (.t 16) (.i .i64 (1)))), .op (some 18) none (.p (.ld 1 false (.t 17))), .op (some 19) none (.p (.cv .u64 (.t 18))), .op (some 20) none (.p (.bin .shl (.t 19) (.i .u64 (32)))), .op (some 4) none (.p (.mv (.t 20))), .gh (.drop [16, 17, 18, 19, 20])]) (.skip))) (.seq (.seq (.ops [ .op (some 21) none (.p (.mv (.t 0))), .op (some 22) none (.p (.len (.t 21))), .op (some 23) none (.p (.bin .gtr (.t 22) (.i .i64 (0)))), .gh (.drop [21, 22])]) (.cond (.t 23) (.ops [ .op (some 24) none (.p (.mv (.t 4))), .op (some 25) none (.p (.mv (.t 0))), .op (some 26) none (.p (.ia 1 (.t 25) (.i .i64 (0)))), .op (some 27) none (.p (.ld 1 false (.t 26))), .op (some 28) none (.p (.cv .u64 (.t 27))), .op (some 29) none (.p (.bin .add (.t 24) (.t 28))), .op (some 4) none (.p (.mv (.t 29))), .gh (.drop [0, 24, 25, 26, 27, 28, 29])]) (.skip))) (.seq (.ops [ .op (some 30) none (.p (.mv (.t 4))), .op (some 2) none (.p (.mv (.t 30))), .op (some 3) none (.p (.mv (.b true))), .gh (.drop [4, 30])]) (.ret))))))
theorem k6 : chkF Tryd.prog 6 1 [2, 3] c6 = true := by kernel_rfl

/- sloperef1.Ones: arguments 1, results in [2]; slots in use where its loops begin: [[0, 3, 4]] -/
def c12 : MC := .seq (.ops [ .op (some 2) none (.p (.mv (.i .i64 (0)))), .gh (.drop [2])]) (.seq (.ops [ .op (some 3) none (.p (.mv (.i .i64 (0))))]) (.seq (.seq (.ops [ .op (some 5) none (.p (.mv (.t 0))), .op (some 6) none (.call 8 [(.t 5)]), .op (some 7) none (.p (.un .not (.t 6))), .gh (.drop [5, 6])]) (.cond (.t 7) (.seq (.ops [ .op (some 8) none (.p (.mv (.t 3))), .op (some 2) none (.p (.mv (.t 8))), .gh (.drop [3, 8])]) (.ret)) (.skip))) (.seq (.seq (.ops [ .op (some 4) none (.p (.mv (.i .i64 (0))))]) (.cut (.block 0 (.loop (.seq (.seq (.ops [ .op (some 9) none (.p (.mv (.t 4))), .op (some 10) none (.p (.mv (.t 0))), .op (some 11) none (.p (.len (.t 10))), .op (some 12) none (.p (.bin .mul (.i .i64 (32)) (.t 11))), .op (some 13) none (.p (.bin .lss (.t 9) (.t 12))), .gh (.drop [9, 10, 11, 12])]) (.cond (.t 13) (.skip) (.exit 0))) (.seq (.block 1 (.ops [ .op (some 16) none (.p (.mv (.t 3))), .op (some 17) none (.p (.mv (.t 0))), .op (some 18) none (.p (.mv (.t 4))), .op (some 19) none (.call 16 [(.t 17), (.t 18)]), .op (some 20) none (.p (.bin .add (.t 16) (.t 19))), .op (some 3) none (.p (.mv (.t 20))), .gh (.drop [16, 17, 18, 19, 20])])) (.ops [ .op (some 14) none (.p (.mv (.t 4))), .op (some 15) none (.p (.bin .add (.t 14) (.i .i64 (1)))), .op (some 4) none (.p (.mv (.t 15))), .gh (.drop [14, 15])]))))))) (.seq (.ops [ .op (some 21) none (.p (.mv (.t 3))), .op (some 2) none (.p (.mv (.t 21))), .gh (.drop [3, 21])]) (.ret)))))
theorem k12 : chkF Tryd.prog 12 1 [2] c12 = true := by kernel_rfl

/- sloperef1.Tail: arguments 1, results in [2]; slots in use where its loops begin: [[0, 3]] -/
def c14 : MC := .seq (.ops [ .op (some 2) none (.p (.mv (.i .i64 (0)))), .gh (.drop [2])]) (.seq (.seq (.ops [ .op (some 4) none (.p (.mv (.t 0))), .op (some 5) none (.call 8 [(.t 4)]), .op (some 6) none (.p (.un .not (.t 5))), .gh (.drop [4, 5])]) (.cond (.t 6) (.seq (.ops [ .op (some 2) none (.p (.mv (.i .i64 (0))))]) (.ret)) (.skip))) (.seq (.seq (.ops [ .op (some 3) none (.p (.mv (.i .i64 (0))))]) (.cut (.block 0 (.loop (.seq (.seq (.ops [ .op (some 7) none (.p (.mv (.t 3))), .op (some 8) none (.p (.mv (.t 0))), .op (some 9) none (.p (.len (.t 8))), .op (some 10) none (.p (.bin .mul (.i .i64 (32)) (.t 9))), .op (some 11) none (.p (.bin .lss (.t 7) (.t 10))), .gh (.drop [7, 8, 9, 10])]) (.cond (.t 11) (.skip) (.exit 0))) (.seq (.block 1 (.seq (.ops [ .op (some 14) none (.p (.mv (.t 0))), .op (some 15) none (.p (.mv (.t 3))), .op (some 16) none (.call 16 [(.t 14), (.t 15)]), .op (some 17) none (.p (.bin .eql (.t 16) (.i .i64 (1)))), .gh (.drop [14, 15, 16])]) (.cond (.t 17) (.seq (.ops [ .op (some 18) none (.p (.mv (.t 3))), .op (some 2) none (.p (.mv (.t 18))), .gh (.drop [3, 18])]) (.ret)) (.skip)))) (.ops [ .op (some 12) none (.p (.mv (.t 3))), .op (some 13) none (.p (.bin .add (.t 12) (.i .i64 (1)))), .op (some 3) none (.p (.mv (.t 13))), .gh (.drop [12, 13])]))))))) (.seq (.ops [ .op (some 2) none (.p (.mv (.i .i64 (0))))]) (.ret))))
theorem k14 : chkF Tryd.prog 14 1 [2] c14 = true := by kernel_rfl



def bitZ (n : List Int) (i : Int) : Int := if may n ∧ 0 ≤ i then bitL n i.toNat else 0

theorem bit_of {n : List Int} (ln : lim n) {i e : Int} (h0 : 0 ≤ i) (he : n[(i / 32).toNat]? = some e) :
    0 ≤ e / 2 ^ (if (i % 32).toNat ≤ 32 then (i % 32).toNat else 32) ∧ (((e / 2 ^ (if (i % 32).toNat ≤ 32 then (i % 32).toNat else 32)).toNat &&& 1 : Nat) : Int) = bitL n i.toNat := by
  have hE := ln.get he
  rw [if_pos (show (i % 32).toNat ≤ 32 by omega)]
  have hq : 0 ≤ e / 2 ^ (i % 32).toNat := Int.ediv_nonneg hE.1 (Int.pow_nonneg (by omega))
  refine ⟨hq, ?_⟩
  rw [Nat.and_one_is_mod, bitL, show i.toNat / 32 = (i / 32).toNat by omega, show i.toNat % 32 = (i % 32).toNat by omega, getD_of he]
  omega

theorem natural_Bit (fr : Bool) (n : List Int) (i : Int) : FSpec0 Tryd.prog 15 [uL fr n, .int .i64 i] (fun r => r = .int .i64 (bitZ n i)) := by
  refine FSpec0.of_facts fun hf => fspec0_of_run k15 ?_
  have ln : lim n := lim_of_factL hf.1
  have hi : inK .i64 i := hf.2.1
  simp only [inK] at hi
  simp only [uL, c15, W1, W2, W3, popTo, memb, res, wres, env0, byteAt, optI, cutB, cutL, sliceR, strR, ldCells, ldR, iaR, faR, lenR, lenSR, ixR, exR, nchkR, mxR, csR, up, ZV.av, ZV.fit, zfits, fits, fitsL, cellsOf, down, downL, downLL, stR, mkR, bsR, boxR, alR, apR, cpR, srcQ, solid, killC, killV, killE, killO, killH, hget, hset, hdel, pubV, pubC, pubO, renV, renC, renO, reduceIte, reduceCtorEq, Nat.reduceEqDiff, Nat.reduceLT, Nat.reduceAdd, Int.reduceToNat, Nat.reduceLeDiff, Int.reducePow, Int.reduceLE, Int.reduceLT]
  refine call1 (natural_May fr n) (by repeat (first | exact subs_nil | refine subs_int ?_ | refine subs_ro ?_ | refine subs_bool ?_ | refine subs_str ?_ | refine subs_nilro ?_ | refine subs_lits rfl ?_ | refine subs_all rfl rfl (by simp) ?_ | refine subs_own rfl rfl ?_ | refine subs_fn ?_)) ?_
  simp only [uL, W1, W2, W3, popTo, memb, res, wres, env0, byteAt, optI, cutB, cutL, sliceR, strR, ldCells, ldR, iaR, faR, lenR, lenSR, ixR, exR, nchkR, mxR, csR, up, ZV.av, ZV.fit, zfits, fits, fitsL, cellsOf, down, downL, downLL, stR, mkR, bsR, boxR, alR, apR, cpR, srcQ, solid, killC, killV, killE, killO, killH, hget, hset, hdel, pubV, pubC, pubO, renV, renC, renO, reduceIte, reduceCtorEq, Nat.reduceEqDiff, Nat.reduceLT, Nat.reduceAdd, Int.reduceToNat, Nat.reduceLeDiff, Int.reducePow, Int.reduceLE, Int.reduceLT]
  refine ⟨fun h => ret1' (by rw [bitZ, if_neg (fun h' => h h'.1)]; simp only [retR, retA, retL, ret1, ret1L, eget, hget, hset, St.set, eset, List.map_cons, List.map_nil, reduceIte, reduceCtorEq, Nat.reduceEqDiff, Nat.reduceLT, true_and, and_true, false_or, or_true, true_or, List.drop_zero, List.take_length, scalE_I, scalE_B, scalE_S]), fun h => ?_⟩
  have hm := Classical.not_not.1 h
  refine ⟨fun h1 => ret1' (by rw [bitZ, if_neg (fun h' => by omega)]; simp only [retR, retA, retL, ret1, ret1L, eget, hget, hset, St.set, eset, List.map_cons, List.map_nil, reduceIte, reduceCtorEq, Nat.reduceEqDiff, Nat.reduceLT, true_and, and_true, false_or, or_true, true_or, List.drop_zero, List.take_length, scalE_I, scalE_B, scalE_S]), fun h1 _ => ⟨by omega, fun _ => ⟨fun h2 => ret1' ?_, fun h2 _ => ⟨by omega, by omega, fun e he _ => ⟨by omega, fun _ => ⟨by omega, fun _ => ?_⟩⟩⟩⟩⟩⟩
  · rw [bitZ, if_pos ⟨hm, by omega⟩, bitL, getD_out (show ¬ ((i.toNat / 32 : Nat) : Int) < n.length by omega)]
    simp only [Int.zero_ediv, retR, retA, retL, ret1, ret1L, eget, hget, hset, St.set, eset, List.map_cons, List.map_nil, reduceIte, reduceCtorEq, Nat.reduceEqDiff, Nat.reduceLT, true_and, and_true, false_or, or_true, true_or, List.drop_zero, List.take_length, scalE_I, scalE_B, scalE_S]; rfl
  · obtain ⟨e1, e2⟩ := bit_of ln (show 0 ≤ i by omega) he
    refine ⟨e1, fun _ => ret1' ?_⟩
    rw [e2, bitZ, if_pos ⟨hm, by omega⟩]
    simp only [retR, retA, retL, ret1, ret1L, eget, hget, hset, St.set, eset, List.map_cons, List.map_nil, reduceIte, reduceCtorEq, Nat.reduceEqDiff, Nat.reduceLT, true_and, and_true, false_or, or_true, true_or, List.drop_zero, List.take_length, scalE_I, scalE_B, scalE_S]

theorem sloperef1_BitZ (fr : Bool) (n : List Int) (i : Int) : FSpec0 Tryd.prog 16 [uL fr n, .int .i64 i] (fun r => r = .int .i64 (bitZ n i)) := by
  refine FSpec0.of_facts fun hf => fspec0_of_run k16 ?_
  have ln : lim n := lim_of_factL hf.1
  have hi : inK .i64 i := hf.2.1
  simp only [inK] at hi
  simp only [uL, c16, W1, W2, W3, popTo, memb, res, wres, env0, byteAt, optI, cutB, cutL, sliceR, strR, ldCells, ldR, iaR, faR, lenR, lenSR, ixR, exR, nchkR, mxR, csR, up, ZV.av, ZV.fit, zfits, fits, fitsL, cellsOf, down, downL, downLL, stR, mkR, bsR, boxR, alR, apR, cpR, srcQ, solid, killC, killV, killE, killO, killH, hget, hset, hdel, pubV, pubC, pubO, renV, renC, renO, reduceIte, reduceCtorEq, Nat.reduceEqDiff, Nat.reduceLT, Nat.reduceAdd, Int.reduceToNat, Nat.reduceLeDiff, Int.reducePow, Int.reduceLE, Int.reduceLT]
  refine call1 (sloperef1_May fr n) (by repeat (first | exact subs_nil | refine subs_int ?_ | refine subs_ro ?_ | refine subs_bool ?_ | refine subs_str ?_ | refine subs_nilro ?_ | refine subs_lits rfl ?_ | refine subs_all rfl rfl (by simp) ?_ | refine subs_own rfl rfl ?_ | refine subs_fn ?_)) ?_
  simp only [uL, W1, W2, W3, popTo, memb, res, wres, env0, byteAt, optI, cutB, cutL, sliceR, strR, ldCells, ldR, iaR, faR, lenR, lenSR, ixR, exR, nchkR, mxR, csR, up, ZV.av, ZV.fit, zfits, fits, fitsL, cellsOf, down, downL, downLL, stR, mkR, bsR, boxR, alR, apR, cpR, srcQ, solid, killC, killV, killE, killO, killH, hget, hset, hdel, pubV, pubC, pubO, renV, renC, renO, reduceIte, reduceCtorEq, Nat.reduceEqDiff, Nat.reduceLT, Nat.reduceAdd, Int.reduceToNat, Nat.reduceLeDiff, Int.reducePow, Int.reduceLE, Int.reduceLT]
  refine ⟨fun h => ret1' (by rw [bitZ, if_neg (fun h' => h h'.1)]; simp only [retR, retA, retL, ret1, ret1L, eget, hget, hset, St.set, eset, List.map_cons, List.map_nil, reduceIte, reduceCtorEq, Nat.reduceEqDiff, Nat.reduceLT, true_and, and_true, false_or, or_true, true_or, List.drop_zero, List.take_length, scalE_I, scalE_B, scalE_S]), fun h => ?_⟩
  have hm := Classical.not_not.1 h
  refine ⟨fun h1 => ret1' (by rw [bitZ, if_neg (fun h' => by omega)]; simp only [retR, retA, retL, ret1, ret1L, eget, hget, hset, St.set, eset, List.map_cons, List.map_nil, reduceIte, reduceCtorEq, Nat.reduceEqDiff, Nat.reduceLT, true_and, and_true, false_or, or_true, true_or, List.drop_zero, List.take_length, scalE_I, scalE_B, scalE_S]), fun h1 _ => ⟨by omega, fun _ => ⟨fun h2 => ret1' ?_, fun h2 _ => ⟨by omega, by omega, fun e he _ => ⟨by omega, ?_⟩⟩⟩⟩⟩
  · rw [bitZ, if_pos ⟨hm, by omega⟩, bitL, getD_out (show ¬ ((i.toNat / 32 : Nat) : Int) < n.length by omega)]
    simp only [Int.zero_ediv, retR, retA, retL, ret1, ret1L, eget, hget, hset, St.set, eset, List.map_cons, List.map_nil, reduceIte, reduceCtorEq, Nat.reduceEqDiff, Nat.reduceLT, true_and, and_true, false_or, or_true, true_or, List.drop_zero, List.take_length, scalE_I, scalE_B, scalE_S]; rfl
  · rw [show (i % 32 % 18446744073709551616) = i % 32 by omega]
    obtain ⟨e1, e2⟩ := bit_of ln (show 0 ≤ i by omega) he
    rw [e2]
    refine fun _ => ⟨by omega, fun _ => ⟨e1, fun _ => ret1' ?_⟩⟩
    rw [bitZ, if_pos ⟨hm, by omega⟩]
    simp only [retR, retA, retL, ret1, ret1L, eget, hget, hset, St.set, eset, List.map_cons, List.map_nil, reduceIte, reduceCtorEq, Nat.reduceEqDiff, Nat.reduceLT, true_and, and_true, false_or, or_true, true_or, List.drop_zero, List.take_length, scalE_I, scalE_B, scalE_S]

theorem natural_Tail (fr : Bool) (n : List Int) : FSpec0 Tryd.prog 13 [uL fr n] (fun r => r = .int .i64 (tailR n)) := by
  refine FSpec0.of_facts fun hf => fspec0_of_run k13 ?_
  have ln : lim n := lim_of_factL hf.1
  simp only [uL, c13, W1, W2, W3, popTo, memb, res, wres, env0, byteAt, optI, cutB, cutL, sliceR, strR, ldCells, ldR, iaR, faR, lenR, lenSR, ixR, exR, nchkR, mxR, csR, up, ZV.av, ZV.fit, zfits, fits, fitsL, cellsOf, down, downL, downLL, stR, mkR, bsR, boxR, alR, apR, cpR, srcQ, solid, killC, killV, killE, killO, killH, hget, hset, hdel, pubV, pubC, pubO, renV, renC, renO, reduceIte, reduceCtorEq, Nat.reduceEqDiff, Nat.reduceLT, Nat.reduceAdd, Int.reduceToNat, Nat.reduceLeDiff, Int.reducePow, Int.reduceLE, Int.reduceLT]
  refine call1 (natural_May fr n) (by repeat (first | exact subs_nil | refine subs_int ?_ | refine subs_ro ?_ | refine subs_bool ?_ | refine subs_str ?_ | refine subs_nilro ?_ | refine subs_lits rfl ?_ | refine subs_all rfl rfl (by simp) ?_ | refine subs_own rfl rfl ?_ | refine subs_fn ?_)) ?_
  simp only [uL, W1, W2, W3, popTo, memb, res, wres, env0, byteAt, optI, cutB, cutL, sliceR, strR, ldCells, ldR, iaR, faR, lenR, lenSR, ixR, exR, nchkR, mxR, csR, up, ZV.av, ZV.fit, zfits, fits, fitsL, cellsOf, down, downL, downLL, stR, mkR, bsR, boxR, alR, apR, cpR, srcQ, solid, killC, killV, killE, killO, killH, hget, hset, hdel, pubV, pubC, pubO, renV, renC, renO, reduceIte, reduceCtorEq, Nat.reduceEqDiff, Nat.reduceLT, Nat.reduceAdd, Int.reduceToNat, Nat.reduceLeDiff, Int.reducePow, Int.reduceLE, Int.reduceLT]
  refine ⟨fun hm _ => ?_, fun h => ret1' (by rw [tailR, if_neg h]; simp only [retR, retA, retL, ret1, ret1L, eget, hget, hset, St.set, eset, List.map_cons, List.map_nil, reduceIte, reduceCtorEq, Nat.reduceEqDiff, Nat.reduceLT, true_and, and_true, false_or, or_true, true_or, List.drop_zero, List.take_length, scalE_I, scalE_B, scalE_S])⟩
  rw [tailR, if_pos hm]
  have hl := hm.1
  refine cut_intro (fun st => (∀ x, x ∈ n → x = 0) ∧ st = ⟨[], []⟩) ?_ ?_
  · simp only [W1, W2, W3, popTo, memb, res, wres, env0, byteAt, optI, cutB, cutL, sliceR, strR, ldCells, ldR, iaR, faR, lenR, lenSR, ixR, exR, nchkR, mxR, csR, up, ZV.av, ZV.fit, zfits, fits, fitsL, cellsOf, down, downL, downLL, stR, mkR, bsR, boxR, alR, apR, cpR, srcQ, solid, killC, killV, killE, killO, killH, hget, hset, hdel, pubV, pubC, pubO, renV, renC, renO, reduceIte, reduceCtorEq, Nat.reduceEqDiff, Nat.reduceLT, Nat.reduceAdd, Int.reduceToNat, Nat.reduceLeDiff, Int.reducePow, Int.reduceLE, Int.reduceLT]
    refine loop_intro (fun m st => ∃ i : Nat, i ≤ n.length ∧ m = n.length - i ∧ (∀ x, x ∈ n.take i → x = 0) ∧ st = ⟨[(7, uL fr n), (8, .int .i64 n.length), (9, .int .i64 i)], []⟩) n.length
      [(7, uL fr n), (8, .int .i64 n.length), (9, .int .i64 (0 : Nat))] (by simp [eget, uL]) ⟨0, by omega, by omega, by simp, rfl⟩ ?_
    rintro m st ⟨i, hi, rfl, hz, rfl⟩
    simp only [uL, W1, W2, W3, popTo, memb, res, wres, env0, byteAt, optI, cutB, cutL, sliceR, strR, ldCells, ldR, iaR, faR, lenR, lenSR, ixR, exR, nchkR, mxR, csR, up, ZV.av, ZV.fit, zfits, fits, fitsL, cellsOf, down, downL, downLL, stR, mkR, bsR, boxR, alR, apR, cpR, srcQ, solid, killC, killV, killE, killO, killH, hget, hset, hdel, pubV, pubC, pubO, renV, renC, renO, reduceIte, reduceCtorEq, Nat.reduceEqDiff, Nat.reduceLT, Nat.reduceAdd, Int.reduceToNat, Nat.reduceLeDiff, Int.reducePow, Int.reduceLE, Int.reduceLT]
    refine ⟨fun h0 => ⟨by omega, fun e he => ⟨fun h1 => ⟨by omega, ?_⟩, fun h1 => ⟨by omega, ?_⟩⟩⟩, fun h0 => join_intro _ (by simp) ⟨by rw [List.take_of_length_le (by omega)] at hz; exact hz, rfl⟩⟩
    · refine call1 (bits_TrailingZeros32 e) (by repeat (first | exact subs_nil | refine subs_int ?_ | refine subs_ro ?_ | refine subs_bool ?_ | refine subs_str ?_ | refine subs_nilro ?_ | refine subs_lits rfl ?_ | refine subs_all rfl rfl (by simp) ?_ | refine subs_own rfl rfl ?_ | refine subs_fn ?_)) ?_
      have hE := ln.get he
      have ht := tzF_lt (k := 32) (x := e.toNat) (by omega) (by omega)
      have hk := tailL_at ln i e he h1 hz
      rw [tzR, if_neg h1]
      simp only [uL, W1, W2, W3, popTo, memb, res, wres, env0, byteAt, optI, cutB, cutL, sliceR, strR, ldCells, ldR, iaR, faR, lenR, lenSR, ixR, exR, nchkR, mxR, csR, up, ZV.av, ZV.fit, zfits, fits, fitsL, cellsOf, down, downL, downLL, stR, mkR, bsR, boxR, alR, apR, cpR, srcQ, solid, killC, killV, killE, killO, killH, hget, hset, hdel, pubV, pubC, pubO, renV, renC, renO, reduceIte, reduceCtorEq, Nat.reduceEqDiff, Nat.reduceLT, Nat.reduceAdd, Int.reduceToNat, Nat.reduceLeDiff, Int.reducePow, Int.reduceLE, Int.reduceLT]
      refine ⟨by omega, ret1' ?_⟩
      rw [hk]
      simp only [retR, retA, retL, ret1, ret1L, eget, hget, hset, St.set, eset, List.map_cons, List.map_nil, reduceIte, reduceCtorEq, Nat.reduceEqDiff, Nat.reduceLT, true_and, and_true, false_or, or_true, true_or, List.drop_zero, List.take_length, scalE_I, scalE_B, scalE_S]
    · refine back_intro [(7, uL fr n), (8, .int .i64 n.length), (9, .int .i64 ((i + 1 : Nat) : Int))] (by simp [eget, uL]) (by omega) ⟨i + 1, by omega, rfl, fun x hx => ?_, rfl⟩
      rw [take_step he] at hx
      rcases List.mem_append.1 hx with h2 | h2
      · exact hz x h2
      · rw [List.mem_singleton.1 h2]; omega
  rintro st ⟨hz, rfl⟩
  simp only [W1, W2, W3, popTo, memb, res, wres, env0, byteAt, optI, cutB, cutL, sliceR, strR, ldCells, ldR, iaR, faR, lenR, lenSR, ixR, exR, nchkR, mxR, csR, up, ZV.av, ZV.fit, zfits, fits, fitsL, cellsOf, down, downL, downLL, stR, mkR, bsR, boxR, alR, apR, cpR, srcQ, solid, killC, killV, killE, killO, killH, hget, hset, hdel, pubV, pubC, pubO, renV, renC, renO, reduceIte, reduceCtorEq, Nat.reduceEqDiff, Nat.reduceLT, Nat.reduceAdd, Int.reduceToNat, Nat.reduceLeDiff, Int.reducePow, Int.reduceLE, Int.reduceLT]
  exact ret1' (by rw [tailL_zero hz]; simp only [retR, retA, retL, ret1, ret1L, eget, hget, hset, St.set, eset, List.map_cons, List.map_nil, reduceIte, reduceCtorEq, Nat.reduceEqDiff, Nat.reduceLT, true_and, and_true, false_or, or_true, true_or, List.drop_zero, List.take_length, scalE_I, scalE_B, scalE_S])

theorem sloperef1_Uint (fr : Bool) (xs : List Int) : FSpec0 Tryd.prog 6 [uL fr xs] (fun r => r = if may xs ∧ xs.length ≤ 2 then .tup [.int .u64 (val xs), .bool true] else .tup [.int .u64 0, .bool false]) := by
  refine FSpec0.of_facts fun hf => fspec0_of_run k6 ?_
  have ln : lim xs := lim_of_factL hf.1
  simp only [uL, c6, W1, W2, W3, popTo, memb, res, wres, env0, byteAt, optI, cutB, cutL, sliceR, strR, ldCells, ldR, iaR, faR, lenR, lenSR, ixR, exR, nchkR, mxR, csR, up, ZV.av, ZV.fit, zfits, fits, fitsL, cellsOf, down, downL, downLL, stR, mkR, bsR, boxR, alR, apR, cpR, srcQ, solid, killC, killV, killE, killO, killH, hget, hset, hdel, pubV, pubC, pubO, renV, renC, renO, reduceIte, reduceCtorEq, Nat.reduceEqDiff, Nat.reduceLT, Nat.reduceAdd, Int.reduceToNat, Nat.reduceLeDiff, Int.reducePow, Int.reduceLE, Int.reduceLT]
  refine call1 (sloperef1_May fr xs) (by repeat (first | exact subs_nil | refine subs_int ?_ | refine subs_ro ?_ | refine subs_bool ?_ | refine subs_str ?_ | refine subs_nilro ?_ | refine subs_lits rfl ?_ | refine subs_all rfl rfl (by simp) ?_ | refine subs_own rfl rfl ?_ | refine subs_fn ?_)) ?_
  simp only [uL, W1, W2, W3, popTo, memb, res, wres, env0, byteAt, optI, cutB, cutL, sliceR, strR, ldCells, ldR, iaR, faR, lenR, lenSR, ixR, exR, nchkR, mxR, csR, up, ZV.av, ZV.fit, zfits, fits, fitsL, cellsOf, down, downL, downLL, stR, mkR, bsR, boxR, alR, apR, cpR, srcQ, solid, killC, killV, killE, killO, killH, hget, hset, hdel, pubV, pubC, pubO, renV, renC, renO, reduceIte, reduceCtorEq, Nat.reduceEqDiff, Nat.reduceLT, Nat.reduceAdd, Int.reduceToNat, Nat.reduceLeDiff, Int.reducePow, Int.reduceLE, Int.reduceLT]
  refine ⟨fun h => ret1' (by rw [if_neg (fun h' => h h'.1)]; simp only [retR, retA, retL, ret1, ret1L, eget, hget, hset, St.set, eset, List.map_cons, List.map_nil, reduceIte, reduceCtorEq, Nat.reduceEqDiff, Nat.reduceLT, true_and, and_true, false_or, or_true, true_or, List.drop_zero, List.take_length, scalE_I, scalE_B, scalE_S]), fun h _ => ⟨fun h2 => ret1' (by rw [if_neg (fun h' => by omega)]; simp only [retR, retA, retL, ret1, ret1L, eget, hget, hset, St.set, eset, List.map_cons, List.map_nil, reduceIte, reduceCtorEq, Nat.reduceEqDiff, Nat.reduceLT, true_and, and_true, false_or, or_true, true_or, List.drop_zero, List.take_length, scalE_I, scalE_B, scalE_S]), fun h2 => ?_⟩⟩
  have hm := Classical.not_not.1 h
  rw [if_pos ⟨hm, by omega⟩]
  refine fun _ => ⟨fun h3 => ⟨h3, fun e he _ _ => ⟨fun h4 => ⟨h4, fun e' he' _ => ret1' ?_⟩, fun h4 => absurd (by omega) h4⟩⟩, fun h3 _ => ⟨fun h4 => ⟨h4, fun e he _ => ret1' ?_⟩, fun h4 => ret1' ?_⟩⟩
  · have E := ln.get he
    have E' := ln.get he'
    have hv : val xs = e' + 4294967296 * e := by
      match xs, h2, h3, he, he' with
      | [x, y], _, _, he, he' => simp at he he'; subst he he'; simp [val]
      | [], _, h3, _, _ => simp at h3
      | [x], _, h3, _, _ => simp at h3
      | x :: y :: z :: t, h2, _, _, _ => simp at h2; omega
    rw [hv, show (e * 4294967296 % 18446744073709551616 + e') % 18446744073709551616 = e' + 4294967296 * e by omega]
    simp only [retR, retA, retL, ret1, ret1L, eget, hget, hset, St.set, eset, List.map_cons, List.map_nil, reduceIte, reduceCtorEq, Nat.reduceEqDiff, Nat.reduceLT, true_and, and_true, false_or, or_true, true_or, List.drop_zero, List.take_length, scalE_I, scalE_B, scalE_S]
  · have E := ln.get he
    have hv : val xs = e := by
      match xs, h3, h4, he with
      | [x], _, _, he => simp at he; subst he; simp [val]
      | [], _, h4, _ => simp at h4
      | x :: y :: t, h3, _, _ => simp at h3; omega
    rw [hv, show (0 + e) % 18446744073709551616 = e by omega]
    simp only [retR, retA, retL, ret1, ret1L, eget, hget, hset, St.set, eset, List.map_cons, List.map_nil, reduceIte, reduceCtorEq, Nat.reduceEqDiff, Nat.reduceLT, true_and, and_true, false_or, or_true, true_or, List.drop_zero, List.take_length, scalE_I, scalE_B, scalE_S]
  · have hv : val xs = 0 := by rw [List.eq_nil_of_length_eq_zero (show xs.length = 0 by omega)]; rfl
    rw [hv]
    simp only [retR, retA, retL, ret1, ret1L, eget, hget, hset, St.set, eset, List.map_cons, List.map_nil, reduceIte, reduceCtorEq, Nat.reduceEqDiff, Nat.reduceLT, true_and, and_true, false_or, or_true, true_or, List.drop_zero, List.take_length, scalE_I, scalE_B, scalE_S]

theorem sloperef1_Ones (fr : Bool) (n : List Int) : FSpec0 Tryd.prog 12 [uL fr n] (fun r => r = .int .i64 (onesR n)) := by
  refine FSpec0.of_facts fun hf => fspec0_of_run k12 ?_
  have ln : lim n := lim_of_factL hf.1
  simp only [uL, c12, W1, W2, W3, popTo, memb, res, wres, env0, byteAt, optI, cutB, cutL, sliceR, strR, ldCells, ldR, iaR, faR, lenR, lenSR, ixR, exR, nchkR, mxR, csR, up, ZV.av, ZV.fit, zfits, fits, fitsL, cellsOf, down, downL, downLL, stR, mkR, bsR, boxR, alR, apR, cpR, srcQ, solid, killC, killV, killE, killO, killH, hget, hset, hdel, pubV, pubC, pubO, renV, renC, renO, reduceIte, reduceCtorEq, Nat.reduceEqDiff, Nat.reduceLT, Nat.reduceAdd, Int.reduceToNat, Nat.reduceLeDiff, Int.reducePow, Int.reduceLE, Int.reduceLT]
  refine call1 (sloperef1_May fr n) (by repeat (first | exact subs_nil | refine subs_int ?_ | refine subs_ro ?_ | refine subs_bool ?_ | refine subs_str ?_ | refine subs_nilro ?_ | refine subs_lits rfl ?_ | refine subs_all rfl rfl (by simp) ?_ | refine subs_own rfl rfl ?_ | refine subs_fn ?_)) ?_
  simp only [uL, W1, W2, W3, popTo, memb, res, wres, env0, byteAt, optI, cutB, cutL, sliceR, strR, ldCells, ldR, iaR, faR, lenR, lenSR, ixR, exR, nchkR, mxR, csR, up, ZV.av, ZV.fit, zfits, fits, fitsL, cellsOf, down, downL, downLL, stR, mkR, bsR, boxR, alR, apR, cpR, srcQ, solid, killC, killV, killE, killO, killH, hget, hset, hdel, pubV, pubC, pubO, renV, renC, renO, reduceIte, reduceCtorEq, Nat.reduceEqDiff, Nat.reduceLT, Nat.reduceAdd, Int.reduceToNat, Nat.reduceLeDiff, Int.reducePow, Int.reduceLE, Int.reduceLT]
  refine ⟨fun h => ret1' (by rw [onesR, if_neg h]; simp only [retR, retA, retL, ret1, ret1L, eget, hget, hset, St.set, eset, List.map_cons, List.map_nil, reduceIte, reduceCtorEq, Nat.reduceEqDiff, Nat.reduceLT, true_and, and_true, false_or, or_true, true_or, List.drop_zero, List.take_length, scalE_I, scalE_B, scalE_S]), fun h => ?_⟩
  have hm := Classical.not_not.1 h
  have hl := hm.1
  rw [onesR, if_pos hm]
  refine cut_intro (fun st => st = ⟨[(3, .int .i64 (onesL n))], []⟩) ?_ ?_
  · simp only [W1, W2, W3, popTo, memb, res, wres, env0, byteAt, optI, cutB, cutL, sliceR, strR, ldCells, ldR, iaR, faR, lenR, lenSR, ixR, exR, nchkR, mxR, csR, up, ZV.av, ZV.fit, zfits, fits, fitsL, cellsOf, down, downL, downLL, stR, mkR, bsR, boxR, alR, apR, cpR, srcQ, solid, killC, killV, killE, killO, killH, hget, hset, hdel, pubV, pubC, pubO, renV, renC, renO, reduceIte, reduceCtorEq, Nat.reduceEqDiff, Nat.reduceLT, Nat.reduceAdd, Int.reduceToNat, Nat.reduceLeDiff, Int.reducePow, Int.reduceLE, Int.reduceLT]
    refine loop_intro (fun m st => ∃ i : Nat, i ≤ 32 * n.length ∧ m = 32 * n.length - i ∧ st = ⟨[(0, uL fr n), (3, .int .i64 (sumB n i)), (4, .int .i64 i)], []⟩) (32 * n.length)
      [(0, uL fr n), (3, .int .i64 0), (4, .int .i64 (0 : Nat))] (by simp [eget, uL]) ⟨0, by omega, by omega, by simp [sumB]⟩ ?_
    rintro m st ⟨i, hi, rfl, rfl⟩
    simp only [uL, W1, W2, W3, popTo, memb, res, wres, env0, byteAt, optI, cutB, cutL, sliceR, strR, ldCells, ldR, iaR, faR, lenR, lenSR, ixR, exR, nchkR, mxR, csR, up, ZV.av, ZV.fit, zfits, fits, fitsL, cellsOf, down, downL, downLL, stR, mkR, bsR, boxR, alR, apR, cpR, srcQ, solid, killC, killV, killE, killO, killH, hget, hset, hdel, pubV, pubC, pubO, renV, renC, renO, reduceIte, reduceCtorEq, Nat.reduceEqDiff, Nat.reduceLT, Nat.reduceAdd, Int.reduceToNat, Nat.reduceLeDiff, Int.reducePow, Int.reduceLE, Int.reduceLT]
    have hs := sumB_le n i
    refine fun _ => ⟨by omega, fun h0 => ?_, fun h0 => ?_⟩
    · refine call1 (sloperef1_BitZ fr n i) (by repeat (first | exact subs_nil | refine subs_int ?_ | refine subs_ro ?_ | refine subs_bool ?_ | refine subs_str ?_ | refine subs_nilro ?_ | refine subs_lits rfl ?_ | refine subs_all rfl rfl (by simp) ?_ | refine subs_own rfl rfl ?_ | refine subs_fn ?_)) ?_
      rw [bitZ, if_pos ⟨hm, by omega⟩, Int.toNat_natCast]
      simp only [uL, W1, W2, W3, popTo, memb, res, wres, env0, byteAt, optI, cutB, cutL, sliceR, strR, ldCells, ldR, iaR, faR, lenR, lenSR, ixR, exR, nchkR, mxR, csR, up, ZV.av, ZV.fit, zfits, fits, fitsL, cellsOf, down, downL, downLL, stR, mkR, bsR, boxR, alR, apR, cpR, srcQ, solid, killC, killV, killE, killO, killH, hget, hset, hdel, pubV, pubC, pubO, renV, renC, renO, reduceIte, reduceCtorEq, Nat.reduceEqDiff, Nat.reduceLT, Nat.reduceAdd, Int.reduceToNat, Nat.reduceLeDiff, Int.reducePow, Int.reduceLE, Int.reduceLT]
      have hb := bitL_range n i
      rw [← sumB_succ]
      refine ⟨by rw [sumB_succ]; omega, by omega, back_intro [(0, uL fr n), (3, .int .i64 (sumB n (i + 1))), (4, .int .i64 ((i + 1 : Nat) : Int))] (by simp [eget, uL]) (by omega) ⟨i + 1, by omega, rfl, rfl⟩⟩
    · obtain rfl : i = 32 * n.length := by omega
      rw [sumB_ones ln n.length (Nat.le_refl _), List.take_length]
      exact join_intro [(3, .int .i64 (onesL n))] (by simp [eget]) rfl
  rintro st rfl
  simp only [W1, W2, W3, popTo, memb, res, wres, env0, byteAt, optI, cutB, cutL, sliceR, strR, ldCells, ldR, iaR, faR, lenR, lenSR, ixR, exR, nchkR, mxR, csR, up, ZV.av, ZV.fit, zfits, fits, fitsL, cellsOf, down, downL, downLL, stR, mkR, bsR, boxR, alR, apR, cpR, srcQ, solid, killC, killV, killE, killO, killH, hget, hset, hdel, pubV, pubC, pubO, renV, renC, renO, reduceIte, reduceCtorEq, Nat.reduceEqDiff, Nat.reduceLT, Nat.reduceAdd, Int.reduceToNat, Nat.reduceLeDiff, Int.reducePow, Int.reduceLE, Int.reduceLT]
  exact ret1' (by simp only [retR, retA, retL, ret1, ret1L, eget, hget, hset, St.set, eset, List.map_cons, List.map_nil, reduceIte, reduceCtorEq, Nat.reduceEqDiff, Nat.reduceLT, true_and, and_true, false_or, or_true, true_or, List.drop_zero, List.take_length, scalE_I, scalE_B, scalE_S])

theorem sloperef1_Tail (fr : Bool) (n : List Int) : FSpec0 Tryd.prog 14 [uL fr n] (fun r => r = .int .i64 (tailR n)) := by
  refine FSpec0.of_facts fun hf => fspec0_of_run k14 ?_
  have ln : lim n := lim_of_factL hf.1
  simp only [uL, c14, W1, W2, W3, popTo, memb, res, wres, env0, byteAt, optI, cutB, cutL, sliceR, strR, ldCells, ldR, iaR, faR, lenR, lenSR, ixR, exR, nchkR, mxR, csR, up, ZV.av, ZV.fit, zfits, fits, fitsL, cellsOf, down, downL, downLL, stR, mkR, bsR, boxR, alR, apR, cpR, srcQ, solid, killC, killV, killE, killO, killH, hget, hset, hdel, pubV, pubC, pubO, renV, renC, renO, reduceIte, reduceCtorEq, Nat.reduceEqDiff, Nat.reduceLT, Nat.reduceAdd, Int.reduceToNat, Nat.reduceLeDiff, Int.reducePow, Int.reduceLE, Int.reduceLT]
  refine call1 (sloperef1_May fr n) (by repeat (first | exact subs_nil | refine subs_int ?_ | refine subs_ro ?_ | refine subs_bool ?_ | refine subs_str ?_ | refine subs_nilro ?_ | refine subs_lits rfl ?_ | refine subs_all rfl rfl (by simp) ?_ | refine subs_own rfl rfl ?_ | refine subs_fn ?_)) ?_
  simp only [uL, W1, W2, W3, popTo, memb, res, wres, env0, byteAt, optI, cutB, cutL, sliceR, strR, ldCells, ldR, iaR, faR, lenR, lenSR, ixR, exR, nchkR, mxR, csR, up, ZV.av, ZV.fit, zfits, fits, fitsL, cellsOf, down, downL, downLL, stR, mkR, bsR, boxR, alR, apR, cpR, srcQ, solid, killC, killV, killE, killO, killH, hget, hset, hdel, pubV, pubC, pubO, renV, renC, renO, reduceIte, reduceCtorEq, Nat.reduceEqDiff, Nat.reduceLT, Nat.reduceAdd, Int.reduceToNat, Nat.reduceLeDiff, Int.reducePow, Int.reduceLE, Int.reduceLT]
  refine ⟨fun h => ret1' (by rw [tailR, if_neg h]; simp only [retR, retA, retL, ret1, ret1L, eget, hget, hset, St.set, eset, List.map_cons, List.map_nil, reduceIte, reduceCtorEq, Nat.reduceEqDiff, Nat.reduceLT, true_and, and_true, false_or, or_true, true_or, List.drop_zero, List.take_length, scalE_I, scalE_B, scalE_S]), fun h => ?_⟩
  have hm := Classical.not_not.1 h
  have hl := hm.1
  rw [tailR, if_pos hm]
  refine cut_intro (fun st => (∀ j, j < 32 * n.length → bitL n j = 0) ∧ st = ⟨[], []⟩) ?_ ?_
  · simp only [W1, W2, W3, popTo, memb, res, wres, env0, byteAt, optI, cutB, cutL, sliceR, strR, ldCells, ldR, iaR, faR, lenR, lenSR, ixR, exR, nchkR, mxR, csR, up, ZV.av, ZV.fit, zfits, fits, fitsL, cellsOf, down, downL, downLL, stR, mkR, bsR, boxR, alR, apR, cpR, srcQ, solid, killC, killV, killE, killO, killH, hget, hset, hdel, pubV, pubC, pubO, renV, renC, renO, reduceIte, reduceCtorEq, Nat.reduceEqDiff, Nat.reduceLT, Nat.reduceAdd, Int.reduceToNat, Nat.reduceLeDiff, Int.reducePow, Int.reduceLE, Int.reduceLT]
    refine loop_intro (fun m st => ∃ i : Nat, i ≤ 32 * n.length ∧ m = 32 * n.length - i ∧ (∀ j, j < i → bitL n j = 0) ∧ st = ⟨[(0, uL fr n), (3, .int .i64 i)], []⟩) (32 * n.length)
      [(0, uL fr n), (3, .int .i64 (0 : Nat))] (by simp [eget, uL]) ⟨0, by omega, by omega, fun j hj => by omega, rfl⟩ ?_
    rintro m st ⟨i, hi, rfl, hz, rfl⟩
    simp only [uL, W1, W2, W3, popTo, memb, res, wres, env0, byteAt, optI, cutB, cutL, sliceR, strR, ldCells, ldR, iaR, faR, lenR, lenSR, ixR, exR, nchkR, mxR, csR, up, ZV.av, ZV.fit, zfits, fits, fitsL, cellsOf, down, downL, downLL, stR, mkR, bsR, boxR, alR, apR, cpR, srcQ, solid, killC, killV, killE, killO, killH, hget, hset, hdel, pubV, pubC, pubO, renV, renC, renO, reduceIte, reduceCtorEq, Nat.reduceEqDiff, Nat.reduceLT, Nat.reduceAdd, Int.reduceToNat, Nat.reduceLeDiff, Int.reducePow, Int.reduceLE, Int.reduceLT]
    refine fun _ => ⟨by omega, fun h0 => ?_, fun h0 => join_intro _ (by simp) ⟨fun j hj => hz j (by omega), rfl⟩⟩
    refine call1 (sloperef1_BitZ fr n i) (by repeat (first | exact subs_nil | refine subs_int ?_ | refine subs_ro ?_ | refine subs_bool ?_ | refine subs_str ?_ | refine subs_nilro ?_ | refine subs_lits rfl ?_ | refine subs_all rfl rfl (by simp) ?_ | refine subs_own rfl rfl ?_ | refine subs_fn ?_)) ?_
    rw [bitZ, if_pos ⟨hm, by omega⟩, Int.toNat_natCast]
    simp only [uL, W1, W2, W3, popTo, memb, res, wres, env0, byteAt, optI, cutB, cutL, sliceR, strR, ldCells, ldR, iaR, faR, lenR, lenSR, ixR, exR, nchkR, mxR, csR, up, ZV.av, ZV.fit, zfits, fits, fitsL, cellsOf, down, downL, downLL, stR, mkR, bsR, boxR, alR, apR, cpR, srcQ, solid, killC, killV, killE, killO, killH, hget, hset, hdel, pubV, pubC, pubO, renV, renC, renO, reduceIte, reduceCtorEq, Nat.reduceEqDiff, Nat.reduceLT, Nat.reduceAdd, Int.reduceToNat, Nat.reduceLeDiff, Int.reducePow, Int.reduceLE, Int.reduceLT]
    have hb := bitL_range n i
    refine ⟨fun h1 => ret1' (by rw [tail_bits ln i h1 hz]; simp only [retR, retA, retL, ret1, ret1L, eget, hget, hset, St.set, eset, List.map_cons, List.map_nil, reduceIte, reduceCtorEq, Nat.reduceEqDiff, Nat.reduceLT, true_and, and_true, false_or, or_true, true_or, List.drop_zero, List.take_length, scalE_I, scalE_B, scalE_S]), fun h1 => ⟨by omega, back_intro [(0, uL fr n), (3, .int .i64 ((i + 1 : Nat) : Int))] (by simp [eget, uL]) (by omega) ⟨i + 1, by omega, rfl, fun j hj => ?_, rfl⟩⟩⟩
    rcases (by omega : j < i ∨ j = i) with h2 | rfl
    · exact hz j h2
    · omega
  rintro st ⟨hz, rfl⟩
  simp only [W1, W2, W3, popTo, memb, res, wres, env0, byteAt, optI, cutB, cutL, sliceR, strR, ldCells, ldR, iaR, faR, lenR, lenSR, ixR, exR, nchkR, mxR, csR, up, ZV.av, ZV.fit, zfits, fits, fitsL, cellsOf, down, downL, downLL, stR, mkR, bsR, boxR, alR, apR, cpR, srcQ, solid, killC, killV, killE, killO, killH, hget, hset, hdel, pubV, pubC, pubO, renV, renC, renO, reduceIte, reduceCtorEq, Nat.reduceEqDiff, Nat.reduceLT, Nat.reduceAdd, Int.reduceToNat, Nat.reduceLeDiff, Int.reducePow, Int.reduceLE, Int.reduceLT]
  refine ret1' ?_
  have : tailL n = 0 := tailL_zero fun x hx => by
    obtain ⟨k, hk⟩ := List.getElem?_of_mem hx
    have h1 := sumB_limb ln k
    have h2 : ∀ i, i ≤ 32 * n.length → sumB n i = 0 := fun i => by
      induction i with
      | zero => intro _; rfl
      | succ i ih => intro hi; rw [sumB_succ, ih (by omega), hz i (by omega)]; rfl
    have hkl := (get_of_some hk).1
    rw [h2 _ (by omega), h2 _ (by omega), getD_of hk] at h1
    have L := ln.get hk
    have := (pop_eq_zero (k := 32) (n := x.toNat) (by omega)).1 (by omega)
    omega
  rw [this]
  simp only [retR, retA, retL, ret1, ret1L, eget, hget, hset, St.set, eset, List.map_cons, List.map_nil, reduceIte, reduceCtorEq, Nat.reduceEqDiff, Nat.reduceLT, true_and, and_true, false_or, or_true, true_or, List.drop_zero, List.take_length, scalE_I, scalE_B, scalE_S]

end Go.Vc
