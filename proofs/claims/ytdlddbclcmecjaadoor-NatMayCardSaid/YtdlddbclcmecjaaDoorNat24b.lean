/-
  The document's Bit and Bits.
-/
import Derived.Test.YtdlddbclcmecjaaDoorNat14
import Derived.Test.YtdlddbclcmecjaaDoorNat15
set_option linter.unusedVariables false
set_option linter.unusedSimpArgs false
namespace Go.Vc
open Go
open Go.Proofs

/- sloperef1.Bit: arguments 2, results in [4]; slots in use where its loops begin: [] -/
def c16 : MC := .seq (.ops [ .op (some 4) none (.p (.mv (.i .i64 (0)))), .gh (.drop [4])]) (.seq (.seq (.ops [ .op (some 5) none (.p (.mv (.t 0))), .op (some 6) none (.call 8 [(.t 5)]), .op (some 7) none (.p (.un .not (.t 6))), .op (some 8) none (.p (.mv (.t 7))), .op (some 9) (some (8, false)) (.p (.mv (.t 1))), .op (some 10) (some (8, false)) (.p (.bin .lss (.t 9) (.i .i64 (0)))), .op (some 11) none (.pick (.t 8) (.b true) (.t 10)), .op (some 12) none (.p (.mv (.t 11))), .op (some 13) (some (12, false)) (.p (.mv (.t 1))), .op (some 14) (some (12, false)) (.p (.bin .quo (.t 13) (.i .i64 (32)))), .op (some 15) (some (12, false)) (.p (.mv (.t 0))), .op (some 16) (some (12, false)) (.p (.len (.t 15))), .op (some 17) (some (12, false)) (.p (.bin .geq (.t 14) (.t 16))), .op (some 18) none (.pick (.t 12) (.b true) (.t 17)), .gh (.drop [5, 6, 7, 8, 9, 10, 11, 12, 13, 14, 15, 16, 17])]) (.cond (.t 18) (.seq (.ops [ .op (some 4) none (.p (.mv (.i .i64 (0))))]) (.ret)) (.skip))) (.seq (.ops [ .op (some 19) none (.p (.mv (.t 0))), .op (some 20) none (.p (.mv (.t 1))), .op (some 21) none (.p (.bin .quo (.t 20) (.i .i64 (32)))), .op (some 22) none (.p (.ia 1 (.t 19) (.t 21))), .op (some 23) none (.p (.ld 1 false (.t 22))), .op (some 24) none (.p (.mv (.t 1))), .op (some 25) none (.p (.bin .rem (.t 24) (.i .i64 (32)))), .op (some 26) none (.p (.cv .u64 (.t 25))), .op (some 27) none (.p (.bin .shr (.t 23) (.t 26))), .op (some 28) none (.p (.bin .and (.t 27) (.i .u32 (1)))), .op (some 29) none (.p (.cv .i64 (.t 28))), .op (some 4) none (.p (.mv (.t 29))), .gh (.drop [0, 1, 19, 20, 21, 22, 23, 24, 25, 26, 27, 28, 29])]) (.ret)))
theorem k16 : chkF Tryd.prog 16 2 [4] c16 = true := by kernel_rfl

/- sloperef1.Bits: arguments 1, results in [2]; slots in use where its loops begin: [[0, 3]] -/
def c10 : MC := .seq (.ops [ .op (some 2) none (.p (.mv (.i .i64 (0)))), .gh (.drop [2])]) (.seq (.seq (.ops [ .op (some 4) none (.p (.mv (.t 0))), .op (some 5) none (.call 8 [(.t 4)]), .op (some 6) none (.p (.un .not (.t 5))), .gh (.drop [4, 5])]) (.cond (.t 6) (.seq (.ops [ .op (some 2) none (.p (.mv (.i .i64 (0))))]) (.ret)) (.skip))) (.seq (.seq (.ops [ .op (some 7) none (.p (.mv (.t 0))), .op (some 8) none (.p (.len (.t 7))), .op (some 9) none (.p (.bin .mul (.i .i64 (32)) (.t 8))), .op (some 10) none (.p (.bin .sub (.t 9) (.i .i64 (1)))), .op (some 3) none (.p (.mv (.t 10))), .gh (.drop [7, 8, 9, 10])]) (.cut (.block 0 (.loop (.seq (.seq (.ops [ .op (some 11) none (.p (.mv (.t 3))), .op (some 12) none (.p (.bin .geq (.t 11) (.i .i64 (0)))), .gh (.drop [11])]) (.cond (.t 12) (.skip) (.exit 0))) (.seq (.block 1 (.seq (.ops [ .op (some 15) none (.p (.mv (.t 0))), .op (some 16) none (.p (.mv (.t 3))), .op (some 17) none (.call 16 [(.t 15), (.t 16)]), .op (some 18) none (.p (.bin .eql (.t 17) (.i .i64 (1)))), .gh (.drop [15, 16, 17])]) (.cond (.t 18) (.seq (.ops [ .op (some 19) none (.p (.mv (.t 3))), .op (some 20) none (.p (.bin .add (.t 19) (.i .i64 (1)))), .op (some 2) none (.p (.mv (.t 20))), .gh (.drop [3, 19, 20])]) (.ret)) (.skip)))) (.ops [ .op (some 13) none (.p (.mv (.t 3))), .op (some 14) none (.p (.bin .sub (.t 13) (.i .i64 (1)))), .op (some 3) none (.p (.mv (.t 14))), .gh (.drop [13, 14])]))))))) (.seq (.ops [ .op (some 2) none (.p (.mv (.i .i64 (0))))]) (.ret))))
theorem k10 : chkF Tryd.prog 10 1 [2] c10 = true := by kernel_rfl



/-- bit i -/
def bitR (n : List Int) (i : Nat) : Int := if may n then val n / 2 ^ i % 2 else 0

theorem div_dropA {n : List Int} (ln : lim n) (i : Nat) : val n / 4294967296 ^ i = val (n.drop i) := by
  by_cases hi : i ≤ n.length
  · exact div_drop ln i hi
  · rw [List.drop_eq_nil_of_le (by omega)]
    have hb := val_bound ln
    have := pow_mono (m := n.length) (n := i) (by omega)
    exact Int.ediv_eq_zero_of_lt hb.1 (by omega)
theorem bit_val {n : List Int} (ln : lim n) (i : Nat) : val n / 2 ^ i % 2 = n.getD (i / 32) 0 / 2 ^ (i % 32) % 2 := by
  have h0 := val_drop_getD n (i / 32)
  obtain ⟨hpq, hp, hq⟩ := pq_split (s := i % 32) (by omega)
  have e : (2 : Int) ^ i = 4294967296 ^ (i / 32) * 2 ^ (i % 32) := by
    rw [show (4294967296 : Int) = 2 ^ 32 from rfl, ← Int.pow_mul, ← Int.pow_add, Nat.div_add_mod]
  rw [e, ← Int.ediv_ediv_of_nonneg (Int.le_of_lt (pow_pos' _)), div_dropA ln, h0]
  have hq2 : (2 : Int) ^ (32 - i % 32) = 2 * 2 ^ (31 - i % 32) := by
    rw [Int.mul_comm, ← Int.pow_succ]; congr 1; omega
  rw [← hpq, Int.mul_assoc, Int.add_mul_ediv_left _ _ (by omega), hq2, Int.mul_assoc, Int.add_mul_emod_self_left]

theorem sloperef1_Bit (fr : Bool) (n : List Int) (i : Nat) (hi : i ≤ 1000000) : FSpec0 Tryd.prog 16 [uL fr n, .int .i64 i] (fun r => r = .int .i64 (bitR n i)) := by
  refine FSpec0.of_facts fun hf => fspec0_of_run k16 ?_
  have ln : lim n := lim_of_factL hf.1
  simp only [uL, c16, W1, W2, W3, popTo, memb, res, wres, env0, byteAt, optI, cutB, cutL, sliceR, strR, ldCells, ldR, iaR, faR, lenR, lenSR, ixR, exR, nchkR, mxR, csR, up, ZV.av, ZV.fit, zfits, fits, fitsL, cellsOf, down, downL, downLL, stR, mkR, bsR, boxR, alR, apR, cpR, srcQ, solid, killC, killV, killE, killO, killH, hget, hset, hdel, pubV, pubC, pubO, renV, renC, renO, reduceIte, reduceCtorEq, Nat.reduceEqDiff, Nat.reduceLT, Nat.reduceAdd, Int.reduceToNat, Nat.reduceLeDiff, Int.reducePow, Int.reduceLE, Int.reduceLT]
  refine call1 (sloperef1_May fr n) (by repeat (first | exact subs_nil | refine subs_int ?_ | refine subs_ro ?_ | refine subs_bool ?_ | refine subs_str ?_ | refine subs_nilro ?_ | refine subs_lits rfl ?_ | refine subs_all rfl rfl (by simp) ?_ | refine subs_own rfl rfl ?_ | refine subs_fn ?_)) ?_
  simp only [uL, W1, W2, W3, popTo, memb, res, wres, env0, byteAt, optI, cutB, cutL, sliceR, strR, ldCells, ldR, iaR, faR, lenR, lenSR, ixR, exR, nchkR, mxR, csR, up, ZV.av, ZV.fit, zfits, fits, fitsL, cellsOf, down, downL, downLL, stR, mkR, bsR, boxR, alR, apR, cpR, srcQ, solid, killC, killV, killE, killO, killH, hget, hset, hdel, pubV, pubC, pubO, renV, renC, renO, reduceIte, reduceCtorEq, Nat.reduceEqDiff, Nat.reduceLT, Nat.reduceAdd, Int.reduceToNat, Nat.reduceLeDiff, Int.reducePow, Int.reduceLE, Int.reduceLT]
  rw [bitR]
  refine ⟨fun h => ret1' (by rw [if_neg h]; simp only [retR, retA, retL, ret1, ret1L, eget, hget, hset, St.set, eset, List.map_cons, List.map_nil, reduceIte, reduceCtorEq, Nat.reduceEqDiff, Nat.reduceLT, true_and, and_true, false_or, or_true, true_or, List.drop_zero, List.take_length, scalE_I, scalE_B, scalE_S]), fun h => ?_⟩
  have hm := Classical.not_not.1 h
  rw [if_pos hm, bit_val ln]
  refine ⟨fun h0 => by omega, fun h0 _ => ⟨by omega, fun _ => ⟨fun h1 => ret1' (by rw [getD_out (show ¬ ((i / 32 : Nat) : Int) < n.length by omega)]; simp only [Int.zero_ediv, retR, retA, retL, ret1, ret1L, eget, hget, hset, St.set, eset, List.map_cons, List.map_nil, reduceIte, reduceCtorEq, Nat.reduceEqDiff, Nat.reduceLT, true_and, and_true, false_or, or_true, true_or, List.drop_zero, List.take_length, scalE_I, scalE_B, scalE_S]; rfl), fun h1 _ => ⟨by omega, by omega, fun e he _ => ⟨by omega, ?_⟩⟩⟩⟩⟩
  rw [show ((i : Int) / 32).toNat = i / 32 by omega] at he
  have hE := ln.get he
  rw [show ((i : Int) % 32 % 18446744073709551616).toNat = i % 32 by omega, if_pos (show i % 32 ≤ 32 by omega), getD_of he]
  have hq : 0 ≤ e / 2 ^ (i % 32) := Int.ediv_nonneg hE.1 (Int.pow_nonneg (by omega))
  have ha : (((e / 2 ^ (i % 32)).toNat &&& 1 : Nat) : Int) = e / 2 ^ (i % 32) % 2 := by rw [Nat.and_one_is_mod]; omega
  rw [ha]
  exact fun _ => ⟨by omega, fun _ => ⟨hq, fun _ => ret1' (by simp only [retR, retA, retL, ret1, ret1L, eget, hget, hset, St.set, eset, List.map_cons, List.map_nil, reduceIte, reduceCtorEq, Nat.reduceEqDiff, Nat.reduceLT, true_and, and_true, false_or, or_true, true_or, List.drop_zero, List.take_length, scalE_I, scalE_B, scalE_S])⟩⟩

theorem sloperef1_Bits (fr : Bool) (n : List Int) : FSpec0 Tryd.prog 10 [uL fr n] (fun r => r = .int .i64 (bitsR n)) := by
  refine FSpec0.of_facts fun hf => fspec0_of_run k10 ?_
  have ln : lim n := lim_of_factL hf.1
  simp only [uL, c10, W1, W2, W3, popTo, memb, res, wres, env0, byteAt, optI, cutB, cutL, sliceR, strR, ldCells, ldR, iaR, faR, lenR, lenSR, ixR, exR, nchkR, mxR, csR, up, ZV.av, ZV.fit, zfits, fits, fitsL, cellsOf, down, downL, downLL, stR, mkR, bsR, boxR, alR, apR, cpR, srcQ, solid, killC, killV, killE, killO, killH, hget, hset, hdel, pubV, pubC, pubO, renV, renC, renO, reduceIte, reduceCtorEq, Nat.reduceEqDiff, Nat.reduceLT, Nat.reduceAdd, Int.reduceToNat, Nat.reduceLeDiff, Int.reducePow, Int.reduceLE, Int.reduceLT]
  refine call1 (sloperef1_May fr n) (by repeat (first | exact subs_nil | refine subs_int ?_ | refine subs_ro ?_ | refine subs_bool ?_ | refine subs_str ?_ | refine subs_nilro ?_ | refine subs_lits rfl ?_ | refine subs_all rfl rfl (by simp) ?_ | refine subs_own rfl rfl ?_ | refine subs_fn ?_)) ?_
  simp only [uL, W1, W2, W3, popTo, memb, res, wres, env0, byteAt, optI, cutB, cutL, sliceR, strR, ldCells, ldR, iaR, faR, lenR, lenSR, ixR, exR, nchkR, mxR, csR, up, ZV.av, ZV.fit, zfits, fits, fitsL, cellsOf, down, downL, downLL, stR, mkR, bsR, boxR, alR, apR, cpR, srcQ, solid, killC, killV, killE, killO, killH, hget, hset, hdel, pubV, pubC, pubO, renV, renC, renO, reduceIte, reduceCtorEq, Nat.reduceEqDiff, Nat.reduceLT, Nat.reduceAdd, Int.reduceToNat, Nat.reduceLeDiff, Int.reducePow, Int.reduceLE, Int.reduceLT]
  refine ⟨fun h => ret1' (by rw [bitsR, if_neg h]; simp only [retR, retA, retL, ret1, ret1L, eget, hget, hset, St.set, eset, List.map_cons, List.map_nil, reduceIte, reduceCtorEq, Nat.reduceEqDiff, Nat.reduceLT, true_and, and_true, false_or, or_true, true_or, List.drop_zero, List.take_length, scalE_I, scalE_B, scalE_S]), fun h => ?_⟩
  have hm := Classical.not_not.1 h
  rw [bitsR, if_pos hm]
  have hl := hm.1
  have V0 := (val_bound ln).1
  have hVb : val n < 2 ^ (32 * n.length) := by
    have := (val_bound ln).2
    rw [show (4294967296 : Int) = 2 ^ 32 from rfl, ← Int.pow_mul] at this; exact this
  refine fun _ => ⟨by omega, by omega, ?_⟩
  refine cut_intro (fun st => val n = 0 ∧ st = ⟨[], []⟩) ?_ ?_
  · simp only [W1, W2, W3, popTo, memb, res, wres, env0, byteAt, optI, cutB, cutL, sliceR, strR, ldCells, ldR, iaR, faR, lenR, lenSR, ixR, exR, nchkR, mxR, csR, up, ZV.av, ZV.fit, zfits, fits, fitsL, cellsOf, down, downL, downLL, stR, mkR, bsR, boxR, alR, apR, cpR, srcQ, solid, killC, killV, killE, killO, killH, hget, hset, hdel, pubV, pubC, pubO, renV, renC, renO, reduceIte, reduceCtorEq, Nat.reduceEqDiff, Nat.reduceLT, Nat.reduceAdd, Int.reduceToNat, Nat.reduceLeDiff, Int.reducePow, Int.reduceLE, Int.reduceLT]
    refine loop_intro (fun m st => ∃ c : Nat, c ≤ 32 * n.length ∧ m = c ∧ val n < 2 ^ c ∧ st = ⟨[(0, uL fr n), (3, .int .i64 ((c : Int) - 1))], []⟩) (32 * n.length)
      [(0, uL fr n), (3, .int .i64 (32 * (n.length : Int) - 1))] (by simp [eget, uL]) ⟨32 * n.length, by omega, rfl, hVb, by simp⟩ ?_
    rintro m st ⟨c, hc, rfl, hv, rfl⟩
    simp only [uL, W1, W2, W3, popTo, memb, res, wres, env0, byteAt, optI, cutB, cutL, sliceR, strR, ldCells, ldR, iaR, faR, lenR, lenSR, ixR, exR, nchkR, mxR, csR, up, ZV.av, ZV.fit, zfits, fits, fitsL, cellsOf, down, downL, downLL, stR, mkR, bsR, boxR, alR, apR, cpR, srcQ, solid, killC, killV, killE, killO, killH, hget, hset, hdel, pubV, pubC, pubO, renV, renC, renO, reduceIte, reduceCtorEq, Nat.reduceEqDiff, Nat.reduceLT, Nat.reduceAdd, Int.reduceToNat, Nat.reduceLeDiff, Int.reducePow, Int.reduceLE, Int.reduceLT]
    refine ⟨fun h0 => ?_, fun h0 => ?_⟩
    · obtain ⟨c, rfl⟩ : ∃ c, m = c + 1 := ⟨m - 1, by omega⟩
      rw [show ((c + 1 : Nat) : Int) - 1 = (c : Nat) by omega]
      refine call1 (sloperef1_Bit fr n c (by omega)) (by repeat (first | exact subs_nil | refine subs_int ?_ | refine subs_ro ?_ | refine subs_bool ?_ | refine subs_str ?_ | refine subs_nilro ?_ | refine subs_lits rfl ?_ | refine subs_all rfl rfl (by simp) ?_ | refine subs_own rfl rfl ?_ | refine subs_fn ?_)) ?_
      rw [bitR, if_pos hm]
      simp only [uL, W1, W2, W3, popTo, memb, res, wres, env0, byteAt, optI, cutB, cutL, sliceR, strR, ldCells, ldR, iaR, faR, lenR, lenSR, ixR, exR, nchkR, mxR, csR, up, ZV.av, ZV.fit, zfits, fits, fitsL, cellsOf, down, downL, downLL, stR, mkR, bsR, boxR, alR, apR, cpR, srcQ, solid, killC, killV, killE, killO, killH, hget, hset, hdel, pubV, pubC, pubO, renV, renC, renO, reduceIte, reduceCtorEq, Nat.reduceEqDiff, Nat.reduceLT, Nat.reduceAdd, Int.reduceToNat, Nat.reduceLeDiff, Int.reducePow, Int.reduceLE, Int.reduceLT]
      have hp : (0 : Int) < 2 ^ c := Int.pow_pos (by omega)
      have e1 := Int.mul_ediv_add_emod (val n) (2 ^ c)
      have e2 := Int.emod_nonneg (val n) (show (2 : Int) ^ c ≠ 0 by omega)
      have e3 := Int.emod_lt_of_pos (val n) hp
      have e4 : val n / 2 ^ c < 2 := Int.ediv_lt_of_lt_mul hp (by rw [Int.pow_succ] at hv; omega)
      have e5 := Int.ediv_nonneg V0 (Int.le_of_lt hp)
      have hc2 : ((2 ^ c : Nat) : Int) = 2 ^ c := by push_cast; rfl
      have hc3 : ((2 ^ (c + 1) : Nat) : Int) = 2 ^ (c + 1) := by push_cast; rfl
      refine ⟨fun h1 => ⟨by omega, ret1' ?_⟩, fun h1 => ⟨by omega, back_intro [(0, uL fr n), (3, .int .i64 ((c : Int) - 1))] (by simp [eget, uL]) (by omega) ⟨c, by omega, rfl, ?_, rfl⟩⟩⟩
      · have e6 : val n / 2 ^ c = 1 := by omega
        rw [e6, Int.mul_one] at e1
        have b1 : blen (val n).toNat ≤ c + 1 := blen_le.2 (by omega)
        have b2 : ¬ blen (val n).toNat ≤ c := fun h => by have := blen_le.1 h; omega
        rw [show blen (val n).toNat = c + 1 by omega]
        simp only [retR, retA, retL, ret1, ret1L, eget, hget, hset, St.set, eset, List.map_cons, List.map_nil, reduceIte, reduceCtorEq, Nat.reduceEqDiff, Nat.reduceLT, true_and, and_true, false_or, or_true, true_or, List.drop_zero, List.take_length, scalE_I, scalE_B, scalE_S]
        rfl
      · have e6 : val n / 2 ^ c = 0 := by omega
        rw [e6, Int.mul_zero] at e1
        omega
    · obtain rfl : m = 0 := by omega
      exact join_intro [] (by simp) ⟨by simp at hv; omega, rfl⟩
  · rintro st ⟨hv, rfl⟩
    simp only [W1, W2, W3, popTo, memb, res, wres, env0, byteAt, optI, cutB, cutL, sliceR, strR, ldCells, ldR, iaR, faR, lenR, lenSR, ixR, exR, nchkR, mxR, csR, up, ZV.av, ZV.fit, zfits, fits, fitsL, cellsOf, down, downL, downLL, stR, mkR, bsR, boxR, alR, apR, cpR, srcQ, solid, killC, killV, killE, killO, killH, hget, hset, hdel, pubV, pubC, pubO, renV, renC, renO, reduceIte, reduceCtorEq, Nat.reduceEqDiff, Nat.reduceLT, Nat.reduceAdd, Int.reduceToNat, Nat.reduceLeDiff, Int.reducePow, Int.reduceLE, Int.reduceLT]
    exact ret1' (by rw [hv]; simp only [blen, retR, retA, retL, ret1, ret1L, eget, hget, hset, St.set, eset, List.map_cons, List.map_nil, reduceIte, reduceCtorEq, Nat.reduceEqDiff, Nat.reduceLT, true_and, and_true, false_or, or_true, true_or, List.drop_zero, List.take_length, scalE_I, scalE_B, scalE_S]; rfl)

end Go.Vc
