/-
  Sums: natural.plus, sloperef1.plus.
-/
import Derived.Test.YtdlddbclcmecjaaNat5
import Derived.Test.YtdlddbclcmecjaaVal
set_option linter.unusedVariables false
set_option linter.unusedSimpArgs false
namespace Go.Vc
open Go
open Go.Proofs

/- natural.plus: arguments 2, results in [4]; slots in use where its loops begin: [[0, 1, 5, 6, 21, 22]] -/
def c97 : MC := .seq (.ops [ .op (some 4) none (.p (.mv .nil)), .gh (.drop [4])]) (.seq (.cut (.seq (.ops [ .op (some 9) none (.p (.mv (.t 0))), .op (some 10) none (.p (.len (.t 9))), .op (some 11) none (.p (.mv (.t 1))), .op (some 12) none (.p (.len (.t 11))), .op (some 13) none (.p (.bin .lss (.t 10) (.t 12))), .gh (.drop [9, 10, 11, 12])]) (.cond (.t 13) (.ops [ .op (some 14) none (.p (.mv (.t 1))), .op (some 15) none (.p (.mv (.t 0))), .op (some 0) none (.p (.mv (.t 14))), .op (some 1) none (.p (.mv (.t 15))), .gh (.drop [14, 15])]) (.skip)))) (.seq (.ops [ .op (some 16) none (.p (.mv (.t 0))), .op (some 17) none (.p (.len (.t 16))), .op (some 18) none (.p (.bin .add (.t 17) (.i .i64 (1)))), .op (some 19) none (.w (.mk 99 1 4 [.int .u32] (encI .u32) (0 : Int) (.t 18) (.t 18))), .op (some 5) none (.p (.mv (.t 19))), .gh (.drop [16, 17, 18, 19])]) (.seq (.ops [ .op (some 6) none (.p (.mv (.i .u32 (0))))]) (.seq (.seq (.ops [ .op (some 20) none (.p (.mv (.t 0))), .op (some 21) none (.p (.len (.t 20))), .op (some 22) none (.p (.mv (.i .i64 (0)))), .gh (.drop [20])]) (.cut (.block 0 (.loop (.seq (.ops [ .op (some 23) none (.p (.bin .lss (.t 22) (.t 21)))]) (.seq (.cond (.t 23) (.skip) (.exit 0)) (.seq (.block 1 (.seq (.ops [ .op (some 24) none (.p (.mv (.t 22))), .op (some 7) none (.p (.mv (.t 24))), .gh (.drop [24])]) (.seq (.ops [ .op (some 8) none (.p (.mv (.i .u32 (0))))]) (.seq (.cut (.seq (.ops [ .op (some 25) none (.p (.mv (.t 7))), .op (some 26) none (.p (.mv (.t 1))), .op (some 27) none (.p (.len (.t 26))), .op (some 28) none (.p (.bin .lss (.t 25) (.t 27))), .gh (.drop [25, 26, 27])]) (.cond (.t 28) (.ops [ .op (some 29) none (.p (.mv (.t 1))), .op (some 30) none (.p (.mv (.t 7))), .op (some 31) none (.p (.ia 1 (.t 29) (.t 30))), .op (some 32) none (.p (.ld 1 false (.t 31))), .op (some 8) none (.p (.mv (.t 32))), .gh (.drop [29, 30, 31, 32])]) (.skip)))) (.ops [ .op (some 34) none (.p (.mv (.t 5))), .op (some 35) none (.p (.mv (.t 7))), .op (some 36) none (.p (.mv (.t 0))), .op (some 37) none (.p (.mv (.t 7))), .op (some 38) none (.p (.ia 1 (.t 36) (.t 37))), .op (some 39) none (.p (.ld 1 false (.t 38))), .op (some 40) none (.p (.mv (.t 8))), .op (some 41) none (.p (.mv (.t 6))), .op (some 42) none (.call 131 [(.t 39), (.t 40), (.t 41)]), .op (some 33) none (.p (.mv (.t 42))), .op (some 43) none (.p (.ex (.t 33) 0)), .op (some 44) none (.p (.ex (.t 33) 1)), .op (some 45) none (.p (.ia 1 (.t 34) (.t 35))), .op none none (.w (.st 1 (.t 45) (.t 43))), .op (some 6) none (.p (.mv (.t 44))), .gh (.drop [7, 8, 33, 34, 35, 36, 37, 38, 39, 40, 41, 42, 43, 44, 45])]))))) (.ops [ .op (some 46) none (.p (.bin .add (.t 22) (.i .i64 (1)))), .op (some 22) none (.p (.mv (.t 46))), .gh (.drop [46])])))))))) (.seq (.ops [ .op (some 47) none (.p (.mv (.t 5))), .op (some 48) none (.p (.mv (.t 0))), .op (some 49) none (.p (.len (.t 48))), .op (some 50) none (.p (.mv (.t 6))), .op (some 51) none (.p (.ia 1 (.t 47) (.t 49))), .op none none (.w (.st 1 (.t 51) (.t 50))), .gh (.drop [0, 6, 47, 48, 49, 50, 51])]) (.seq (.ops [ .op (some 52) none (.p (.mv (.t 5))), .op (some 4) none (.p (.mv (.t 52))), .gh (.drop [5, 52])]) (.ret)))))))
theorem k97 : chkF Try.prog 97 2 [4] c97 = true := by kernel_rfl



theorem add_step {P Z p w c v A B : Int} (hv : Z + P * c = A + B) : Z + P * ((p + w + c) % 4294967296) + P * 4294967296 * ((p + w + c) / 4294967296) = A + P * p + (B + P * w) := by
  have h := Int.mul_ediv_add_emod (p + w + c) 4294967296
  generalize (p + w + c) % 4294967296 = m at *
  generalize (p + w + c) / 4294967296 = d at *
  have h1 : P * (p + w + c) = P * (4294967296 * d + m) := by rw [h]
  rw [Int.mul_add, Int.mul_add, Int.mul_add, ← Int.mul_assoc] at h1
  omega

theorem natural_plus (fr fr' : Bool) (xs ys : List Int) (hx : (xs.length + 1) * 4 ≤ 140737488355328) (hy : (ys.length + 1) * 4 ≤ 140737488355328) :
    FSpec0 Try.prog 97 [uL fr xs, uL fr' ys] (fun r => ∃ zs, r = uL true zs ∧ lim zs ∧ zs.length = max xs.length ys.length + 1 ∧ val zs = val xs + val ys) := by
  refine FSpec0.of_facts fun hf => fspec0_of_run k97 ?_
  have lx : lim xs := lim_of_factL hf.1
  have ly : lim ys := lim_of_factL hf.2.1
  simp only [uL, c97, W1, W2, W3, popTo, memb, res, wres, env0, byteAt, optI, cutB, cutL, sliceR, strR, ldCells, ldR, iaR, faR, lenR, lenSR, ixR, exR, nchkR, mxR, csR, up, ZV.av, ZV.fit, zfits, fits, fitsL, cellsOf, down, downL, downLL, stR, mkR, bsR, boxR, alR, apR, cpR, srcQ, solid, killC, killV, killE, killO, killH, hget, hset, hdel, pubV, pubC, pubO, renV, renC, renO, reduceIte, reduceCtorEq, Nat.reduceEqDiff, Nat.reduceLT, Nat.reduceAdd, Int.reduceToNat, Nat.reduceLeDiff, Int.reducePow, Int.reduceLE, Int.reduceLT]
  refine cut_intro (fun st => ∃ (fa fb : Bool) (ps qs : List Int), qs.length ≤ ps.length ∧ ps.length = max xs.length ys.length ∧ (ps.length + 1) * 4 ≤ 140737488355328 ∧ lim ps ∧ lim qs ∧ val ps + val qs = val xs + val ys ∧
      st = ⟨[(0, .ro fa 1 (encI .u32) ps), (1, .ro fb 1 (encI .u32) qs)], []⟩) ?_ ?_
  · simp only [W1, W2, W3, popTo, memb, res, wres, env0, byteAt, optI, cutB, cutL, sliceR, strR, ldCells, ldR, iaR, faR, lenR, lenSR, ixR, exR, nchkR, mxR, csR, up, ZV.av, ZV.fit, zfits, fits, fitsL, cellsOf, down, downL, downLL, stR, mkR, bsR, boxR, alR, apR, cpR, srcQ, solid, killC, killV, killE, killO, killH, hget, hset, hdel, pubV, pubC, pubO, renV, renC, renO, reduceIte, reduceCtorEq, Nat.reduceEqDiff, Nat.reduceLT, Nat.reduceAdd, Int.reduceToNat, Nat.reduceLeDiff, Int.reducePow, Int.reduceLE, Int.reduceLT]
    intro h1 h2
    refine ⟨fun h => ?_, fun h => ?_⟩
    · exact join_intro [(0, .ro fr' 1 (encI .u32) ys), (1, .ro fr 1 (encI .u32) xs)] (by simp [eget]) ⟨fr', fr, ys, xs, by omega, by omega, hy, ly, lx, by omega, rfl⟩
    · exact join_intro [(0, .ro fr 1 (encI .u32) xs), (1, .ro fr' 1 (encI .u32) ys)] (by simp [eget]) ⟨fr, fr', xs, ys, by omega, by omega, hx, lx, ly, rfl, rfl⟩
  rintro st ⟨fa, fb, ps, qs, hlen, hmax, hb, la, lb, hval, rfl⟩
  simp only [W1, W2, W3, popTo, memb, res, wres, env0, byteAt, optI, cutB, cutL, sliceR, strR, ldCells, ldR, iaR, faR, lenR, lenSR, ixR, exR, nchkR, mxR, csR, up, ZV.av, ZV.fit, zfits, fits, fitsL, cellsOf, down, downL, downLL, stR, mkR, bsR, boxR, alR, apR, cpR, srcQ, solid, killC, killV, killE, killO, killH, hget, hset, hdel, pubV, pubC, pubO, renV, renC, renO, reduceIte, reduceCtorEq, Nat.reduceEqDiff, Nat.reduceLT, Nat.reduceAdd, Int.reduceToNat, Nat.reduceLeDiff, Int.reducePow, Int.reduceLE, Int.reduceLT]
  intro _
  refine ⟨by omega, by omega, fun _ => ?_⟩
  refine cut_intro (fun st => ∃ (c : Int) (zs : List Int), zs.length = ps.length ∧ lim zs ∧ 0 ≤ c ∧ c ≤ 1 ∧ val zs + 4294967296 ^ ps.length * c = val ps + val qs ∧
      st = ⟨[(0, .ro fa 1 (encI .u32) ps), (5, .own 19 0 (ps.length + 1) true), (6, .int .u32 c)], [(19, .arr 99 true true 1 (encI .u32) (zs ++ [0]))]⟩) ?_ ?_
  · simp only [W1, W2, W3, popTo, memb, res, wres, env0, byteAt, optI, cutB, cutL, sliceR, strR, ldCells, ldR, iaR, faR, lenR, lenSR, ixR, exR, nchkR, mxR, csR, up, ZV.av, ZV.fit, zfits, fits, fitsL, cellsOf, down, downL, downLL, stR, mkR, bsR, boxR, alR, apR, cpR, srcQ, solid, killC, killV, killE, killO, killH, hget, hset, hdel, pubV, pubC, pubO, renV, renC, renO, reduceIte, reduceCtorEq, Nat.reduceEqDiff, Nat.reduceLT, Nat.reduceAdd, Int.reduceToNat, Nat.reduceLeDiff, Int.reducePow, Int.reduceLE, Int.reduceLT]
    rw [show ((ps.length : Int) + 1).toNat = ps.length + 1 by omega]
    refine loop_intro (fun m st => ∃ (i : Nat) (c : Int) (zs : List Int), i ≤ ps.length ∧ m = ps.length - i ∧ zs.length = i ∧ lim zs ∧ 0 ≤ c ∧ c ≤ 1 ∧ val zs + 4294967296 ^ i * c = val (ps.take i) + val (qs.take i) ∧
      st = ⟨[(0, .ro fa 1 (encI .u32) ps), (1, .ro fb 1 (encI .u32) qs), (5, .own 19 0 (ps.length + 1) true), (6, .int .u32 c), (21, .int .i64 ps.length), (22, .int .i64 i)], [(19, .arr 99 true true 1 (encI .u32) (zs ++ List.replicate (ps.length + 1 - i) 0))]⟩) ps.length
      [(0, .ro fa 1 (encI .u32) ps), (1, .ro fb 1 (encI .u32) qs), (5, .own 19 0 (ps.length + 1) true), (6, .int .u32 0), (21, .int .i64 ps.length), (22, .int .i64 (0 : Nat))] (by simp [eget]) ⟨0, 0, [], by omega, by omega, rfl, lim.nil, by omega, by omega, by simp [val], rfl⟩ ?_
    rintro m st ⟨i, c, zs, hi, rfl, hzl, lz, c0, c1, hv, rfl⟩
    simp only [W1, W2, W3, popTo, memb, res, wres, env0, byteAt, optI, cutB, cutL, sliceR, strR, ldCells, ldR, iaR, faR, lenR, lenSR, ixR, exR, nchkR, mxR, csR, up, ZV.av, ZV.fit, zfits, fits, fitsL, cellsOf, down, downL, downLL, stR, mkR, bsR, boxR, alR, apR, cpR, srcQ, solid, killC, killV, killE, killO, killH, hget, hset, hdel, pubV, pubC, pubO, renV, renC, renO, reduceIte, reduceCtorEq, Nat.reduceEqDiff, Nat.reduceLT, Nat.reduceAdd, Int.reduceToNat, Nat.reduceLeDiff, Int.reducePow, Int.reduceLE, Int.reduceLT]
    refine ⟨fun h0 => cut_intro (fun st => st = ⟨[(0, .ro fa 1 (encI .u32) ps), (1, .ro fb 1 (encI .u32) qs), (5, .own 19 0 (ps.length + 1) true), (6, .int .u32 c), (7, .int .i64 i), (8, .int .u32 (qs.getD i 0)), (21, .int .i64 ps.length), (22, .int .i64 i)], [(19, .arr 99 true true 1 (encI .u32) (zs ++ List.replicate (ps.length + 1 - i) 0))]⟩) ?_ ?_, fun h0 => ?_⟩
    · simp only [W1, W2, W3, popTo, memb, res, wres, env0, byteAt, optI, cutB, cutL, sliceR, strR, ldCells, ldR, iaR, faR, lenR, lenSR, ixR, exR, nchkR, mxR, csR, up, ZV.av, ZV.fit, zfits, fits, fitsL, cellsOf, down, downL, downLL, stR, mkR, bsR, boxR, alR, apR, cpR, srcQ, solid, killC, killV, killE, killO, killH, hget, hset, hdel, pubV, pubC, pubO, renV, renC, renO, reduceIte, reduceCtorEq, Nat.reduceEqDiff, Nat.reduceLT, Nat.reduceAdd, Int.reduceToNat, Nat.reduceLeDiff, Int.reducePow, Int.reduceLE, Int.reduceLT]
      intro _
      refine ⟨fun h1 => ⟨by omega, fun e he => join_intro _ ?_ rfl⟩, fun h1 => join_intro _ ?_ rfl⟩
      · simp [eget, he]
      · simp [eget, List.getElem?_eq_none (show qs.length ≤ i by omega)]
    · rintro st rfl
      simp only [W1, W2, W3, popTo, memb, res, wres, env0, byteAt, optI, cutB, cutL, sliceR, strR, ldCells, ldR, iaR, faR, lenR, lenSR, ixR, exR, nchkR, mxR, csR, up, ZV.av, ZV.fit, zfits, fits, fitsL, cellsOf, down, downL, downLL, stR, mkR, bsR, boxR, alR, apR, cpR, srcQ, solid, killC, killV, killE, killO, killH, hget, hset, hdel, pubV, pubC, pubO, renV, renC, renO, reduceIte, reduceCtorEq, Nat.reduceEqDiff, Nat.reduceLT, Nat.reduceAdd, Int.reduceToNat, Nat.reduceLeDiff, Int.reducePow, Int.reduceLE, Int.reduceLT]
      refine ⟨by omega, fun e he => callK0 (bits_Add32 e (qs.getD i 0) c) (by simp only [subs, subA, sub, subL, lends, lend, hget, true_and, and_true, reduceIte, reduceCtorEq, Nat.reduceEqDiff, imp_self, or_true, true_or, false_implies, Bool.false_eq_true, List.length_nil, List.map_cons, List.map_nil, encI_app, encB_app, encS_app, encR_app]) fun r hr => ?_⟩
      subst hr
      simp only [W1, W2, W3, popTo, memb, res, wres, env0, byteAt, optI, cutB, cutL, sliceR, strR, ldCells, ldR, iaR, faR, lenR, lenSR, ixR, exR, nchkR, mxR, csR, up, ZV.av, ZV.fit, zfits, fits, fitsL, cellsOf, down, downL, downLL, stR, mkR, bsR, boxR, alR, apR, cpR, srcQ, solid, killC, killV, killE, killO, killH, hget, hset, hdel, pubV, pubC, pubO, renV, renC, renO, reduceIte, reduceCtorEq, Nat.reduceEqDiff, Nat.reduceLT, Nat.reduceAdd, Int.reduceToNat, Nat.reduceLeDiff, Int.reducePow, Int.reduceLE, Int.reduceLT]
      have hw := lb.getD i
      have hp := la.get he
      refine fun _ => ⟨by omega, by simp; omega, _, rfl, by omega, ?_⟩
      rw [set_rep zs (ps.length + 1) i _ _ hzl (by omega)]
      refine back_intro [(0, .ro fa 1 (encI .u32) ps), (1, .ro fb 1 (encI .u32) qs), (5, .own 19 0 (ps.length + 1) true), (6, .int .u32 ((e + qs.getD i 0 + c) / 4294967296)), (21, .int .i64 ps.length), (22, .int .i64 ((i + 1 : Nat) : Int))] (by simp [eget]) (by omega)
        ⟨i + 1, _, zs ++ [(e + qs.getD i 0 + c) % 4294967296], by omega, rfl, by simp [hzl], lz.snoc (by omega), by omega, by omega, ?_, rfl⟩
      rw [val_snoc, val_take_succ he, val_take_getD, pow_s, hzl]
      exact add_step (v := 0) hv
    · obtain rfl : i = ps.length := by omega
      refine join_intro [(0, .ro fa 1 (encI .u32) ps), (5, .own 19 0 (ps.length + 1) true), (6, .int .u32 c)] (by simp [eget]) ⟨c, zs, hzl, lz, c0, c1, ?_, ?_⟩
      · rw [List.take_length, List.take_of_length_le hlen] at hv; exact hv
      · rw [show ps.length + 1 - ps.length = 1 by omega]; rfl
  · rintro st ⟨c, zs, hzl, lz, c0, c1, hv, rfl⟩
    simp only [W1, W2, W3, popTo, memb, res, wres, env0, byteAt, optI, cutB, cutL, sliceR, strR, ldCells, ldR, iaR, faR, lenR, lenSR, ixR, exR, nchkR, mxR, csR, up, ZV.av, ZV.fit, zfits, fits, fitsL, cellsOf, down, downL, downLL, stR, mkR, bsR, boxR, alR, apR, cpR, srcQ, solid, killC, killV, killE, killO, killH, hget, hset, hdel, pubV, pubC, pubO, renV, renC, renO, reduceIte, reduceCtorEq, Nat.reduceEqDiff, Nat.reduceLT, Nat.reduceAdd, Int.reduceToNat, Nat.reduceLeDiff, Int.reducePow, Int.reduceLE, Int.reduceLT]
    intro _ _
    have hs : (zs ++ [0]).set ps.length c = zs ++ [c] := by
      rw [List.set_append, if_neg (by omega), hzl, Nat.sub_self]; rfl
    have hl : (zs ++ [c]).length = ps.length + 1 := by simp [hzl]
    refine ⟨by omega, by simp [hzl], c, rfl, ret0 (uL true (zs ++ [c])) ?_ ⟨zs ++ [c], rfl, lz.snoc (by omega), by omega, ?_⟩⟩
    · rw [hs]; simp only [uL, retR, retA, retL, ret1, ret1L, eget, hget, hset, St.set, eset, List.map_cons, List.map_nil, reduceIte, reduceCtorEq, Nat.reduceEqDiff, Nat.reduceLT, true_and, and_true, false_or, or_true, true_or, List.drop_zero, List.take_length, scalE_I, scalE_B, scalE_S]; rw [List.take_of_length_le (by omega)]
    · rw [val_snoc, hzl]; exact hv.trans hval

end Go.Vc
