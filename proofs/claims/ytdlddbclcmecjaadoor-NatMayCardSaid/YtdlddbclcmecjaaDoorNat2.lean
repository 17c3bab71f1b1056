/-
  What is handed in: copies with marks behind them.
-/
import Derived.Test.YtdlddbclcmecjaaDoorNat1
set_option linter.unusedVariables false
set_option linter.unusedSimpArgs false
namespace Go.Vc
open Go
open Go.Proofs

/- slopeplain.CopyNat: arguments 1, results in [2]; slots in use where its loops begin: [[0, 3, 4]] -/
def c18 : MC := .seq (.ops [ .op (some 2) none (.p (.mv .nil)), .gh (.drop [2])]) (.seq (.ops [ .op (some 5) none (.p (.mv (.t 0))), .op (some 6) none (.p (.len (.t 5))), .op (some 7) none (.p (.mv (.t 0))), .op (some 8) none (.p (.len (.t 7))), .op (some 9) none (.p (.bin .add (.t 8) (.i .i64 (3)))), .op (some 10) none (.w (.mk 46 1 4 [.int .u32] (encI .u32) (0 : Int) (.t 6) (.t 9))), .op (some 3) none (.p (.mv (.t 10))), .gh (.drop [5, 6, 7, 8, 9, 10])]) (.seq (.seq (.ops [ .op (some 4) none (.p (.mv (.i .i64 (0))))]) (.cut (.block 0 (.loop (.seq (.seq (.ops [ .op (some 11) none (.p (.mv (.t 4))), .op (some 12) none (.p (.mv (.t 0))), .op (some 13) none (.p (.len (.t 12))), .op (some 14) none (.p (.bin .lss (.t 11) (.t 13))), .gh (.drop [11, 12, 13])]) (.cond (.t 14) (.skip) (.exit 0))) (.seq (.block 1 (.ops [ .op (some 17) none (.p (.mv (.t 3))), .op (some 18) none (.p (.mv (.t 4))), .op (some 19) none (.p (.mv (.t 0))), .op (some 20) none (.p (.mv (.t 4))), .op (some 21) none (.p (.ia 1 (.t 19) (.t 20))), .op (some 22) none (.p (.ld 1 false (.t 21))), .op (some 23) none (.p (.ia 1 (.t 17) (.t 18))), .op none none (.w (.st 1 (.t 23) (.t 22))), .gh (.drop [17, 18, 19, 20, 21, 22, 23])])) (.ops [ .op (some 15) none (.p (.mv (.t 4))), .op (some 16) none (.p (.bin .add (.t 15) (.i .i64 (1)))), .op (some 4) none (.p (.mv (.t 16))), .gh (.drop [15, 16])]))))))) (.seq (.ops [ .op (some 24) none (.p (.mv (.t 3))), .op (some 2) none (.p (.mv (.t 24))), .gh (.drop [3, 24])]) (.ret))))
theorem k18 : chkF Tryd.prog 18 1 [2] c18 = true := by kernel_rfl

/- slopeplain.Given).Nat: arguments 2, results in [4]; slots in use where its loops begin: [] -/
def c5 : MC := .seq (.ops [ .op (some 4) none (.p (.mv .nil)), .gh (.drop [4])]) (.seq (.ops [ .op (some 6) none (.p (.mv (.t 1))), .op (some 7) none (.call 18 [(.t 6)]), .op (some 5) none (.p (.mv (.t 7))), .gh (.drop [6, 7])]) (.seq (.ops [ .op (some 8) none (.p (.mv (.t 5))), .op (some 9) none (.w (.bs 46 1 [(.i .u32 (42405)), (.i .u32 (23130)), (.i .u32 (42330))])), .op (some 10) none (.w (.ap 46 1 4 (encI .u32) (.t 8) (.t 9))), .op (some 5) none (.p (.mv (.t 10))), .gh (.pub 10), .gh (.drop [8, 9, 10])]) (.seq (.ops [ .op (some 11) none (.p (.mv (.t 0))), .op (some 12) none (.p (.mv (.t 0))), .op (some 13) none (.p (.nchk (.t 12))), .op (some 14) none (.p (.fa 0 (.t 13))), .op (some 15) none (.p (.ld 1 false (.t 14))), .op (some 16) none (.p (.mv (.t 5))), .op (some 17) none (.w (.bs 22 1 [(.t 16)])), .op (some 18) none (.w (.ap 22 1 24 (encR 1 (encI .u32)) (.t 15) (.t 17))), .op (some 19) none (.p (.nchk (.t 11))), .op (some 20) none (.p (.fa 0 (.t 19))), .op none none (.w (.st 1 (.t 20) (.t 18))), .gh (.drop [11, 12, 13, 14, 15, 16, 17, 18, 19, 20])]) (.seq (.dr (.op 0 (.op (some 21) none (.p (.mv (.t 0)))) (.op 1 (.op (some 22) none (.p (.mv (.t 0)))) (.op 2 (.op (some 23) none (.p (.nchk (.t 22)))) (.op 3 (.op (some 24) none (.p (.fa 1 (.t 23)))) (.op 5 (.op (some 26) none (.p (.mv (.t 5)))) (.alt (.op 4 (.op (some 25) none (.p (.ld 1 false (.t 24)))) (.op 6 (.op (some 27) none (.call 18 [(.t 26)])) (.op 0 (.gh (.pub 10)) (.op 7 (.op (some 28) none (.w (.bs 22 1 [(.t 27)]))) (.op 8 (.op (some 29) none (.w (.ap 22 1 24 (encR 1 (encI .u32)) (.t 25) (.t 28)))) (.op 9 (.op (some 30) none (.p (.nchk (.t 21)))) (.op 10 (.op (some 31) none (.p (.fa 1 (.t 30)))) (.op 11 (.op none none (.w (.st 1 (.t 31) (.t 29)))) (.nil))))))))) (.op 6 (.op (some 27) none (.call 18 [(.t 26)])) (.op 0 (.gh (.pub 10)) (.alt (.op 4 (.op (some 25) none (.p (.ld 1 false (.t 24)))) (.op 7 (.op (some 28) none (.w (.bs 22 1 [(.t 27)]))) (.op 8 (.op (some 29) none (.w (.ap 22 1 24 (encR 1 (encI .u32)) (.t 25) (.t 28)))) (.op 9 (.op (some 30) none (.p (.nchk (.t 21)))) (.op 10 (.op (some 31) none (.p (.fa 1 (.t 30)))) (.op 11 (.op none none (.w (.st 1 (.t 31) (.t 29)))) (.nil))))))) (.op 7 (.op (some 28) none (.w (.bs 22 1 [(.t 27)]))) (.op 4 (.op (some 25) none (.p (.ld 1 false (.t 24)))) (.op 8 (.op (some 29) none (.w (.ap 22 1 24 (encR 1 (encI .u32)) (.t 25) (.t 28)))) (.op 9 (.op (some 30) none (.p (.nchk (.t 21)))) (.op 10 (.op (some 31) none (.p (.fa 1 (.t 30)))) (.op 11 (.op none none (.w (.st 1 (.t 31) (.t 29)))) (.nil))))))))))))))))) (.gh (.drop [0, 21, 22, 23, 24, 25, 26, 27, 28, 29, 30, 31]) (.seq (.ops [ .op (some 32) none (.p (.mv (.t 5))), .op (some 33) none (.p (.mv (.t 1))), .op (some 34) none (.p (.len (.t 33))), .op (some 35) none (.p (.sl 1 (.t 32) none (some (.t 34)) none)), .op (some 4) none (.p (.mv (.t 35))), .gh (.drop [1, 5, 32, 33, 34, 35])]) (.ret)))))))
theorem k5 : chkF Tryd.prog 5 2 [4] c5 = true := by kernel_rfl



theorem slopeplain_CopyNat (fr : Bool) (xs : List Int) (hb : (xs.length + 3) * 4 ≤ 140737488355328) :
    FSpec Tryd.prog 18 [uL fr xs] [] (fun r hp' => r = .own 10 0 xs.length true ∧ hp' = [(10, .arr 46 true true 1 (encI .u32) xs)]) := by
  refine fspec_of_run k18 rfl (fun h => rfl) ?_
  simp only [uL, c18, W1, W2, W3, popTo, memb, res, wres, env0, byteAt, optI, cutB, cutL, sliceR, strR, ldCells, ldR, iaR, faR, lenR, lenSR, ixR, exR, nchkR, mxR, csR, up, ZV.av, ZV.fit, zfits, fits, fitsL, cellsOf, down, downL, downLL, stR, mkR, bsR, boxR, alR, apR, cpR, srcQ, solid, killC, killV, killE, killO, killH, hget, hset, hdel, pubV, pubC, pubO, renV, renC, renO, reduceIte, reduceCtorEq, Nat.reduceEqDiff, Nat.reduceLT, Nat.reduceAdd, Int.reduceToNat, Nat.reduceLeDiff, Int.reducePow, Int.reduceLE, Int.reduceLT]
  intro _ _
  refine ⟨by omega, by omega, ?_⟩
  refine cut_intro (fun st => st = ⟨[(3, .own 10 0 xs.length true)], [(10, .arr 46 true true 1 (encI .u32) xs)]⟩) ?_ ?_
  · simp only [W1, W2, W3, popTo, memb, res, wres, env0, byteAt, optI, cutB, cutL, sliceR, strR, ldCells, ldR, iaR, faR, lenR, lenSR, ixR, exR, nchkR, mxR, csR, up, ZV.av, ZV.fit, zfits, fits, fitsL, cellsOf, down, downL, downLL, stR, mkR, bsR, boxR, alR, apR, cpR, srcQ, solid, killC, killV, killE, killO, killH, hget, hset, hdel, pubV, pubC, pubO, renV, renC, renO, reduceIte, reduceCtorEq, Nat.reduceEqDiff, Nat.reduceLT, Nat.reduceAdd, Int.reduceToNat, Nat.reduceLeDiff, Int.reducePow, Int.reduceLE, Int.reduceLT]
    refine loop_intro (fun m st => ∃ i : Nat, i ≤ xs.length ∧ m = xs.length - i ∧ st = ⟨[(0, .ro fr 1 (encI .u32) xs), (3, .own 10 0 xs.length true), (4, .int .i64 i)], [(10, .arr 46 true true 1 (encI .u32) (xs.take i ++ List.replicate (xs.length - i) 0))]⟩) xs.length
      [(0, .ro fr 1 (encI .u32) xs), (3, .own 10 0 xs.length true), (4, .int .i64 (0 : Nat))] (by simp [eget]) ⟨0, by omega, by omega, by simp⟩ ?_
    rintro m st ⟨i, hi, rfl, rfl⟩
    simp only [W1, W2, W3, popTo, memb, res, wres, env0, byteAt, optI, cutB, cutL, sliceR, strR, ldCells, ldR, iaR, faR, lenR, lenSR, ixR, exR, nchkR, mxR, csR, up, ZV.av, ZV.fit, zfits, fits, fitsL, cellsOf, down, downL, downLL, stR, mkR, bsR, boxR, alR, apR, cpR, srcQ, solid, killC, killV, killE, killO, killH, hget, hset, hdel, pubV, pubC, pubO, renV, renC, renO, reduceIte, reduceCtorEq, Nat.reduceEqDiff, Nat.reduceLT, Nat.reduceAdd, Int.reduceToNat, Nat.reduceLeDiff, Int.reducePow, Int.reduceLE, Int.reduceLT]
    intro _
    refine ⟨fun h0 => ⟨by omega, fun e he => fun _ => ⟨by omega, by simp; omega, e, rfl, by omega, ?_⟩⟩, fun h0 => ?_⟩
    · rw [set_fill he (by omega)]
      refine back_intro [(0, .ro fr 1 (encI .u32) xs), (3, .own 10 0 xs.length true), (4, .int .i64 ((i + 1 : Nat) : Int))] (by simp [eget]) (by omega) ⟨i + 1, by omega, rfl, rfl⟩
    · obtain rfl : i = xs.length := by omega
      rw [Nat.sub_self, List.replicate_zero, List.append_nil, List.take_length]
      exact join_intro [(3, .own 10 0 xs.length true)] (by simp [eget]) rfl
  · rintro st rfl
    simp only [W1, W2, W3, popTo, memb, res, wres, env0, byteAt, optI, cutB, cutL, sliceR, strR, ldCells, ldR, iaR, faR, lenR, lenSR, ixR, exR, nchkR, mxR, csR, up, ZV.av, ZV.fit, zfits, fits, fitsL, cellsOf, down, downL, downLL, stR, mkR, bsR, boxR, alR, apR, cpR, srcQ, solid, killC, killV, killE, killO, killH, hget, hset, hdel, pubV, pubC, pubO, renV, renC, renO, reduceIte, reduceCtorEq, Nat.reduceEqDiff, Nat.reduceLT, Nat.reduceAdd, Int.reduceToNat, Nat.reduceLeDiff, Int.reducePow, Int.reduceLE, Int.reduceLT]
    exact ⟨.own 10 0 xs.length true, [(10, .arr 46 true true 1 (encI .u32) xs)], by simp [retR, retA, ret1, hget, eget], by simp [retH, hget, retO, scalE_I], trivial, rfl, rfl⟩

def encLL : List Int → List DV := encR 1 (encI .u32)
def marks : List Int := [42405, 23130, 42330]

/-- A Given that holds these lists of limbs, and as copies the same. -/
def given (L : List (List Int)) : Heap :=
  [(1000, .blk 35 (.own 1001 0 L.length true :: .own 1002 0 L.length true :: List.replicate 18 .nilS)), (1001, .arr 22 true true 1 (encR 1 (encI .u32)) L), (1002, .arr 22 true true 1 (encR 1 (encI .u32)) L)]

theorem Given_Nat (fr : Bool) (a : List Int) (L : List (List Int)) (ha : (a.length + 6) * 4 ≤ 140737488355328) (hL : (L.length + 1) * 24 ≤ 140737488355328) :
    FSpec Tryd.prog 5 [.bptr 1000 0, uL fr a] (given L) (fun r hp' => r = uL true a ∧ hp' = given (L ++ [a ++ marks])) := by
  refine fspec_of_run k5 rfl (fun h => by cases h) ?_
  simp only [uL, given, c5, W1, W2, W3, popTo, memb, res, wres, env0, byteAt, optI, cutB, cutL, sliceR, strR, ldCells, ldR, iaR, faR, lenR, lenSR, ixR, exR, nchkR, mxR, csR, up, ZV.av, ZV.fit, zfits, fits, fitsL, cellsOf, down, downL, downLL, stR, mkR, bsR, boxR, alR, apR, cpR, srcQ, solid, killC, killV, killE, killO, killH, hget, hset, hdel, pubV, pubC, pubO, renV, renC, renO, reduceIte, reduceCtorEq, Nat.reduceEqDiff, Nat.reduceLT, Nat.reduceAdd, Int.reduceToNat, Nat.reduceLeDiff, Int.reducePow, Int.reduceLE, Int.reduceLT]
  refine callKL (slopeplain_CopyNat fr a (by omega)) (by simp only [uL, subs, subA, sub, subL, lends, lend, hget, true_and, and_true, reduceIte, reduceCtorEq, Nat.reduceEqDiff, imp_self, or_true, true_or, false_implies, Bool.false_eq_true, List.length_nil, List.map_cons, List.map_nil, encI_app, encB_app, encS_app, encR_app]) trivial ?_
  rintro r hp' ⟨rfl, rfl⟩
  refine ⟨fun i hi => ?_, ?_⟩
  · by_cases e : i = 10
    · subst e; exact .inr ⟨rfl, by omega⟩
    · exact absurd (by simp [hget]; omega) hi
  simp only [after, killM, killMH, hupd, hset, hget, OB.fixed, killE, killH, killO, killV, killC, put_some, put_none, eset_cons, eset_nil, reduceIte, Nat.reduceEqDiff, Nat.reduceLT, Bool.not_true, Bool.not_false, Bool.false_eq_true, List.map_cons, List.map_nil, reduceCtorEq]
  simp only [W1, W2, W3, popTo, memb, res, wres, env0, byteAt, optI, cutB, cutL, sliceR, strR, ldCells, ldR, iaR, faR, lenR, lenSR, ixR, exR, nchkR, mxR, csR, up, ZV.av, ZV.fit, zfits, fits, fitsL, cellsOf, down, downL, downLL, stR, mkR, bsR, boxR, alR, apR, cpR, srcQ, solid, killC, killV, killE, killO, killH, hget, hset, hdel, pubV, pubC, pubO, renV, renC, renO, reduceIte, reduceCtorEq, Nat.reduceEqDiff, Nat.reduceLT, Nat.reduceAdd, Int.reduceToNat, Nat.reduceLeDiff, Int.reducePow, Int.reduceLE, Int.reduceLT]
  refine ⟨marks, ⟨rfl, by show (a.length + 3) * 4 ≤ _; omega⟩, ?_⟩
  have e0 : List.take (a.length + marks.length) (a ++ marks) = a ++ marks := List.take_of_length_le (by simp)
  have ml : marks.length = 3 := rfl
  rw [e0]
  refine ⟨[a ++ marks], ⟨rfl, by simpa using hL⟩, ?_⟩
  have cp := slopeplain_CopyNat true (a ++ marks) (by rw [List.length_append, ml]; omega)
  have keep : ∀ (hp : Heap), hget hp 10 = none → ∀ i, hget [(10, OB.arr 46 true true 1 (encI .u32) (a ++ marks))] i ≠ none → hget ([] : Heap) i ≠ none ∨ (hget hp i = none ∧ i < 1000) := fun hp h0 i hi => by
    by_cases e : i = 10
    · subst e; exact .inr ⟨h0, by omega⟩
    · exact absurd (by simp [hget]; omega) hi
  have e1 : List.take a.length (a ++ marks) = a := List.take_left
  have fin : ∀ env, eget env 4 = .ro true 1 (encI .u32) (List.take a.length (a ++ marks)) → Ret [4] (given L) (fun r hp' => r = uL true a ∧ hp' = given (L ++ [a ++ marks]))
      ⟨env, [(1000, OB.blk 35 (.own 1001 0 (L.length + 1) true :: .own 1002 0 (L.length + [a ++ marks].length) true :: List.replicate 18 .nilS)), (1001, .arr 22 true true 1 (encR 1 (encI .u32)) (L ++ [a ++ marks])), (1002, .arr 22 true true 1 (encR 1 (encI .u32)) (L ++ [a ++ marks]))]⟩ := fun env h4 => by
    refine ⟨uL true a, given (L ++ [a ++ marks]), ?_, ?_, ?_, rfl, rfl⟩
    · simp only [List.map_cons, List.map_nil, h4, e1, uL, retR, retA, retL, ret1, ret1L, eget, hget, hset, St.set, eset, List.map_cons, List.map_nil, reduceIte, reduceCtorEq, Nat.reduceEqDiff, Nat.reduceLT, true_and, and_true, false_or, or_true, true_or, List.drop_zero, List.take_length, scalE_I, scalE_B, scalE_S]
    · simp [given, retH, hget, retO, ret1L, ret1, List.replicate_succ]
    · simp [given, keptH, hget, OB.fixed]
  have hcut : (0 : Int) ≤ a.length ∧ (a.length : Int) ≤ (a ++ marks).length := by rw [List.length_append]; omega
  refine ⟨?_, ?_⟩
  all_goals
    refine callKL cp (by simp only [uL, subs, subA, sub, subL, lends, lend, hget, true_and, and_true, reduceIte, reduceCtorEq, Nat.reduceEqDiff, imp_self, or_true, true_or, false_implies, Bool.false_eq_true, List.length_nil, List.map_cons, List.map_nil, encI_app, encB_app, encS_app, encR_app]) trivial ?_
    rintro r hp' ⟨rfl, rfl⟩
    refine ⟨keep _ rfl, ?_⟩
    simp only [after, killM, killMH, hupd, hset, hget, OB.fixed, killE, killH, killO, killV, killC, put_some, put_none, eset_cons, eset_nil, reduceIte, Nat.reduceEqDiff, Nat.reduceLT, Bool.not_true, Bool.not_false, Bool.false_eq_true, List.map_cons, List.map_nil, reduceCtorEq]
    simp only [W1, W2, W3, popTo, memb, res, wres, env0, byteAt, optI, cutB, cutL, sliceR, strR, ldCells, ldR, iaR, faR, lenR, lenSR, ixR, exR, nchkR, mxR, csR, up, ZV.av, ZV.fit, zfits, fits, fitsL, cellsOf, down, downL, downLL, stR, mkR, bsR, boxR, alR, apR, cpR, srcQ, solid, killC, killV, killE, killO, killH, hget, hset, hdel, pubV, pubC, pubO, renV, renC, renO, reduceIte, reduceCtorEq, Nat.reduceEqDiff, Nat.reduceLT, Nat.reduceAdd, Int.reduceToNat, Nat.reduceLeDiff, Int.reducePow, Int.reduceLE, Int.reduceLT]
    first
      | exact ⟨[a ++ marks], ⟨rfl, by simpa using hL⟩, fun _ => ⟨hcut, fin _ rfl⟩⟩
      | exact ⟨⟨[a ++ marks], ⟨rfl, by simpa using hL⟩, fun _ => ⟨hcut, fin _ rfl⟩⟩, ⟨[a ++ marks], ⟨rfl, by simpa using hL⟩, fun _ => ⟨hcut, fin _ rfl⟩⟩⟩

end Go.Vc
