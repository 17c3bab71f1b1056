/-
  Products: adding into a row; the split product.
-/
import Derived.Test.YtdlddbclcmecjaaNat7
import Derived.Test.YtdlddbclcmecjaaNat10
import Derived.Test.YtdlddbclcmecjaaNat8
set_option linter.unusedVariables false
set_option linter.unusedSimpArgs false
namespace Go.Vc
open Go
open Go.Proofs

/- natural.into: arguments 3, results in []; slots in use where its loops begin: [[0, 1, 2, 6, 7]] -/
def c133 : MC := .seq (.ops [ .op (some 6) none (.p (.mv (.i .u32 (0))))]) (.seq (.ops [ .op (some 7) none (.p (.mv (.i .i64 (0))))]) (.cut (.block 0 (.loop (.seq (.cut (.seq (.ops [ .op (some 9) none (.p (.mv (.t 7))), .op (some 10) none (.p (.mv (.t 1))), .op (some 11) none (.p (.len (.t 10))), .op (some 12) none (.p (.bin .lss (.t 9) (.t 11))), .op (some 13) none (.p (.mv (.t 12))), .op (some 14) (some (13, false)) (.p (.mv (.t 6))), .op (some 15) (some (13, false)) (.p (.bin .neq (.t 14) (.i .u32 (0)))), .op (some 16) none (.pick (.t 13) (.b true) (.t 15)), .gh (.drop [9, 10, 11, 12, 13, 14, 15])]) (.cond (.t 16) (.skip) (.exit 0)))) (.seq (.block 1 (.seq (.ops [ .op (some 8) none (.p (.mv (.i .u32 (0))))]) (.seq (.cut (.seq (.ops [ .op (some 19) none (.p (.mv (.t 7))), .op (some 20) none (.p (.mv (.t 1))), .op (some 21) none (.p (.len (.t 20))), .op (some 22) none (.p (.bin .lss (.t 19) (.t 21))), .gh (.drop [19, 20, 21])]) (.cond (.t 22) (.ops [ .op (some 23) none (.p (.mv (.t 1))), .op (some 24) none (.p (.mv (.t 7))), .op (some 25) none (.p (.ia 1 (.t 23) (.t 24))), .op (some 26) none (.p (.ld 1 false (.t 25))), .op (some 8) none (.p (.mv (.t 26))), .gh (.drop [23, 24, 25, 26])]) (.skip)))) (.seq (.seq (.ops [ .op (some 27) none (.p (.mv (.t 2))), .op (some 28) none (.p (.mv (.t 7))), .op (some 29) none (.p (.bin .add (.t 27) (.t 28))), .op (some 30) none (.p (.mv (.t 0))), .op (some 31) none (.p (.len (.t 30))), .op (some 32) none (.p (.bin .geq (.t 29) (.t 31))), .gh (.drop [27, 28, 29, 30, 31])]) (.cond (.t 32) (.ret) (.skip))) (.ops [ .op (some 34) none (.p (.mv (.t 0))), .op (some 35) none (.p (.mv (.t 2))), .op (some 36) none (.p (.mv (.t 7))), .op (some 37) none (.p (.bin .add (.t 35) (.t 36))), .op (some 38) none (.p (.mv (.t 0))), .op (some 39) none (.p (.mv (.t 2))), .op (some 40) none (.p (.mv (.t 7))), .op (some 41) none (.p (.bin .add (.t 39) (.t 40))), .op (some 42) none (.p (.ia 1 (.t 38) (.t 41))), .op (some 43) none (.p (.ld 1 false (.t 42))), .op (some 44) none (.p (.mv (.t 8))), .op (some 45) none (.p (.mv (.t 6))), .op (some 46) none (.call 131 [(.t 43), (.t 44), (.t 45)]), .op (some 33) none (.p (.mv (.t 46))), .op (some 47) none (.p (.ex (.t 33) 0)), .op (some 48) none (.p (.ex (.t 33) 1)), .op (some 49) none (.p (.ia 1 (.t 34) (.t 37))), .op none none (.w (.st 1 (.t 49) (.t 47))), .op (some 6) none (.p (.mv (.t 48))), .gh (.drop [8, 33, 34, 35, 36, 37, 38, 39, 40, 41, 42, 43, 44, 45, 46, 47, 48, 49])]))))) (.ops [ .op (some 17) none (.p (.mv (.t 7))), .op (some 18) none (.p (.bin .add (.t 17) (.i .i64 (1)))), .op (some 7) none (.p (.mv (.t 18))), .gh (.drop [17, 18])])))))))
theorem k133 : chkF Try.prog 133 3 [] c133 = true := by kernel_rfl

/- natural.times: arguments 2, results in [4]; slots in use where its loops begin: [] -/
def c107 : MC := .seq (.ops [ .op (some 4) none (.p (.mv .nil)), .gh (.drop [4])]) (.seq (.cut (.seq (.ops [ .op (some 14) none (.p (.mv (.t 0))), .op (some 15) none (.p (.len (.t 14))), .op (some 16) none (.p (.mv (.t 1))), .op (some 17) none (.p (.len (.t 16))), .op (some 18) none (.p (.bin .lss (.t 15) (.t 17))), .gh (.drop [14, 15, 16, 17])]) (.cond (.t 18) (.ops [ .op (some 19) none (.p (.mv (.t 1))), .op (some 20) none (.p (.mv (.t 0))), .op (some 0) none (.p (.mv (.t 19))), .op (some 1) none (.p (.mv (.t 20))), .gh (.drop [19, 20])]) (.skip)))) (.seq (.seq (.ops [ .op (some 21) none (.p (.mv (.t 1))), .op (some 22) none (.p (.len (.t 21))), .op (some 23) none (.p (.bin .leq (.t 22) (.i .i64 (40)))), .gh (.drop [21, 22])]) (.cond (.t 23) (.seq (.ops [ .op (some 24) none (.p (.mv (.t 0))), .op (some 25) none (.p (.mv (.t 1))), .op (some 26) none (.call 98 [(.t 24), (.t 25)]), .op (some 4) none (.p (.mv (.t 26))), .gh (.drop [0, 1, 24, 25, 26])]) (.ret)) (.skip))) (.seq (.ops [ .op (some 27) none (.p (.mv (.t 0))), .op (some 28) none (.p (.len (.t 27))), .op (some 29) none (.p (.bin .add (.t 28) (.i .i64 (1)))), .op (some 30) none (.p (.bin .quo (.t 29) (.i .i64 (2)))), .op (some 5) none (.p (.mv (.t 30))), .gh (.drop [27, 28, 29, 30])]) (.seq (.ops [ .op (some 31) none (.p (.mv (.t 0))), .op (some 32) none (.p (.mv (.t 5))), .op (some 33) none (.p (.mv (.t 5))), .op (some 34) none (.p (.sl 1 (.t 31) none (some (.t 32)) (some (.t 33)))), .op (some 35) none (.p (.mv (.t 0))), .op (some 36) none (.p (.mv (.t 5))), .op (some 37) none (.p (.mv (.t 0))), .op (some 38) none (.p (.len (.t 37))), .op (some 39) none (.p (.mv (.t 0))), .op (some 40) none (.p (.len (.t 39))), .op (some 41) none (.p (.sl 1 (.t 35) (some (.t 36)) (some (.t 38)) (some (.t 40)))), .op (some 6) none (.p (.mv (.t 34))), .op (some 7) none (.p (.mv (.t 41)))]) (.gh (.drop [31, 32, 33, 34, 35, 36, 37, 38, 39, 40, 41]) (.seq (.cut (.ops [ .op (some 42) none (.p (.mv (.t 0))), .op (some 43) none (.p (.len (.t 42))), .op (some 44) none (.p (.mv (.t 1))), .op (some 45) none (.p (.len (.t 44))), .op (some 46) none (.p (.bin .add (.t 43) (.t 45))), .op (some 47) none (.w (.mk 99 1 4 [.int .u32] (encI .u32) (0 : Int) (.t 46) (.t 46))), .op (some 8) none (.p (.mv (.t 47))), .gh (.drop [0, 42, 43, 44, 45, 46, 47])])) (.seq (.seq (.ops [ .op (some 48) none (.p (.mv (.t 1))), .gh (.ren 47 1000), .op (some 49) none (.p (.len (.t 48))), .op (some 50) none (.p (.mv (.t 5))), .op (some 51) none (.p (.bin .leq (.t 49) (.t 50))), .gh (.drop [48, 49, 50])]) (.cond (.t 51) (.seq (.ops [ .op (some 52) none (.p (.mv (.t 8))), .op (some 53) none (.p (.mv (.t 6))), .op (some 54) none (.p (.mv (.t 1))), .op (some 55) none (.call 107 [(.t 53), (.t 54)]), .op (some 56) none (.call 133 [(.t 52), (.t 55), (.i .i64 (0))]), .gh (.drop [6, 52, 53, 54, 55, 56])]) (.seq (.ops [ .op (some 57) none (.p (.mv (.t 8))), .op (some 58) none (.p (.mv (.t 7))), .op (some 59) none (.p (.mv (.t 1))), .op (some 60) none (.call 107 [(.t 58), (.t 59)]), .op (some 61) none (.p (.mv (.t 5))), .op (some 62) none (.call 133 [(.t 57), (.t 60), (.t 61)]), .gh (.drop [1, 5, 7, 57, 58, 59, 60, 61, 62])]) (.seq (.ops [ .op (some 63) none (.p (.mv (.t 8))), .gh (.ren 1000 47), .op (some 4) none (.p (.mv (.t 63))), .gh (.drop [8, 63])]) (.ret)))) (.skip))) (.seq (.ops [ .op (some 64) none (.p (.mv (.t 1))), .op (some 65) none (.p (.mv (.t 5))), .op (some 66) none (.p (.mv (.t 5))), .op (some 67) none (.p (.sl 1 (.t 64) none (some (.t 65)) (some (.t 66)))), .op (some 68) none (.p (.mv (.t 1))), .op (some 69) none (.p (.mv (.t 5))), .op (some 70) none (.p (.mv (.t 1))), .op (some 71) none (.p (.len (.t 70))), .op (some 72) none (.p (.mv (.t 1))), .op (some 73) none (.p (.len (.t 72))), .op (some 74) none (.p (.sl 1 (.t 68) (some (.t 69)) (some (.t 71)) (some (.t 73)))), .op (some 9) none (.p (.mv (.t 67))), .op (some 10) none (.p (.mv (.t 74)))]) (.gh (.drop [1, 64, 65, 66, 67, 68, 69, 70, 71, 72, 73, 74]) (.seq (.ops [ .op (some 75) none (.p (.mv (.t 6))), .op (some 76) none (.p (.mv (.t 9))), .op (some 77) none (.call 107 [(.t 75), (.t 76)]), .op (some 78) none (.p (.mv (.t 7))), .op (some 79) none (.p (.mv (.t 10))), .op (some 80) none (.call 107 [(.t 78), (.t 79)]), .op (some 11) none (.p (.mv (.t 77))), .op (some 12) none (.p (.mv (.t 80))), .gh (.drop [75, 76, 77, 78, 79, 80])]) (.seq (.ops [ .op (some 81) none (.p (.mv (.t 6))), .op (some 82) none (.p (.mv (.t 7))), .op (some 83) none (.call 97 [(.t 81), (.t 82)]), .op (some 84) none (.call 81 [(.t 83)]), .op (some 85) none (.p (.mv (.t 9))), .op (some 86) none (.p (.mv (.t 10))), .op (some 87) none (.call 97 [(.t 85), (.t 86)]), .op (some 88) none (.call 81 [(.t 87)]), .op (some 89) none (.call 107 [(.t 84), (.t 88)]), .op (some 13) none (.p (.mv (.t 89))), .gh (.drop [6, 7, 9, 10, 81, 82, 83, 84, 85, 86, 87, 88, 89])]) (.seq (.ops [ .op (some 90) none (.p (.mv (.t 13))), .op (some 91) none (.p (.mv (.t 11))), .op (some 92) none (.call 81 [(.t 91)]), .op (some 93) none (.call 105 [(.t 90), (.t 92)]), .op (some 94) none (.p (.mv (.t 12))), .op (some 95) none (.call 81 [(.t 94)]), .op (some 96) none (.call 105 [(.t 93), (.t 95)]), .op (some 13) none (.p (.mv (.t 96))), .gh (.drop [90, 91, 92, 93, 94, 95, 96])]) (.seq (.ops [ .op (some 97) none (.p (.mv (.t 8))), .op (some 98) none (.p (.mv (.t 11))), .op (some 99) none (.call 133 [(.t 97), (.t 98), (.i .i64 (0))]), .gh (.drop [11, 97, 98, 99])]) (.seq (.ops [ .op (some 100) none (.p (.mv (.t 8))), .op (some 101) none (.p (.mv (.t 12))), .op (some 102) none (.p (.mv (.t 5))), .op (some 103) none (.p (.bin .mul (.i .i64 (2)) (.t 102))), .op (some 104) none (.call 133 [(.t 100), (.t 101), (.t 103)]), .gh (.drop [12, 100, 101, 102, 103, 104])]) (.seq (.ops [ .op (some 105) none (.p (.mv (.t 8))), .op (some 106) none (.p (.mv (.t 13))), .op (some 107) none (.call 81 [(.t 106)]), .op (some 108) none (.p (.mv (.t 5))), .op (some 109) none (.call 133 [(.t 105), (.t 107), (.t 108)]), .gh (.drop [5, 13, 105, 106, 107, 108, 109])]) (.seq (.ops [ .op (some 110) none (.p (.mv (.t 8))), .gh (.ren 1000 47), .op (some 4) none (.p (.mv (.t 110))), .gh (.drop [8, 110])]) (.ret)))))))))))))))))
theorem k107 : chkF Try.prog 107 2 [4] c107 = true := by kernel_rfl



abbrev rowU (xs : List Int) : Heap := [(1000, .arr 99 false true 1 (encI .u32) xs)]

theorem ret_row {env : Env} {xs : List Int} {post : AV → Heap → Prop} {lent : List Int} (h : post (.tup []) (rowU xs)) : Ret [] (rowU lent) post ⟨env, rowU xs⟩ :=
  ⟨.tup [], rowU xs, trivial, by simp [rowU, retH, hget, retO], by simp [rowU, keptH, hget, OB.fixed], h⟩

theorem val_drop_getD (b : List Int) (i : Nat) : val (b.drop i) = b.getD i 0 + 4294967296 * val (b.drop (i + 1)) := by
  by_cases h : i < b.length
  · have he : b[i]? = some b[i] := List.getElem?_eq_getElem h
    rw [val_drop he, getD_of he]
  · rw [List.drop_eq_nil_of_le (by omega), List.drop_eq_nil_of_le (by omega), getD_out (by omega)]; simp [val]

theorem none_left {V X : Int} {p n : Nat} (hV : 0 ≤ V) (hX : 0 ≤ X) (h : V + 4294967296 ^ p * X < 4294967296 ^ n) (hp : n ≤ p) : X = 0 := by
  have h1 : (4294967296 : Int) ^ n ≤ 4294967296 ^ p := pow_mono hp
  have h2 := pow_pos' p
  by_cases h3 : X = 0
  · exact h3
  · have : (4294967296 : Int) ^ p * 1 ≤ 4294967296 ^ p * X := Int.mul_le_mul_of_nonneg_left (by omega) (by omega)
    omega

theorem into_step {V P e w c T D : Int} (hv : V + P * (c + (w + 4294967296 * D)) = T) : V + P * ((e + w + c) % 4294967296 - e) + P * 4294967296 * ((e + w + c) / 4294967296 + D) = T := by
  have hs := Int.mul_ediv_add_emod (e + w + c) 4294967296
  generalize (e + w + c) % 4294967296 = m at *
  generalize (e + w + c) / 4294967296 = d at *
  have h1 : P * (e + w + c) = P * (4294967296 * d + m) := by rw [hs]
  simp only [Int.mul_add, Int.mul_sub, ← Int.mul_assoc] at h1 hv ⊢
  omega

theorem natural_into (fr : Bool) (out b : List Int) (at_ : Nat) (hb : b.length * 4 ≤ 140737488355328) (ho : out.length * 4 ≤ 140737488355328) (ha : (at_ : Int) ≤ 281474976710656) (hT : val out + 4294967296 ^ at_ * val b < 4294967296 ^ out.length) (lo : lim out) :
    FSpec Try.prog 133 [.own 1000 0 out.length false, uL fr b, .int .i64 at_] (rowU out) (fun r hp' => r = .tup [] ∧ ∃ out', hp' = rowU out' ∧ out'.length = out.length ∧ lim out' ∧ val out' = val out + 4294967296 ^ at_ * val b) := by
  refine FSpec.of_facts fun hf => fspec_of_run k133 rfl (fun h => by cases h) ?_
  have lb : lim b := lim_of_factL hf.2.1
  simp only [uL, rowU, c133, W1, W2, W3, popTo, memb, res, wres, env0, byteAt, optI, cutB, cutL, sliceR, strR, ldCells, ldR, iaR, faR, lenR, lenSR, ixR, exR, nchkR, mxR, csR, up, ZV.av, ZV.fit, zfits, fits, fitsL, cellsOf, down, downL, downLL, stR, mkR, bsR, boxR, alR, apR, cpR, srcQ, solid, killC, killV, killE, killO, killH, hget, hset, hdel, pubV, pubC, pubO, renV, renC, renO, reduceIte, reduceCtorEq, Nat.reduceEqDiff, Nat.reduceLT, Nat.reduceAdd, Int.reduceToNat, Nat.reduceLeDiff, Int.reducePow, Int.reduceLE, Int.reduceLT]
  refine cut_intro (fun st => ∃ out' : List Int, out'.length = out.length ∧ lim out' ∧ val out' = val out + 4294967296 ^ at_ * val b ∧ st = ⟨[], rowU out'⟩) ?_ ?_
  · simp only [W1, W2, W3, popTo, memb, res, wres, env0, byteAt, optI, cutB, cutL, sliceR, strR, ldCells, ldR, iaR, faR, lenR, lenSR, ixR, exR, nchkR, mxR, csR, up, ZV.av, ZV.fit, zfits, fits, fitsL, cellsOf, down, downL, downLL, stR, mkR, bsR, boxR, alR, apR, cpR, srcQ, solid, killC, killV, killE, killO, killH, hget, hset, hdel, pubV, pubC, pubO, renV, renC, renO, reduceIte, reduceCtorEq, Nat.reduceEqDiff, Nat.reduceLT, Nat.reduceAdd, Int.reduceToNat, Nat.reduceLeDiff, Int.reducePow, Int.reduceLE, Int.reduceLT]
    refine loop_intro (fun m st => ∃ (i : Nat) (c : Int) (us : List Int), at_ + i ≤ out.length + at_ ∧ m = out.length + 1 - i ∧ 0 ≤ c ∧ c ≤ 1 ∧ us.length = out.length ∧ lim us ∧ val us + 4294967296 ^ (at_ + i) * (c + val (b.drop i)) = val out + 4294967296 ^ at_ * val b ∧
      st = ⟨[(0, .own 1000 0 out.length false), (1, .ro fr 1 (encI .u32) b), (2, .int .i64 at_), (6, .int .u32 c), (7, .int .i64 i)], rowU us⟩) (out.length + 1)
      [(0, .own 1000 0 out.length false), (1, .ro fr 1 (encI .u32) b), (2, .int .i64 at_), (6, .int .u32 0), (7, .int .i64 (0 : Nat))] (by simp [eget]) ⟨0, 0, out, by omega, by omega, by omega, by omega, rfl, lo, by simp, rfl⟩ ?_
    rintro m st ⟨i, c, us, hi, rfl, c0, c1, hul, lu, hv, rfl⟩
    simp only [rowU, W1, W2, W3, popTo, memb, res, wres, env0, byteAt, optI, cutB, cutL, sliceR, strR, ldCells, ldR, iaR, faR, lenR, lenSR, ixR, exR, nchkR, mxR, csR, up, ZV.av, ZV.fit, zfits, fits, fitsL, cellsOf, down, downL, downLL, stR, mkR, bsR, boxR, alR, apR, cpR, srcQ, solid, killC, killV, killE, killO, killH, hget, hset, hdel, pubV, pubC, pubO, renV, renC, renO, reduceIte, reduceCtorEq, Nat.reduceEqDiff, Nat.reduceLT, Nat.reduceAdd, Int.reduceToNat, Nat.reduceLeDiff, Int.reducePow, Int.reduceLE, Int.reduceLT]
    refine cut_intro (fun st => st = ⟨[(0, .own 1000 0 out.length false), (1, .ro fr 1 (encI .u32) b), (2, .int .i64 at_), (6, .int .u32 c), (7, .int .i64 i)], rowU us⟩) ?_ ?_
    · simp only [W1, W2, W3, popTo, memb, res, wres, env0, byteAt, optI, cutB, cutL, sliceR, strR, ldCells, ldR, iaR, faR, lenR, lenSR, ixR, exR, nchkR, mxR, csR, up, ZV.av, ZV.fit, zfits, fits, fitsL, cellsOf, down, downL, downLL, stR, mkR, bsR, boxR, alR, apR, cpR, srcQ, solid, killC, killV, killE, killO, killH, hget, hset, hdel, pubV, pubC, pubO, renV, renC, renO, reduceIte, reduceCtorEq, Nat.reduceEqDiff, Nat.reduceLT, Nat.reduceAdd, Int.reduceToNat, Nat.reduceLeDiff, Int.reducePow, Int.reduceLE, Int.reduceLT]
      intro _
      refine ⟨fun h => join_intro _ (by simp [eget]) rfl, fun h => ⟨fun h' => join_intro _ (by simp [eget]) rfl, fun h' => ?_⟩⟩
      have h' : c = 0 := Classical.not_not.1 h'
      rw [List.drop_eq_nil_of_le (by omega), h'] at hv
      refine join_intro [] (by simp) ⟨us, hul, lu, ?_, rfl⟩
      rw [← hv]; simp [val]
    · rintro st rfl
      simp only [rowU, W1, W2, W3, popTo, memb, res, wres, env0, byteAt, optI, cutB, cutL, sliceR, strR, ldCells, ldR, iaR, faR, lenR, lenSR, ixR, exR, nchkR, mxR, csR, up, ZV.av, ZV.fit, zfits, fits, fitsL, cellsOf, down, downL, downLL, stR, mkR, bsR, boxR, alR, apR, cpR, srcQ, solid, killC, killV, killE, killO, killH, hget, hset, hdel, pubV, pubC, pubO, renV, renC, renO, reduceIte, reduceCtorEq, Nat.reduceEqDiff, Nat.reduceLT, Nat.reduceAdd, Int.reduceToNat, Nat.reduceLeDiff, Int.reducePow, Int.reduceLE, Int.reduceLT]
      refine cut_intro (fun st => st = ⟨[(0, .own 1000 0 out.length false), (1, .ro fr 1 (encI .u32) b), (2, .int .i64 at_), (6, .int .u32 c), (7, .int .i64 i), (8, .int .u32 (b.getD i 0))], rowU us⟩) ?_ ?_
      · simp only [W1, W2, W3, popTo, memb, res, wres, env0, byteAt, optI, cutB, cutL, sliceR, strR, ldCells, ldR, iaR, faR, lenR, lenSR, ixR, exR, nchkR, mxR, csR, up, ZV.av, ZV.fit, zfits, fits, fitsL, cellsOf, down, downL, downLL, stR, mkR, bsR, boxR, alR, apR, cpR, srcQ, solid, killC, killV, killE, killO, killH, hget, hset, hdel, pubV, pubC, pubO, renV, renC, renO, reduceIte, reduceCtorEq, Nat.reduceEqDiff, Nat.reduceLT, Nat.reduceAdd, Int.reduceToNat, Nat.reduceLeDiff, Int.reducePow, Int.reduceLE, Int.reduceLT]
        intro _
        refine ⟨fun h1 => ⟨by omega, fun e he => join_intro _ ?_ rfl⟩, fun h1 => join_intro _ ?_ rfl⟩
        · simp [eget, he]
        · simp [eget, List.getElem?_eq_none (show b.length ≤ i by omega)]
      · rintro st rfl
        simp only [rowU, W1, W2, W3, popTo, memb, res, wres, env0, byteAt, optI, cutB, cutL, sliceR, strR, ldCells, ldR, iaR, faR, lenR, lenSR, ixR, exR, nchkR, mxR, csR, up, ZV.av, ZV.fit, zfits, fits, fitsL, cellsOf, down, downL, downLL, stR, mkR, bsR, boxR, alR, apR, cpR, srcQ, solid, killC, killV, killE, killO, killH, hget, hset, hdel, pubV, pubC, pubO, renV, renC, renO, reduceIte, reduceCtorEq, Nat.reduceEqDiff, Nat.reduceLT, Nat.reduceAdd, Int.reduceToNat, Nat.reduceLeDiff, Int.reducePow, Int.reduceLE, Int.reduceLT]
        refine ⟨by omega, fun _ => ⟨fun hge => ?_, fun hlt => ⟨by omega, by omega, fun _ => ⟨by omega, by omega, fun e he => ?_⟩⟩⟩⟩
        · refine ret_row ⟨rfl, us, rfl, hul, lu, ?_⟩
          have hd := (val_bound (lb.drop i)).1
          have := none_left (p := at_ + i) (n := out.length) (X := c + val (b.drop i)) (val_bound lu).1 (by omega) (by rw [hv]; exact hT) (by omega)
          rw [this] at hv
          rw [← hv]; simp
        · have en : ((at_ : Int) + i).toNat = at_ + i := by omega
          rw [en] at he
          refine callK0 (bits_Add32 e (b.getD i 0) c) (by repeat (first | exact subs_nil | refine subs_int ?_ | refine subs_ro ?_ | refine subs_bool ?_ | refine subs_str ?_ | refine subs_nilro ?_ | refine subs_lits rfl ?_ | refine subs_all rfl rfl (by simp) ?_ | refine subs_own rfl rfl ?_ | refine subs_fn ?_)) fun r hr => ?_
          subst hr
          have hw := lb.getD i
          have hp := lu.get he
          simp only [rowU, W1, W2, W3, popTo, memb, res, wres, env0, byteAt, optI, cutB, cutL, sliceR, strR, ldCells, ldR, iaR, faR, lenR, lenSR, ixR, exR, nchkR, mxR, csR, up, ZV.av, ZV.fit, zfits, fits, fitsL, cellsOf, down, downL, downLL, stR, mkR, bsR, boxR, alR, apR, cpR, srcQ, solid, killC, killV, killE, killO, killH, hget, hset, hdel, pubV, pubC, pubO, renV, renC, renO, reduceIte, reduceCtorEq, Nat.reduceEqDiff, Nat.reduceLT, Nat.reduceAdd, Int.reduceToNat, Nat.reduceLeDiff, Int.reducePow, Int.reduceLE, Int.reduceLT]
          rw [en]
          refine fun _ => ⟨by omega, by omega, _, rfl, by omega, ?_⟩
          refine back_intro [(0, .own 1000 0 out.length false), (1, .ro fr 1 (encI .u32) b), (2, .int .i64 at_), (6, .int .u32 ((e + b.getD i 0 + c) / 4294967296)), (7, .int .i64 ((i + 1 : Nat) : Int))] (by simp [eget]) (by omega)
            ⟨i + 1, _, us.set (at_ + i) ((e + b.getD i 0 + c) % 4294967296), by omega, rfl, by omega, by omega, by simp [hul], lu.set _ (by omega), ?_, rfl⟩
          rw [val_set he, show at_ + (i + 1) = at_ + i + 1 by omega, pow_s]
          exact into_step (by rw [← val_drop_getD]; exact hv)
  · rintro st ⟨out', h1, h2, h3, rfl⟩
    simp only [rowU, W1, W2, W3, popTo, memb, res, wres, env0, byteAt, optI, cutB, cutL, sliceR, strR, ldCells, ldR, iaR, faR, lenR, lenSR, ixR, exR, nchkR, mxR, csR, up, ZV.av, ZV.fit, zfits, fits, fitsL, cellsOf, down, downL, downLL, stR, mkR, bsR, boxR, alR, apR, cpR, srcQ, solid, killC, killV, killE, killO, killH, hget, hset, hdel, pubV, pubC, pubO, renV, renC, renO, reduceIte, reduceCtorEq, Nat.reduceEqDiff, Nat.reduceLT, Nat.reduceAdd, Int.reduceToNat, Nat.reduceLeDiff, Int.reducePow, Int.reduceLE, Int.reduceLT]
    exact ret_row ⟨rfl, out', rfl, h1, h2, h3⟩

theorem callInto {Q : St → Prop} {k : List It} {env : Env} {d n : Nat} {fr app : Bool} (out b : List Int) (at_ : Nat) (hn : out.length = n) (hb : b.length * 4 ≤ 140737488355328) (ho : out.length * 4 ≤ 140737488355328) (ha : (at_ : Int) ≤ 281474976710656)
    (hT : val out + 4294967296 ^ at_ * val b < 4294967296 ^ out.length) (lo : lim out)
    (hk : ∀ out', out'.length = out.length → lim out' → val out' = val out + 4294967296 ^ at_ * val b → run Try.prog Q k ⟨eset env d (.tup []), rowU out'⟩) : callK Try.prog Q k (some d) ⟨env, rowU out⟩ 133 [.own 1000 0 n app, uL fr b, .int .i64 at_] := by
  subst hn
  refine callKL (natural_into fr out b at_ hb ho ha hT lo) ⟨⟨rfl, rfl, rfl, (fun h => by cases h), by simp [rowU, hget]⟩, ⟨(fun h => h), rfl⟩, ⟨rfl, rfl⟩, trivial⟩ (by simp [lends, lend, rowU, hget]) ?_
  rintro r hp' ⟨rfl, out', rfl, h1, h2, h3⟩
  refine ⟨fun i hi => .inl ?_, ?_⟩
  · simp only [rowU, hget] at hi ⊢
    by_cases e : 1000 = i
    · simp [e]
    · simp [e] at hi
  · simp only [rowU, after, killM, killMH, hupd, hset, hget, OB.fixed, killE, killH, killO, killV, killC, put_some, put_none, eset_cons, eset_nil, reduceIte, Nat.reduceEqDiff, Nat.reduceLT, Bool.not_true, Bool.not_false, Bool.false_eq_true, List.map_cons, List.map_nil, reduceCtorEq]
    exact hk out' h1 h2 h3

theorem prod_lt {xs ys : List Int} (hx : lim xs) (hy : lim ys) : val xs * val ys < 4294967296 ^ (xs.length + ys.length) := by
  have h1 := val_bound hx
  have h2 := val_bound hy
  rw [pow_add']
  have h3 : val xs * val ys ≤ val xs * 4294967296 ^ ys.length := Int.mul_le_mul_of_nonneg_left (by omega) h1.1
  have h4 : val xs * 4294967296 ^ ys.length < 4294967296 ^ xs.length * 4294967296 ^ ys.length := Int.mul_lt_mul_of_pos_right h1.2 (pow_pos' _)
  omega

theorem times_body (fr fr' : Bool) (xs ys : List Int) (hb : (xs.length + ys.length) * 4 ≤ 140737488355328)
    (ih : ∀ (fr fr' : Bool) (xs' ys' : List Int), xs'.length + ys'.length < xs.length + ys.length → FSpec0 Try.prog 107 [uL fr xs', uL fr' ys'] (fun r => ∃ zs, r = uL true zs ∧ lim zs ∧ zs.length = xs'.length + ys'.length ∧ val zs = val xs' * val ys')) :
    FSpec0 Try.prog 107 [uL fr xs, uL fr' ys] (fun r => ∃ zs, r = uL true zs ∧ lim zs ∧ zs.length = xs.length + ys.length ∧ val zs = val xs * val ys) := by
  refine FSpec0.of_facts fun hf => fspec0_of_run k107 ?_
  have lx : lim xs := lim_of_factL hf.1
  have ly : lim ys := lim_of_factL hf.2.1
  simp only [uL, c107, W1, W2, W3, popTo, memb, res, wres, env0, byteAt, optI, cutB, cutL, sliceR, strR, ldCells, ldR, iaR, faR, lenR, lenSR, ixR, exR, nchkR, mxR, csR, up, ZV.av, ZV.fit, zfits, fits, fitsL, cellsOf, down, downL, downLL, stR, mkR, bsR, boxR, alR, apR, cpR, srcQ, solid, killC, killV, killE, killO, killH, hget, hset, hdel, pubV, pubC, pubO, renV, renC, renO, reduceIte, reduceCtorEq, Nat.reduceEqDiff, Nat.reduceLT, Nat.reduceAdd, Int.reduceToNat, Nat.reduceLeDiff, Int.reducePow, Int.reduceLE, Int.reduceLT]
  refine cut_intro (fun st => ∃ (fa fb : Bool) (ps qs : List Int), qs.length ≤ ps.length ∧ ps.length + qs.length = xs.length + ys.length ∧ lim ps ∧ lim qs ∧ val ps * val qs = val xs * val ys ∧
    st = ⟨[(0, .ro fa 1 (encI .u32) ps), (1, .ro fb 1 (encI .u32) qs)], []⟩) ?_ ?_
  · simp only [W1, W2, W3, popTo, memb, res, wres, env0, byteAt, optI, cutB, cutL, sliceR, strR, ldCells, ldR, iaR, faR, lenR, lenSR, ixR, exR, nchkR, mxR, csR, up, ZV.av, ZV.fit, zfits, fits, fitsL, cellsOf, down, downL, downLL, stR, mkR, bsR, boxR, alR, apR, cpR, srcQ, solid, killC, killV, killE, killO, killH, hget, hset, hdel, pubV, pubC, pubO, renV, renC, renO, reduceIte, reduceCtorEq, Nat.reduceEqDiff, Nat.reduceLT, Nat.reduceAdd, Int.reduceToNat, Nat.reduceLeDiff, Int.reducePow, Int.reduceLE, Int.reduceLT]
    intro h1 h2
    refine ⟨fun h => ?_, fun h => ?_⟩
    · exact join_intro [(0, .ro fr' 1 (encI .u32) ys), (1, .ro fr 1 (encI .u32) xs)] (by simp [eget]) ⟨fr', fr, ys, xs, by omega, by omega, ly, lx, Int.mul_comm _ _, rfl⟩
    · exact join_intro [(0, .ro fr 1 (encI .u32) xs), (1, .ro fr' 1 (encI .u32) ys)] (by simp [eget]) ⟨fr, fr', xs, ys, by omega, by omega, lx, ly, rfl, rfl⟩
  rintro st ⟨fa, fb, ps, qs, hle, hsum, lp, lq, hpq, rfl⟩
  simp only [W1, W2, W3, popTo, memb, res, wres, env0, byteAt, optI, cutB, cutL, sliceR, strR, ldCells, ldR, iaR, faR, lenR, lenSR, ixR, exR, nchkR, mxR, csR, up, ZV.av, ZV.fit, zfits, fits, fitsL, cellsOf, down, downL, downLL, stR, mkR, bsR, boxR, alR, apR, cpR, srcQ, solid, killC, killV, killE, killO, killH, hget, hset, hdel, pubV, pubC, pubO, renV, renC, renO, reduceIte, reduceCtorEq, Nat.reduceEqDiff, Nat.reduceLT, Nat.reduceAdd, Int.reduceToNat, Nat.reduceLeDiff, Int.reducePow, Int.reduceLE, Int.reduceLT]
  rw [← hsum, ← hpq]
  rw [← hsum] at hb ih
  clear hf lx ly hpq hsum
  intro _
  refine ⟨fun h40 => ?_, fun h40 => ?_⟩
  · refine callK0 (natural_school fa fb ps qs hb) (by repeat (first | exact subs_nil | refine subs_int ?_ | refine subs_ro ?_ | refine subs_bool ?_ | refine subs_str ?_ | refine subs_nilro ?_ | refine subs_lits rfl ?_ | refine subs_all rfl rfl (by simp) ?_ | refine subs_own rfl rfl ?_ | refine subs_fn ?_)) ?_
    rintro r ⟨zs, rfl, lz, hz, hv⟩
    simp only [uL, W1, W2, W3, popTo, memb, res, wres, env0, byteAt, optI, cutB, cutL, sliceR, strR, ldCells, ldR, iaR, faR, lenR, lenSR, ixR, exR, nchkR, mxR, csR, up, ZV.av, ZV.fit, zfits, fits, fitsL, cellsOf, down, downL, downLL, stR, mkR, bsR, boxR, alR, apR, cpR, srcQ, solid, killC, killV, killE, killO, killH, hget, hset, hdel, pubV, pubC, pubO, renV, renC, renO, reduceIte, reduceCtorEq, Nat.reduceEqDiff, Nat.reduceLT, Nat.reduceAdd, Int.reduceToNat, Nat.reduceLeDiff, Int.reducePow, Int.reduceLE, Int.reduceLT]
    exact ret0 (uL true zs) (by simp only [uL, retR, retA, retL, ret1, ret1L, eget, hget, hset, St.set, eset, List.map_cons, List.map_nil, reduceIte, reduceCtorEq, Nat.reduceEqDiff, Nat.reduceLT, true_and, and_true, false_or, or_true, true_or, List.drop_zero, List.take_length, scalE_I, scalE_B, scalE_S]) ⟨zs, rfl, lz, hz, hv⟩
  · have hh : ((ps.length : Int) + 1) / 2 = (((ps.length + 1) / 2 : Nat) : Int) := by omega
    rw [hh]
    generalize hg : (ps.length + 1) / 2 = h
    have h1 : h < ps.length := by omega
    have h2 : ps.length ≤ 2 * h := by omega
    have h3 : 2 * h ≤ ps.length + 1 := by omega
    clear hh hg
    refine fun _ => ⟨by omega, fun _ => ⟨by omega, by omega, fun _ _ => ⟨by omega, ?_⟩⟩⟩
    rw [Int.toNat_natCast]
    have hP := val_split ps h (by omega)
    have hprod := prod_lt lp lq
    have bL := (val_bound (lp.take h)).1
    have bH := (val_bound (lp.drop h)).1
    have bQ := (val_bound lq).1
    have lL := lp.take h
    have lH := lp.drop h
    have nL : (ps.take h).length = h := by rw [List.length_take]; omega
    have nH : (ps.drop h).length = ps.length - h := List.length_drop
    generalize ps.take h = L at *
    generalize ps.drop h = H at *
    refine cut_intro (fun st => st = ⟨[(1, .ro fb 1 (encI .u32) qs), (5, .int .i64 h), (6, .ro fa 1 (encI .u32) L), (7, .ro fa 1 (encI .u32) H), (8, .own 47 0 (ps.length + qs.length) true)],
      [(47, .arr 99 false true 1 (encI .u32) (List.replicate (ps.length + qs.length) 0))]⟩) ?_ ?_
    · simp only [W1, W2, W3, popTo, memb, res, wres, env0, byteAt, optI, cutB, cutL, sliceR, strR, ldCells, ldR, iaR, faR, lenR, lenSR, ixR, exR, nchkR, mxR, csR, up, ZV.av, ZV.fit, zfits, fits, fitsL, cellsOf, down, downL, downLL, stR, mkR, bsR, boxR, alR, apR, cpR, srcQ, solid, killC, killV, killE, killO, killH, hget, hset, hdel, pubV, pubC, pubO, renV, renC, renO, reduceIte, reduceCtorEq, Nat.reduceEqDiff, Nat.reduceLT, Nat.reduceAdd, Int.reduceToNat, Nat.reduceLeDiff, Int.reducePow, Int.reduceLE, Int.reduceLT]
      intro _ _
      refine ⟨by omega, by omega, ?_⟩
      rw [show ((ps.length : Int) + qs.length).toNat = ps.length + qs.length by omega]
      refine ⟨_, Ent.trans (Ent.of_env (env' := [(1, .ro fb 1 (encI .u32) qs), (5, .int .i64 h), (6, .ro fa 1 (encI .u32) L), (7, .ro fa 1 (encI .u32) H), (8, .own 47 0 (ps.length + qs.length) true)]) (by simp [eget]))
        (Ent.fixr (id := 47) rfl (by intro e; have := congrArg List.length e; rw [List.length_replicate, List.length_nil] at this; omega) (by omega)), rfl⟩
    rintro st rfl
    simp only [W1, W2, W3, popTo, memb, res, wres, env0, byteAt, optI, cutB, cutL, sliceR, strR, ldCells, ldR, iaR, faR, lenR, lenSR, ixR, exR, nchkR, mxR, csR, up, ZV.av, ZV.fit, zfits, fits, fitsL, cellsOf, down, downL, downLL, stR, mkR, bsR, boxR, alR, apR, cpR, srcQ, solid, killC, killV, killE, killO, killH, hget, hset, hdel, pubV, pubC, pubO, renV, renC, renO, reduceIte, reduceCtorEq, Nat.reduceEqDiff, Nat.reduceLT, Nat.reduceAdd, Int.reduceToNat, Nat.reduceLeDiff, Int.reducePow, Int.reduceLE, Int.reduceLT]
    intro _
    refine ⟨fun hqh => ?_, fun hqh => ⟨by omega, fun _ _ => ⟨by omega, ?_⟩⟩⟩
    · refine callK0 (ih fa fb L qs (by omega)) (by repeat (first | exact subs_nil | refine subs_int ?_ | refine subs_ro ?_ | refine subs_bool ?_ | refine subs_str ?_ | refine subs_nilro ?_ | refine subs_lits rfl ?_ | refine subs_all rfl rfl (by simp) ?_ | refine subs_own rfl rfl ?_ | refine subs_fn ?_)) ?_
      rintro r ⟨z1, rfl, lz1, hz1, hv1⟩
      simp only [uL, W1, W2, W3, popTo, memb, res, wres, env0, byteAt, optI, cutB, cutL, sliceR, strR, ldCells, ldR, iaR, faR, lenR, lenSR, ixR, exR, nchkR, mxR, csR, up, ZV.av, ZV.fit, zfits, fits, fitsL, cellsOf, down, downL, downLL, stR, mkR, bsR, boxR, alR, apR, cpR, srcQ, solid, killC, killV, killE, killO, killH, hget, hset, hdel, pubV, pubC, pubO, renV, renC, renO, reduceIte, reduceCtorEq, Nat.reduceEqDiff, Nat.reduceLT, Nat.reduceAdd, Int.reduceToNat, Nat.reduceLeDiff, Int.reducePow, Int.reduceLE, Int.reduceLT]
      have e1 : val ps * val qs = val L * val qs + 4294967296 ^ h * (val H * val qs) := by rw [hP, Int.add_mul, Int.mul_assoc]
      have p1 := Int.mul_nonneg bL bQ
      have p2 := Int.mul_nonneg (Int.le_of_lt (pow_pos' h)) (Int.mul_nonneg bH bQ)
      refine callInto (n := ps.length + qs.length) (List.replicate (ps.length + qs.length) 0) z1 0 (by simp) (by omega) (by simp; omega) (by omega) (by simp only [val_rep, List.length_replicate, hv1]; simp; omega) (lim.rep _) ?_
      intro o1 ho1 lo1 hvo1
      simp only [val_rep, List.length_replicate, hv1, Int.pow_zero, Int.one_mul, Int.zero_add] at ho1 hvo1
      simp only [rowU, uL, W1, W2, W3, popTo, memb, res, wres, env0, byteAt, optI, cutB, cutL, sliceR, strR, ldCells, ldR, iaR, faR, lenR, lenSR, ixR, exR, nchkR, mxR, csR, up, ZV.av, ZV.fit, zfits, fits, fitsL, cellsOf, down, downL, downLL, stR, mkR, bsR, boxR, alR, apR, cpR, srcQ, solid, killC, killV, killE, killO, killH, hget, hset, hdel, pubV, pubC, pubO, renV, renC, renO, reduceIte, reduceCtorEq, Nat.reduceEqDiff, Nat.reduceLT, Nat.reduceAdd, Int.reduceToNat, Nat.reduceLeDiff, Int.reducePow, Int.reduceLE, Int.reduceLT]
      refine callK0 (ih fa fb H qs (by omega)) (by repeat (first | exact subs_nil | refine subs_int ?_ | refine subs_ro ?_ | refine subs_bool ?_ | refine subs_str ?_ | refine subs_nilro ?_ | refine subs_lits rfl ?_ | refine subs_all rfl rfl (by simp) ?_ | refine subs_own rfl rfl ?_ | refine subs_fn ?_)) ?_
      rintro r ⟨z2, rfl, lz2, hz2, hv2⟩
      simp only [uL, W1, W2, W3, popTo, memb, res, wres, env0, byteAt, optI, cutB, cutL, sliceR, strR, ldCells, ldR, iaR, faR, lenR, lenSR, ixR, exR, nchkR, mxR, csR, up, ZV.av, ZV.fit, zfits, fits, fitsL, cellsOf, down, downL, downLL, stR, mkR, bsR, boxR, alR, apR, cpR, srcQ, solid, killC, killV, killE, killO, killH, hget, hset, hdel, pubV, pubC, pubO, renV, renC, renO, reduceIte, reduceCtorEq, Nat.reduceEqDiff, Nat.reduceLT, Nat.reduceAdd, Int.reduceToNat, Nat.reduceLeDiff, Int.reducePow, Int.reduceLE, Int.reduceLT]
      refine callInto (n := ps.length + qs.length) o1 z2 h ho1 (by omega) (by omega) (by omega) (by rw [ho1, hvo1, hv2, ← e1]; exact hprod) lo1 ?_
      intro o2 ho2 lo2 hvo2
      simp only [rowU, uL, W1, W2, W3, popTo, memb, res, wres, env0, byteAt, optI, cutB, cutL, sliceR, strR, ldCells, ldR, iaR, faR, lenR, lenSR, ixR, exR, nchkR, mxR, csR, up, ZV.av, ZV.fit, zfits, fits, fitsL, cellsOf, down, downL, downLL, stR, mkR, bsR, boxR, alR, apR, cpR, srcQ, solid, killC, killV, killE, killO, killH, hget, hset, hdel, pubV, pubC, pubO, renV, renC, renO, reduceIte, reduceCtorEq, Nat.reduceEqDiff, Nat.reduceLT, Nat.reduceAdd, Int.reduceToNat, Nat.reduceLeDiff, Int.reducePow, Int.reduceLE, Int.reduceLT]
      refine ret0 (uL true o2) (by simp only [uL, retR, retA, retL, ret1, ret1L, eget, hget, hset, St.set, eset, List.map_cons, List.map_nil, reduceIte, reduceCtorEq, Nat.reduceEqDiff, Nat.reduceLT, true_and, and_true, false_or, or_true, true_or, List.drop_zero, List.take_length, scalE_I, scalE_B, scalE_S]; rw [List.take_of_length_le (by omega)]) ⟨o2, rfl, lo2, by omega, ?_⟩
      rw [hvo2, hvo1, hv2, e1]
    · have hQ := val_split qs h (by omega)
      have bM := (val_bound (lq.take h)).1
      have bN := (val_bound (lq.drop h)).1
      have lM := lq.take h
      have lN := lq.drop h
      have nM : (qs.take h).length = h := by rw [List.length_take]; omega
      have nN : (qs.drop h).length = qs.length - h := List.length_drop
      generalize qs.take h = M at *
      generalize qs.drop h = N at *
      have e1 : val ps * val qs = val L * val M + 4294967296 ^ h * (val L * val N + val H * val M) + 4294967296 ^ (2 * h) * (val H * val N) := by
        rw [hP, hQ, show 2 * h = h + h by omega, pow_add']
        simp only [Int.add_mul, Int.mul_add]
        rw [show val L * (4294967296 ^ h * val N) = 4294967296 ^ h * (val L * val N) from Int.mul_left_comm _ _ _, show 4294967296 ^ h * val H * (4294967296 ^ h * val N) = 4294967296 ^ h * 4294967296 ^ h * (val H * val N) from by rw [Int.mul_assoc, Int.mul_left_comm (val H), ← Int.mul_assoc], Int.mul_assoc (4294967296 ^ h) (val H) (val M)]
        omega
      have e2 : (val L + val H) * (val M + val N) = val L * val M + (val L * val N + val H * val M) + val H * val N := by
        simp only [Int.add_mul, Int.mul_add]; omega
      have p1 := Int.mul_nonneg bL bM
      have p2 := Int.mul_nonneg bL bN
      have p3 := Int.mul_nonneg bH bM
      have p4 := Int.mul_nonneg bH bN
      refine callK0 (ih fa fb L M (by omega)) (by repeat (first | exact subs_nil | refine subs_int ?_ | refine subs_ro ?_ | refine subs_bool ?_ | refine subs_str ?_ | refine subs_nilro ?_ | refine subs_lits rfl ?_ | refine subs_all rfl rfl (by simp) ?_ | refine subs_own rfl rfl ?_ | refine subs_fn ?_)) ?_
      rintro r ⟨z1, rfl, lz1, hz1, hv1⟩
      simp only [uL, W1, W2, W3, popTo, memb, res, wres, env0, byteAt, optI, cutB, cutL, sliceR, strR, ldCells, ldR, iaR, faR, lenR, lenSR, ixR, exR, nchkR, mxR, csR, up, ZV.av, ZV.fit, zfits, fits, fitsL, cellsOf, down, downL, downLL, stR, mkR, bsR, boxR, alR, apR, cpR, srcQ, solid, killC, killV, killE, killO, killH, hget, hset, hdel, pubV, pubC, pubO, renV, renC, renO, reduceIte, reduceCtorEq, Nat.reduceEqDiff, Nat.reduceLT, Nat.reduceAdd, Int.reduceToNat, Nat.reduceLeDiff, Int.reducePow, Int.reduceLE, Int.reduceLT]
      refine callK0 (ih fa fb H N (by omega)) (by repeat (first | exact subs_nil | refine subs_int ?_ | refine subs_ro ?_ | refine subs_bool ?_ | refine subs_str ?_ | refine subs_nilro ?_ | refine subs_lits rfl ?_ | refine subs_all rfl rfl (by simp) ?_ | refine subs_own rfl rfl ?_ | refine subs_fn ?_)) ?_
      rintro r ⟨z2, rfl, lz2, hz2, hv2⟩
      simp only [uL, W1, W2, W3, popTo, memb, res, wres, env0, byteAt, optI, cutB, cutL, sliceR, strR, ldCells, ldR, iaR, faR, lenR, lenSR, ixR, exR, nchkR, mxR, csR, up, ZV.av, ZV.fit, zfits, fits, fitsL, cellsOf, down, downL, downLL, stR, mkR, bsR, boxR, alR, apR, cpR, srcQ, solid, killC, killV, killE, killO, killH, hget, hset, hdel, pubV, pubC, pubO, renV, renC, renO, reduceIte, reduceCtorEq, Nat.reduceEqDiff, Nat.reduceLT, Nat.reduceAdd, Int.reduceToNat, Nat.reduceLeDiff, Int.reducePow, Int.reduceLE, Int.reduceLT]
      refine callK0 (natural_plus fa fa L H (by omega) (by omega)) (by repeat (first | exact subs_nil | refine subs_int ?_ | refine subs_ro ?_ | refine subs_bool ?_ | refine subs_str ?_ | refine subs_nilro ?_ | refine subs_lits rfl ?_ | refine subs_all rfl rfl (by simp) ?_ | refine subs_own rfl rfl ?_ | refine subs_fn ?_)) ?_
      rintro r ⟨s1, rfl, ls1, hs1, hvs1⟩
      simp only [uL, W1, W2, W3, popTo, memb, res, wres, env0, byteAt, optI, cutB, cutL, sliceR, strR, ldCells, ldR, iaR, faR, lenR, lenSR, ixR, exR, nchkR, mxR, csR, up, ZV.av, ZV.fit, zfits, fits, fitsL, cellsOf, down, downL, downLL, stR, mkR, bsR, boxR, alR, apR, cpR, srcQ, solid, killC, killV, killE, killO, killH, hget, hset, hdel, pubV, pubC, pubO, renV, renC, renO, reduceIte, reduceCtorEq, Nat.reduceEqDiff, Nat.reduceLT, Nat.reduceAdd, Int.reduceToNat, Nat.reduceLeDiff, Int.reducePow, Int.reduceLE, Int.reduceLT]
      refine call1 (natural_trim true s1 (by omega)) (by repeat (first | exact subs_nil | refine subs_int ?_ | refine subs_ro ?_ | refine subs_bool ?_ | refine subs_str ?_ | refine subs_nilro ?_ | refine subs_lits rfl ?_ | refine subs_all rfl rfl (by simp) ?_ | refine subs_own rfl rfl ?_ | refine subs_fn ?_)) ?_
      simp only [uL, W1, W2, W3, popTo, memb, res, wres, env0, byteAt, optI, cutB, cutL, sliceR, strR, ldCells, ldR, iaR, faR, lenR, lenSR, ixR, exR, nchkR, mxR, csR, up, ZV.av, ZV.fit, zfits, fits, fitsL, cellsOf, down, downL, downLL, stR, mkR, bsR, boxR, alR, apR, cpR, srcQ, solid, killC, killV, killE, killO, killH, hget, hset, hdel, pubV, pubC, pubO, renV, renC, renO, reduceIte, reduceCtorEq, Nat.reduceEqDiff, Nat.reduceLT, Nat.reduceAdd, Int.reduceToNat, Nat.reduceLeDiff, Int.reducePow, Int.reduceLE, Int.reduceLT]
      refine callK0 (natural_plus fb fb M N (by omega) (by omega)) (by repeat (first | exact subs_nil | refine subs_int ?_ | refine subs_ro ?_ | refine subs_bool ?_ | refine subs_str ?_ | refine subs_nilro ?_ | refine subs_lits rfl ?_ | refine subs_all rfl rfl (by simp) ?_ | refine subs_own rfl rfl ?_ | refine subs_fn ?_)) ?_
      rintro r ⟨s2, rfl, ls2, hs2, hvs2⟩
      simp only [uL, W1, W2, W3, popTo, memb, res, wres, env0, byteAt, optI, cutB, cutL, sliceR, strR, ldCells, ldR, iaR, faR, lenR, lenSR, ixR, exR, nchkR, mxR, csR, up, ZV.av, ZV.fit, zfits, fits, fitsL, cellsOf, down, downL, downLL, stR, mkR, bsR, boxR, alR, apR, cpR, srcQ, solid, killC, killV, killE, killO, killH, hget, hset, hdel, pubV, pubC, pubO, renV, renC, renO, reduceIte, reduceCtorEq, Nat.reduceEqDiff, Nat.reduceLT, Nat.reduceAdd, Int.reduceToNat, Nat.reduceLeDiff, Int.reducePow, Int.reduceLE, Int.reduceLT]
      refine call1 (natural_trim true s2 (by omega)) (by repeat (first | exact subs_nil | refine subs_int ?_ | refine subs_ro ?_ | refine subs_bool ?_ | refine subs_str ?_ | refine subs_nilro ?_ | refine subs_lits rfl ?_ | refine subs_all rfl rfl (by simp) ?_ | refine subs_own rfl rfl ?_ | refine subs_fn ?_)) ?_
      simp only [uL, W1, W2, W3, popTo, memb, res, wres, env0, byteAt, optI, cutB, cutL, sliceR, strR, ldCells, ldR, iaR, faR, lenR, lenSR, ixR, exR, nchkR, mxR, csR, up, ZV.av, ZV.fit, zfits, fits, fitsL, cellsOf, down, downL, downLL, stR, mkR, bsR, boxR, alR, apR, cpR, srcQ, solid, killC, killV, killE, killO, killH, hget, hset, hdel, pubV, pubC, pubO, renV, renC, renO, reduceIte, reduceCtorEq, Nat.reduceEqDiff, Nat.reduceLT, Nat.reduceAdd, Int.reduceToNat, Nat.reduceLeDiff, Int.reducePow, Int.reduceLE, Int.reduceLT]
      have t1 := trimL_len s1
      have t2 := trimL_len s2
      refine callK0 (ih true true (trimL s1) (trimL s2) (by omega)) (by repeat (first | exact subs_nil | refine subs_int ?_ | refine subs_ro ?_ | refine subs_bool ?_ | refine subs_str ?_ | refine subs_nilro ?_ | refine subs_lits rfl ?_ | refine subs_all rfl rfl (by simp) ?_ | refine subs_own rfl rfl ?_ | refine subs_fn ?_)) ?_
      rintro r ⟨z3, rfl, lz3, hz3, hv3⟩
      rw [val_trimL, val_trimL, hvs1, hvs2, e2] at hv3
      simp only [uL, W1, W2, W3, popTo, memb, res, wres, env0, byteAt, optI, cutB, cutL, sliceR, strR, ldCells, ldR, iaR, faR, lenR, lenSR, ixR, exR, nchkR, mxR, csR, up, ZV.av, ZV.fit, zfits, fits, fitsL, cellsOf, down, downL, downLL, stR, mkR, bsR, boxR, alR, apR, cpR, srcQ, solid, killC, killV, killE, killO, killH, hget, hset, hdel, pubV, pubC, pubO, renV, renC, renO, reduceIte, reduceCtorEq, Nat.reduceEqDiff, Nat.reduceLT, Nat.reduceAdd, Int.reduceToNat, Nat.reduceLeDiff, Int.reducePow, Int.reduceLE, Int.reduceLT]
      refine call1 (natural_trim true z1 (by omega)) (by repeat (first | exact subs_nil | refine subs_int ?_ | refine subs_ro ?_ | refine subs_bool ?_ | refine subs_str ?_ | refine subs_nilro ?_ | refine subs_lits rfl ?_ | refine subs_all rfl rfl (by simp) ?_ | refine subs_own rfl rfl ?_ | refine subs_fn ?_)) ?_
      simp only [uL, W1, W2, W3, popTo, memb, res, wres, env0, byteAt, optI, cutB, cutL, sliceR, strR, ldCells, ldR, iaR, faR, lenR, lenSR, ixR, exR, nchkR, mxR, csR, up, ZV.av, ZV.fit, zfits, fits, fitsL, cellsOf, down, downL, downLL, stR, mkR, bsR, boxR, alR, apR, cpR, srcQ, solid, killC, killV, killE, killO, killH, hget, hset, hdel, pubV, pubC, pubO, renV, renC, renO, reduceIte, reduceCtorEq, Nat.reduceEqDiff, Nat.reduceLT, Nat.reduceAdd, Int.reduceToNat, Nat.reduceLeDiff, Int.reducePow, Int.reduceLE, Int.reduceLT]
      have b3 := (val_bound lz3).2
      have u1 : (trimL z1).length ≤ z3.length := by rw [trimL_limbs lz1]; exact (limbs_len_le (val_bound lz1).1 _).2 (by omega)
      refine callK0 (natural_minus true true z3 (trimL z1) (by omega) (by rw [val_trimL]; omega) u1) (by repeat (first | exact subs_nil | refine subs_int ?_ | refine subs_ro ?_ | refine subs_bool ?_ | refine subs_str ?_ | refine subs_nilro ?_ | refine subs_lits rfl ?_ | refine subs_all rfl rfl (by simp) ?_ | refine subs_own rfl rfl ?_ | refine subs_fn ?_)) ?_
      rintro r ⟨z4, rfl, lz4, hz4, hv4⟩
      rw [val_trimL] at hv4
      simp only [uL, W1, W2, W3, popTo, memb, res, wres, env0, byteAt, optI, cutB, cutL, sliceR, strR, ldCells, ldR, iaR, faR, lenR, lenSR, ixR, exR, nchkR, mxR, csR, up, ZV.av, ZV.fit, zfits, fits, fitsL, cellsOf, down, downL, downLL, stR, mkR, bsR, boxR, alR, apR, cpR, srcQ, solid, killC, killV, killE, killO, killH, hget, hset, hdel, pubV, pubC, pubO, renV, renC, renO, reduceIte, reduceCtorEq, Nat.reduceEqDiff, Nat.reduceLT, Nat.reduceAdd, Int.reduceToNat, Nat.reduceLeDiff, Int.reducePow, Int.reduceLE, Int.reduceLT]
      refine call1 (natural_trim true z2 (by omega)) (by repeat (first | exact subs_nil | refine subs_int ?_ | refine subs_ro ?_ | refine subs_bool ?_ | refine subs_str ?_ | refine subs_nilro ?_ | refine subs_lits rfl ?_ | refine subs_all rfl rfl (by simp) ?_ | refine subs_own rfl rfl ?_ | refine subs_fn ?_)) ?_
      simp only [uL, W1, W2, W3, popTo, memb, res, wres, env0, byteAt, optI, cutB, cutL, sliceR, strR, ldCells, ldR, iaR, faR, lenR, lenSR, ixR, exR, nchkR, mxR, csR, up, ZV.av, ZV.fit, zfits, fits, fitsL, cellsOf, down, downL, downLL, stR, mkR, bsR, boxR, alR, apR, cpR, srcQ, solid, killC, killV, killE, killO, killH, hget, hset, hdel, pubV, pubC, pubO, renV, renC, renO, reduceIte, reduceCtorEq, Nat.reduceEqDiff, Nat.reduceLT, Nat.reduceAdd, Int.reduceToNat, Nat.reduceLeDiff, Int.reducePow, Int.reduceLE, Int.reduceLT]
      have b4 := (val_bound lz4).2
      have u2 : (trimL z2).length ≤ z4.length := by rw [trimL_limbs lz2]; exact (limbs_len_le (val_bound lz2).1 _).2 (by omega)
      refine callK0 (natural_minus true true z4 (trimL z2) (by omega) (by rw [val_trimL]; omega) u2) (by repeat (first | exact subs_nil | refine subs_int ?_ | refine subs_ro ?_ | refine subs_bool ?_ | refine subs_str ?_ | refine subs_nilro ?_ | refine subs_lits rfl ?_ | refine subs_all rfl rfl (by simp) ?_ | refine subs_own rfl rfl ?_ | refine subs_fn ?_)) ?_
      rintro r ⟨z5, rfl, lz5, hz5, hv5⟩
      rw [val_trimL] at hv5
      simp only [uL, W1, W2, W3, popTo, memb, res, wres, env0, byteAt, optI, cutB, cutL, sliceR, strR, ldCells, ldR, iaR, faR, lenR, lenSR, ixR, exR, nchkR, mxR, csR, up, ZV.av, ZV.fit, zfits, fits, fitsL, cellsOf, down, downL, downLL, stR, mkR, bsR, boxR, alR, apR, cpR, srcQ, solid, killC, killV, killE, killO, killH, hget, hset, hdel, pubV, pubC, pubO, renV, renC, renO, reduceIte, reduceCtorEq, Nat.reduceEqDiff, Nat.reduceLT, Nat.reduceAdd, Int.reduceToNat, Nat.reduceLeDiff, Int.reducePow, Int.reduceLE, Int.reduceLT]
      have hv6 : val z5 = val L * val N + val H * val M := by omega
      have q1 := Int.mul_nonneg (Int.le_of_lt (pow_pos' h)) (Int.add_nonneg p2 p3)
      have q2 := Int.mul_nonneg (Int.le_of_lt (pow_pos' (2 * h))) p4
      refine callInto (n := ps.length + qs.length) (List.replicate (ps.length + qs.length) 0) z1 0 (by simp) (by omega) (by simp; omega) (by omega) (by simp only [val_rep, List.length_replicate, hv1]; simp; omega) (lim.rep _) ?_
      intro o1 ho1 lo1 hvo1
      simp only [val_rep, List.length_replicate, hv1, Int.pow_zero, Int.one_mul, Int.zero_add] at ho1 hvo1
      simp only [rowU, uL, W1, W2, W3, popTo, memb, res, wres, env0, byteAt, optI, cutB, cutL, sliceR, strR, ldCells, ldR, iaR, faR, lenR, lenSR, ixR, exR, nchkR, mxR, csR, up, ZV.av, ZV.fit, zfits, fits, fitsL, cellsOf, down, downL, downLL, stR, mkR, bsR, boxR, alR, apR, cpR, srcQ, solid, killC, killV, killE, killO, killH, hget, hset, hdel, pubV, pubC, pubO, renV, renC, renO, reduceIte, reduceCtorEq, Nat.reduceEqDiff, Nat.reduceLT, Nat.reduceAdd, Int.reduceToNat, Nat.reduceLeDiff, Int.reducePow, Int.reduceLE, Int.reduceLT]
      rw [show (2 * (h : Int)) = ((2 * h : Nat) : Int) by omega]
      refine ⟨by omega, ?_⟩
      refine callInto (n := ps.length + qs.length) o1 z2 (2 * h) ho1 (by omega) (by omega) (by omega) (by rw [ho1, hvo1, hv2]; omega) lo1 ?_
      intro o2 ho2 lo2 hvo2
      simp only [rowU, uL, W1, W2, W3, popTo, memb, res, wres, env0, byteAt, optI, cutB, cutL, sliceR, strR, ldCells, ldR, iaR, faR, lenR, lenSR, ixR, exR, nchkR, mxR, csR, up, ZV.av, ZV.fit, zfits, fits, fitsL, cellsOf, down, downL, downLL, stR, mkR, bsR, boxR, alR, apR, cpR, srcQ, solid, killC, killV, killE, killO, killH, hget, hset, hdel, pubV, pubC, pubO, renV, renC, renO, reduceIte, reduceCtorEq, Nat.reduceEqDiff, Nat.reduceLT, Nat.reduceAdd, Int.reduceToNat, Nat.reduceLeDiff, Int.reducePow, Int.reduceLE, Int.reduceLT]
      refine call1 (natural_trim true z5 (by omega)) (by repeat (first | exact subs_nil | refine subs_int ?_ | refine subs_ro ?_ | refine subs_bool ?_ | refine subs_str ?_ | refine subs_nilro ?_ | refine subs_lits rfl ?_ | refine subs_all rfl rfl (by simp) ?_ | refine subs_own rfl rfl ?_ | refine subs_fn ?_)) ?_
      simp only [uL, W1, W2, W3, popTo, memb, res, wres, env0, byteAt, optI, cutB, cutL, sliceR, strR, ldCells, ldR, iaR, faR, lenR, lenSR, ixR, exR, nchkR, mxR, csR, up, ZV.av, ZV.fit, zfits, fits, fitsL, cellsOf, down, downL, downLL, stR, mkR, bsR, boxR, alR, apR, cpR, srcQ, solid, killC, killV, killE, killO, killH, hget, hset, hdel, pubV, pubC, pubO, renV, renC, renO, reduceIte, reduceCtorEq, Nat.reduceEqDiff, Nat.reduceLT, Nat.reduceAdd, Int.reduceToNat, Nat.reduceLeDiff, Int.reducePow, Int.reduceLE, Int.reduceLT]
      have t5 := trimL_len z5
      refine callInto (n := ps.length + qs.length) o2 (trimL z5) h (by omega) (by omega) (by omega) (by omega) (by rw [val_trimL, ho2, ho1, hvo2, hvo1, hv2, hv6]; omega) lo2 ?_
      intro o3 ho3 lo3 hvo3
      simp only [rowU, uL, W1, W2, W3, popTo, memb, res, wres, env0, byteAt, optI, cutB, cutL, sliceR, strR, ldCells, ldR, iaR, faR, lenR, lenSR, ixR, exR, nchkR, mxR, csR, up, ZV.av, ZV.fit, zfits, fits, fitsL, cellsOf, down, downL, downLL, stR, mkR, bsR, boxR, alR, apR, cpR, srcQ, solid, killC, killV, killE, killO, killH, hget, hset, hdel, pubV, pubC, pubO, renV, renC, renO, reduceIte, reduceCtorEq, Nat.reduceEqDiff, Nat.reduceLT, Nat.reduceAdd, Int.reduceToNat, Nat.reduceLeDiff, Int.reducePow, Int.reduceLE, Int.reduceLT]
      refine ret0 (uL true o3) (by simp only [uL, retR, retA, retL, ret1, ret1L, eget, hget, hset, St.set, eset, List.map_cons, List.map_nil, reduceIte, reduceCtorEq, Nat.reduceEqDiff, Nat.reduceLT, true_and, and_true, false_or, or_true, true_or, List.drop_zero, List.take_length, scalE_I, scalE_B, scalE_S]; rw [List.take_of_length_le (by omega)]) ⟨o3, rfl, lo3, by omega, ?_⟩
      rw [hvo3, hvo2, hvo1, hv2, val_trimL, hv6, e1]
      omega

theorem natural_times (fr fr' : Bool) (xs ys : List Int) (hb : (xs.length + ys.length) * 4 ≤ 140737488355328) :
    FSpec0 Try.prog 107 [uL fr xs, uL fr' ys] (fun r => ∃ zs, r = uL true zs ∧ lim zs ∧ zs.length = xs.length + ys.length ∧ val zs = val xs * val ys) := by
  have key : ∀ (n : Nat) (fr fr' : Bool) (xs ys : List Int), xs.length + ys.length = n → (xs.length + ys.length) * 4 ≤ 140737488355328 → FSpec0 Try.prog 107 [uL fr xs, uL fr' ys] (fun r => ∃ zs, r = uL true zs ∧ lim zs ∧ zs.length = xs.length + ys.length ∧ val zs = val xs * val ys) := by
    intro n
    induction n using Nat.strongRecOn with
    | ind n ih =>
      intro fr fr' xs ys hn hb
      exact times_body fr fr' xs ys hb fun f1 f2 xs' ys' hl => ih _ (hn ▸ hl) f1 f2 xs' ys' rfl (by omega)
  exact key _ fr fr' xs ys rfl hb

end Go.Vc
