/-
  Differences; the document's sums and differences.
-/
import Derived.Test.YtdlddbclcmecjaaNat6
import Derived.Test.YtdlddbclcmecjaaVc22
set_option linter.unusedVariables false
set_option linter.unusedSimpArgs false
namespace Go.Vc
open Go
open Go.Proofs

/- bits.Sub32: arguments 3, results in [6, 7]; slots in use where its loops begin: [] -/
def c132 : MC := .seq (.ops [ .op (some 6) none (.p (.mv (.i .u32 (0)))), .op (some 7) none (.p (.mv (.i .u32 (0)))), .gh (.drop [6, 7])]) (.seq (.ops [ .op (some 8) none (.p (.mv (.t 0))), .op (some 9) none (.p (.mv (.t 1))), .op (some 10) none (.p (.bin .sub (.t 8) (.t 9))), .op (some 11) none (.p (.mv (.t 2))), .op (some 12) none (.p (.bin .sub (.t 10) (.t 11))), .op (some 6) none (.p (.mv (.t 12))), .gh (.drop [2, 8, 9, 10, 11, 12])]) (.seq (.ops [ .op (some 13) none (.p (.mv (.t 0))), .op (some 14) none (.p (.un .xor (.t 13))), .op (some 15) none (.p (.mv (.t 1))), .op (some 16) none (.p (.bin .and (.t 14) (.t 15))), .op (some 17) none (.p (.mv (.t 0))), .op (some 18) none (.p (.mv (.t 1))), .op (some 19) none (.p (.bin .xor (.t 17) (.t 18))), .op (some 20) none (.p (.un .xor (.t 19))), .op (some 21) none (.p (.mv (.t 6))), .op (some 22) none (.p (.bin .and (.t 20) (.t 21))), .op (some 23) none (.p (.bin .or (.t 16) (.t 22))), .op (some 24) none (.p (.bin .shr (.t 23) (.i .u64 (31)))), .op (some 7) none (.p (.mv (.t 24))), .gh (.drop [0, 1, 13, 14, 15, 16, 17, 18, 19, 20, 21, 22, 23, 24])]) (.ret)))
theorem k132 : chkF Try.prog 132 3 [6, 7] c132 = true := by kernel_rfl

/- natural.minus: arguments 2, results in [4]; slots in use where its loops begin: [[0, 1, 5, 6, 13, 14]] -/
def c105 : MC := .seq (.ops [ .op (some 4) none (.p (.mv .nil)), .gh (.drop [4])]) (.seq (.ops [ .op (some 9) none (.p (.mv (.t 0))), .op (some 10) none (.p (.len (.t 9))), .op (some 11) none (.w (.mk 99 1 4 [.int .u32] (encI .u32) (0 : Int) (.t 10) (.t 10))), .op (some 5) none (.p (.mv (.t 11))), .gh (.drop [9, 10, 11])]) (.seq (.ops [ .op (some 6) none (.p (.mv (.i .u32 (0))))]) (.seq (.seq (.ops [ .op (some 12) none (.p (.mv (.t 0))), .op (some 13) none (.p (.len (.t 12))), .op (some 14) none (.p (.mv (.i .i64 (0)))), .gh (.drop [12])]) (.cut (.block 0 (.loop (.seq (.ops [ .op (some 15) none (.p (.bin .lss (.t 14) (.t 13)))]) (.seq (.cond (.t 15) (.skip) (.exit 0)) (.seq (.block 1 (.seq (.ops [ .op (some 16) none (.p (.mv (.t 14))), .op (some 7) none (.p (.mv (.t 16))), .gh (.drop [16])]) (.seq (.ops [ .op (some 8) none (.p (.mv (.i .u32 (0))))]) (.seq (.cut (.seq (.ops [ .op (some 17) none (.p (.mv (.t 7))), .op (some 18) none (.p (.mv (.t 1))), .op (some 19) none (.p (.len (.t 18))), .op (some 20) none (.p (.bin .lss (.t 17) (.t 19))), .gh (.drop [17, 18, 19])]) (.cond (.t 20) (.ops [ .op (some 21) none (.p (.mv (.t 1))), .op (some 22) none (.p (.mv (.t 7))), .op (some 23) none (.p (.ia 1 (.t 21) (.t 22))), .op (some 24) none (.p (.ld 1 false (.t 23))), .op (some 8) none (.p (.mv (.t 24))), .gh (.drop [21, 22, 23, 24])]) (.skip)))) (.ops [ .op (some 26) none (.p (.mv (.t 5))), .op (some 27) none (.p (.mv (.t 7))), .op (some 28) none (.p (.mv (.t 0))), .op (some 29) none (.p (.mv (.t 7))), .op (some 30) none (.p (.ia 1 (.t 28) (.t 29))), .op (some 31) none (.p (.ld 1 false (.t 30))), .op (some 32) none (.p (.mv (.t 8))), .op (some 33) none (.p (.mv (.t 6))), .op (some 34) none (.call 132 [(.t 31), (.t 32), (.t 33)]), .op (some 25) none (.p (.mv (.t 34))), .op (some 35) none (.p (.ex (.t 25) 0)), .op (some 36) none (.p (.ex (.t 25) 1)), .op (some 37) none (.p (.ia 1 (.t 26) (.t 27))), .op none none (.w (.st 1 (.t 37) (.t 35))), .op (some 6) none (.p (.mv (.t 36))), .gh (.drop [7, 8, 25, 26, 27, 28, 29, 30, 31, 32, 33, 34, 35, 36, 37])]))))) (.ops [ .op (some 38) none (.p (.bin .add (.t 14) (.i .i64 (1)))), .op (some 14) none (.p (.mv (.t 38))), .gh (.drop [38])])))))))) (.seq (.ops [ .op (some 39) none (.p (.mv (.t 5))), .op (some 4) none (.p (.mv (.t 39))), .gh (.drop [5, 39])]) (.ret)))))
theorem k105 : chkF Try.prog 105 2 [4] c105 = true := by kernel_rfl

/- sloperef1.at: arguments 2, results in [4]; slots in use where its loops begin: [] -/
def c111 : MC := .seq (.ops [ .op (some 4) none (.p (.mv (.i .u64 (0)))), .gh (.drop [4])]) (.seq (.seq (.ops [ .op (some 5) none (.p (.mv (.t 1))), .op (some 6) none (.p (.mv (.t 0))), .op (some 7) none (.p (.len (.t 6))), .op (some 8) none (.p (.bin .lss (.t 5) (.t 7))), .gh (.drop [5, 6, 7])]) (.cond (.t 8) (.seq (.ops [ .op (some 9) none (.p (.mv (.t 0))), .op (some 10) none (.p (.mv (.t 1))), .op (some 11) none (.p (.ia 1 (.t 9) (.t 10))), .op (some 12) none (.p (.ld 1 false (.t 11))), .op (some 13) none (.p (.cv .u64 (.t 12))), .op (some 4) none (.p (.mv (.t 13))), .gh (.drop [0, 1, 9, 10, 11, 12, 13])]) (.ret)) (.skip))) (.seq (.ops [ .op (some 4) none (.p (.mv (.i .u64 (0))))]) (.ret)))
theorem k111 : chkF Try.prog 111 2 [4] c111 = true := by kernel_rfl

/- sloperef1.plus: arguments 2, results in [4]; slots in use where its loops begin: [[0, 1, 5, 6, 7]] -/
def c100 : MC := .seq (.ops [ .op (some 4) none (.p (.mv .nil)), .gh (.drop [4])]) (.seq (.ops [ .op (some 5) none (.p (.mv .nil))]) (.seq (.ops [ .op (some 6) none (.p (.mv (.i .u64 (0))))]) (.seq (.seq (.ops [ .op (some 7) none (.p (.mv (.i .i64 (0))))]) (.cut (.block 0 (.loop (.seq (.cut (.seq (.ops [ .op (some 9) none (.p (.mv (.t 7))), .op (some 10) none (.p (.mv (.t 0))), .op (some 11) none (.p (.len (.t 10))), .op (some 12) none (.p (.bin .lss (.t 9) (.t 11))), .op (some 13) none (.p (.mv (.t 12))), .op (some 14) (some (13, false)) (.p (.mv (.t 7))), .op (some 15) (some (13, false)) (.p (.mv (.t 1))), .op (some 16) (some (13, false)) (.p (.len (.t 15))), .op (some 17) (some (13, false)) (.p (.bin .lss (.t 14) (.t 16))), .op (some 18) none (.pick (.t 13) (.b true) (.t 17)), .gh (.drop [9, 10, 11, 12, 13, 14, 15, 16, 17])]) (.cond (.t 18) (.skip) (.exit 0)))) (.seq (.block 1 (.seq (.ops [ .op (some 21) none (.p (.mv (.t 0))), .op (some 22) none (.p (.mv (.t 7))), .op (some 23) none (.call 111 [(.t 21), (.t 22)]), .op (some 24) none (.p (.mv (.t 1))), .op (some 25) none (.p (.mv (.t 7))), .op (some 26) none (.call 111 [(.t 24), (.t 25)]), .op (some 27) none (.p (.bin .add (.t 23) (.t 26))), .op (some 28) none (.p (.mv (.t 6))), .op (some 29) none (.p (.bin .add (.t 27) (.t 28))), .op (some 8) none (.p (.mv (.t 29))), .gh (.drop [6, 21, 22, 23, 24, 25, 26, 27, 28, 29])]) (.seq (.ops [ .op (some 30) none (.p (.mv (.t 5))), .op (some 31) none (.p (.mv (.t 8))), .op (some 32) none (.p (.cv .u32 (.t 31))), .op (some 33) none (.w (.bs 99 1 [(.t 32)])), .op (some 34) none (.w (.ap 99 1 4 (encI .u32) (.t 30) (.t 33))), .op (some 5) none (.p (.mv (.t 34))), .gh (.drop [30, 31, 32, 33, 34])]) (.ops [ .op (some 35) none (.p (.mv (.t 8))), .op (some 36) none (.p (.bin .shr (.t 35) (.i .u64 (32)))), .op (some 6) none (.p (.mv (.t 36))), .gh (.drop [8, 35, 36])])))) (.ops [ .op (some 19) none (.p (.mv (.t 7))), .op (some 20) none (.p (.bin .add (.t 19) (.i .i64 (1)))), .op (some 7) none (.p (.mv (.t 20))), .gh (.drop [19, 20])]))))))) (.seq (.ops [ .op (some 37) none (.p (.mv (.t 5))), .op (some 38) none (.p (.mv (.t 6))), .op (some 39) none (.p (.cv .u32 (.t 38))), .op (some 40) none (.w (.bs 99 1 [(.t 39)])), .op (some 41) none (.w (.ap 99 1 4 (encI .u32) (.t 37) (.t 40))), .op (some 4) none (.p (.mv (.t 41))), .gh (.drop [5, 6, 37, 38, 39, 40, 41])]) (.ret)))))
theorem k100 : chkF Try.prog 100 2 [4] c100 = true := by kernel_rfl

/- sloperef1.minus: arguments 2, results in [4]; slots in use where its loops begin: [[0, 1, 5, 6, 7]] -/
def c106 : MC := .seq (.ops [ .op (some 4) none (.p (.mv .nil)), .gh (.drop [4])]) (.seq (.ops [ .op (some 5) none (.p (.mv .nil))]) (.seq (.ops [ .op (some 6) none (.p (.mv (.i .u64 (0))))]) (.seq (.seq (.ops [ .op (some 7) none (.p (.mv (.i .i64 (0))))]) (.cut (.block 0 (.loop (.seq (.seq (.ops [ .op (some 9) none (.p (.mv (.t 7))), .op (some 10) none (.p (.mv (.t 0))), .op (some 11) none (.p (.len (.t 10))), .op (some 12) none (.p (.bin .lss (.t 9) (.t 11))), .gh (.drop [9, 10, 11])]) (.cond (.t 12) (.skip) (.exit 0))) (.seq (.block 1 (.seq (.ops [ .op (some 15) none (.p (.mv (.t 0))), .op (some 16) none (.p (.mv (.t 7))), .op (some 17) none (.call 111 [(.t 15), (.t 16)]), .op (some 18) none (.p (.bin .add (.i .u64 (4294967296)) (.t 17))), .op (some 19) none (.p (.mv (.t 1))), .op (some 20) none (.p (.mv (.t 7))), .op (some 21) none (.call 111 [(.t 19), (.t 20)]), .op (some 22) none (.p (.bin .sub (.t 18) (.t 21))), .op (some 23) none (.p (.mv (.t 6))), .op (some 24) none (.p (.bin .sub (.t 22) (.t 23))), .op (some 8) none (.p (.mv (.t 24))), .gh (.drop [6, 15, 16, 17, 18, 19, 20, 21, 22, 23, 24])]) (.seq (.ops [ .op (some 25) none (.p (.mv (.t 5))), .op (some 26) none (.p (.mv (.t 8))), .op (some 27) none (.p (.cv .u32 (.t 26))), .op (some 28) none (.w (.bs 99 1 [(.t 27)])), .op (some 29) none (.w (.ap 99 1 4 (encI .u32) (.t 25) (.t 28))), .op (some 5) none (.p (.mv (.t 29))), .gh (.drop [25, 26, 27, 28, 29])]) (.ops [ .op (some 30) none (.p (.mv (.t 8))), .op (some 31) none (.p (.bin .shr (.t 30) (.i .u64 (32)))), .op (some 32) none (.p (.bin .sub (.i .u64 (1)) (.t 31))), .op (some 6) none (.p (.mv (.t 32))), .gh (.drop [8, 30, 31, 32])])))) (.ops [ .op (some 13) none (.p (.mv (.t 7))), .op (some 14) none (.p (.bin .add (.t 13) (.i .i64 (1)))), .op (some 7) none (.p (.mv (.t 14))), .gh (.drop [13, 14])]))))))) (.seq (.ops [ .op (some 33) none (.p (.mv (.t 5))), .op (some 4) none (.p (.mv (.t 33))), .gh (.drop [5, 33])]) (.ret)))))
theorem k106 : chkF Try.prog 106 2 [4] c106 = true := by kernel_rfl



theorem bit_and_sr (a b : Nat) : (a &&& b) / 2147483648 = (a / 2147483648) &&& (b / 2147483648) := by
  have := Nat.shiftRight_and_distrib (a := a) (b := b) (i := 31)
  simpa [Nat.shiftRight_eq_div_pow] using this
theorem bit_or_sr (a b : Nat) : (a ||| b) / 2147483648 = (a / 2147483648) ||| (b / 2147483648) := by
  have := Nat.shiftRight_or_distrib (a := a) (b := b) (i := 31)
  simpa [Nat.shiftRight_eq_div_pow] using this
theorem bit_xor_sr (a b : Nat) : (a ^^^ b) / 2147483648 = (a / 2147483648) ^^^ (b / 2147483648) := by
  have := Nat.shiftRight_xor_distrib (a := a) (b := b) (i := 31)
  simpa [Nat.shiftRight_eq_div_pow] using this

theorem borrow_bit (x y c d : Nat) (hx : x < 4294967296) (hy : y < 4294967296) (hc : c ≤ 1) (hd : d = (x + 4294967296 + 4294967296 - y - c) % 4294967296) :
    (((4294967295 - x) &&& y) ||| ((4294967295 - (x ^^^ y)) &&& d)) / 2147483648 = if x < y + c then 1 else 0 := by
  have hz : x ^^^ y < 4294967296 := Nat.xor_lt_two_pow (n := 32) hx hy
  have hzz := bit_xor_sr x y
  have h1 : (4294967295 - x) / 2147483648 = 1 - x / 2147483648 := by omega
  have h2 : (4294967295 - (x ^^^ y)) / 2147483648 = 1 - (x ^^^ y) / 2147483648 := by omega
  rw [bit_or_sr, bit_and_sr, bit_and_sr, h1, h2, hzz]
  have hxl : x / 2147483648 = 0 ∨ x / 2147483648 = 1 := by omega
  have hyl : y / 2147483648 = 0 ∨ y / 2147483648 = 1 := by omega
  have hdl : d / 2147483648 = 0 ∨ d / 2147483648 = 1 := by omega
  rcases hxl with a | a <;> rcases hyl with b | b <;> rcases hdl with e | e <;> rw [a, b, e] <;> simp <;> omega

theorem bits_Sub32 (x y c : Int) (hc : c ≤ 1) : FSpec0 Try.prog 132 [.int .u32 x, .int .u32 y, .int .u32 c] (fun r => r = .tup [.int .u32 ((x - y - c) % 4294967296), .int .u32 (if x < y + c then 1 else 0)]) := by
  refine FSpec0.of_facts fun hf => fspec0_of_run k132 ?_
  obtain ⟨hx, hy, hcc, _⟩ := hf
  simp only [factV, inK] at hx hy hcc
  obtain ⟨x, rfl⟩ := Int.eq_ofNat_of_zero_le hx.1
  obtain ⟨y, rfl⟩ := Int.eq_ofNat_of_zero_le hy.1
  obtain ⟨c, rfl⟩ := Int.eq_ofNat_of_zero_le hcc.1
  simp only [c132, W1, W2, W3, popTo, memb, res, wres, env0, byteAt, optI, cutB, cutL, sliceR, strR, ldCells, ldR, iaR, faR, lenR, lenSR, ixR, exR, nchkR, mxR, csR, up, ZV.av, ZV.fit, zfits, fits, fitsL, cellsOf, down, downL, downLL, stR, mkR, bsR, boxR, alR, apR, cpR, srcQ, solid, killC, killV, killE, killO, killH, hget, hset, hdel, pubV, pubC, pubO, renV, renC, renO, reduceIte, reduceCtorEq, Nat.reduceEqDiff, Nat.reduceLT, Nat.reduceAdd, Int.reduceToNat, Nat.reduceLeDiff, Int.reducePow, Int.reduceLE, Int.reduceLT]
  have hz : x ^^^ y < 4294967296 := Nat.xor_lt_two_pow (n := 32) (by omega) (by omega)
  have e0 : (((x : Int) - y) % 4294967296 - c) % 4294967296 = (x - y - c) % 4294967296 := by omega
  have e1 : (4294967295 - (x : Int)).toNat = 4294967295 - x := by omega
  have e2 : (4294967295 - ((x ^^^ y : Nat) : Int)).toNat = 4294967295 - (x ^^^ y) := by omega
  have e3 : (((x : Int) - y - c) % 4294967296).toNat = (x + 4294967296 + 4294967296 - y - c) % 4294967296 := by omega
  have hb := borrow_bit x y c _ (by omega) (by omega) (by omega) rfl
  have eb : (((((4294967295 - x) &&& y) ||| ((4294967295 - (x ^^^ y)) &&& ((x + 4294967296 + 4294967296 - y - c) % 4294967296)) : Nat) : Int) / 2147483648) = if (x : Int) < y + c then 1 else 0 := by
    have := congrArg (Nat.cast : Nat → Int) hb
    rw [Int.natCast_ediv] at this
    rw [show (2147483648 : Int) = ((2147483648 : Nat) : Int) from rfl, this]
    split <;> split <;> omega
  simp only [e0, e1, e2, e3, Int.toNat_natCast, show (2 : Int) ^ 31 = 2147483648 from rfl, show min (31 : Nat) 32 = 31 from rfl]
  simp only [inK, eb]
  repeat' (first | (refine And.intro ?_ ?_) | intro _)
  all_goals first | omega | skip
  all_goals exact ret1' (by simp only [retR, retA, retL, ret1, ret1L, eget, hget, hset, St.set, eset, List.map_cons, List.map_nil, reduceIte, reduceCtorEq, Nat.reduceEqDiff, Nat.reduceLT, true_and, and_true, false_or, or_true, true_or, List.drop_zero, List.take_length, scalE_I, scalE_B, scalE_S])

theorem natural_minus (fr fr' : Bool) (xs ys : List Int) (hx : xs.length * 4 ≤ 140737488355328) (hle : val ys ≤ val xs) (hlen : ys.length ≤ xs.length) :
    FSpec0 Try.prog 105 [uL fr xs, uL fr' ys] (fun r => ∃ zs, r = uL true zs ∧ lim zs ∧ zs.length = xs.length ∧ val zs = val xs - val ys) := by
  refine FSpec0.of_facts fun hf => fspec0_of_run k105 ?_
  have lx : lim xs := lim_of_factL hf.1
  have ly : lim ys := lim_of_factL hf.2.1
  simp only [uL, c105, W1, W2, W3, popTo, memb, res, wres, env0, byteAt, optI, cutB, cutL, sliceR, strR, ldCells, ldR, iaR, faR, lenR, lenSR, ixR, exR, nchkR, mxR, csR, up, ZV.av, ZV.fit, zfits, fits, fitsL, cellsOf, down, downL, downLL, stR, mkR, bsR, boxR, alR, apR, cpR, srcQ, solid, killC, killV, killE, killO, killH, hget, hset, hdel, pubV, pubC, pubO, renV, renC, renO, reduceIte, reduceCtorEq, Nat.reduceEqDiff, Nat.reduceLT, Nat.reduceAdd, Int.reduceToNat, Nat.reduceLeDiff, Int.reducePow, Int.reduceLE, Int.reduceLT]
  intro _
  refine ⟨by omega, fun _ => ?_⟩
  refine cut_intro (fun st => ∃ zs : List Int, zs.length = xs.length ∧ lim zs ∧ val zs = val xs - val ys ∧ st = ⟨[(5, .own 11 0 xs.length true)], [(11, .arr 99 true true 1 (encI .u32) zs)]⟩) ?_ ?_
  · simp only [W1, W2, W3, popTo, memb, res, wres, env0, byteAt, optI, cutB, cutL, sliceR, strR, ldCells, ldR, iaR, faR, lenR, lenSR, ixR, exR, nchkR, mxR, csR, up, ZV.av, ZV.fit, zfits, fits, fitsL, cellsOf, down, downL, downLL, stR, mkR, bsR, boxR, alR, apR, cpR, srcQ, solid, killC, killV, killE, killO, killH, hget, hset, hdel, pubV, pubC, pubO, renV, renC, renO, reduceIte, reduceCtorEq, Nat.reduceEqDiff, Nat.reduceLT, Nat.reduceAdd, Int.reduceToNat, Nat.reduceLeDiff, Int.reducePow, Int.reduceLE, Int.reduceLT]
    refine loop_intro (fun m st => ∃ (i : Nat) (c : Int) (zs : List Int), i ≤ xs.length ∧ m = xs.length - i ∧ zs.length = i ∧ lim zs ∧ 0 ≤ c ∧ c ≤ 1 ∧ val zs - 4294967296 ^ i * c = val (xs.take i) - val (ys.take i) ∧
      st = ⟨[(0, .ro fr 1 (encI .u32) xs), (1, .ro fr' 1 (encI .u32) ys), (5, .own 11 0 xs.length true), (6, .int .u32 c), (13, .int .i64 xs.length), (14, .int .i64 i)], [(11, .arr 99 true true 1 (encI .u32) (zs ++ List.replicate (xs.length - i) 0))]⟩) xs.length
      [(0, .ro fr 1 (encI .u32) xs), (1, .ro fr' 1 (encI .u32) ys), (5, .own 11 0 xs.length true), (6, .int .u32 0), (13, .int .i64 xs.length), (14, .int .i64 (0 : Nat))] (by simp [eget]) ⟨0, 0, [], by omega, by omega, rfl, lim.nil, by omega, by omega, by simp [val], rfl⟩ ?_
    rintro m st ⟨i, c, zs, hi, rfl, hzl, lz, c0, c1, hv, rfl⟩
    simp only [W1, W2, W3, popTo, memb, res, wres, env0, byteAt, optI, cutB, cutL, sliceR, strR, ldCells, ldR, iaR, faR, lenR, lenSR, ixR, exR, nchkR, mxR, csR, up, ZV.av, ZV.fit, zfits, fits, fitsL, cellsOf, down, downL, downLL, stR, mkR, bsR, boxR, alR, apR, cpR, srcQ, solid, killC, killV, killE, killO, killH, hget, hset, hdel, pubV, pubC, pubO, renV, renC, renO, reduceIte, reduceCtorEq, Nat.reduceEqDiff, Nat.reduceLT, Nat.reduceAdd, Int.reduceToNat, Nat.reduceLeDiff, Int.reducePow, Int.reduceLE, Int.reduceLT]
    refine ⟨fun h0 => cut_intro (fun st => st = ⟨[(0, .ro fr 1 (encI .u32) xs), (1, .ro fr' 1 (encI .u32) ys), (5, .own 11 0 xs.length true), (6, .int .u32 c), (7, .int .i64 i), (8, .int .u32 (ys.getD i 0)), (13, .int .i64 xs.length), (14, .int .i64 i)], [(11, .arr 99 true true 1 (encI .u32) (zs ++ List.replicate (xs.length - i) 0))]⟩) ?_ ?_, fun h0 => ?_⟩
    · simp only [W1, W2, W3, popTo, memb, res, wres, env0, byteAt, optI, cutB, cutL, sliceR, strR, ldCells, ldR, iaR, faR, lenR, lenSR, ixR, exR, nchkR, mxR, csR, up, ZV.av, ZV.fit, zfits, fits, fitsL, cellsOf, down, downL, downLL, stR, mkR, bsR, boxR, alR, apR, cpR, srcQ, solid, killC, killV, killE, killO, killH, hget, hset, hdel, pubV, pubC, pubO, renV, renC, renO, reduceIte, reduceCtorEq, Nat.reduceEqDiff, Nat.reduceLT, Nat.reduceAdd, Int.reduceToNat, Nat.reduceLeDiff, Int.reducePow, Int.reduceLE, Int.reduceLT]
      intro _
      refine ⟨fun h1 => ⟨by omega, fun e he => join_intro _ ?_ rfl⟩, fun h1 => join_intro _ ?_ rfl⟩
      · simp [eget, he]
      · simp [eget, List.getElem?_eq_none (show ys.length ≤ i by omega)]
    · rintro st rfl
      simp only [W1, W2, W3, popTo, memb, res, wres, env0, byteAt, optI, cutB, cutL, sliceR, strR, ldCells, ldR, iaR, faR, lenR, lenSR, ixR, exR, nchkR, mxR, csR, up, ZV.av, ZV.fit, zfits, fits, fitsL, cellsOf, down, downL, downLL, stR, mkR, bsR, boxR, alR, apR, cpR, srcQ, solid, killC, killV, killE, killO, killH, hget, hset, hdel, pubV, pubC, pubO, renV, renC, renO, reduceIte, reduceCtorEq, Nat.reduceEqDiff, Nat.reduceLT, Nat.reduceAdd, Int.reduceToNat, Nat.reduceLeDiff, Int.reducePow, Int.reduceLE, Int.reduceLT]
      refine ⟨by omega, fun e he => call1 (bits_Sub32 e (ys.getD i 0) c c1) (by repeat (first | exact subs_nil | refine subs_int ?_ | refine subs_ro ?_ | refine subs_bool ?_ | refine subs_str ?_ | refine subs_nilro ?_ | refine subs_lits rfl ?_ | refine subs_all rfl rfl (by simp) ?_ | refine subs_own rfl rfl ?_ | refine subs_fn ?_)) ?_⟩
      simp only [W1, W2, W3, popTo, memb, res, wres, env0, byteAt, optI, cutB, cutL, sliceR, strR, ldCells, ldR, iaR, faR, lenR, lenSR, ixR, exR, nchkR, mxR, csR, up, ZV.av, ZV.fit, zfits, fits, fitsL, cellsOf, down, downL, downLL, stR, mkR, bsR, boxR, alR, apR, cpR, srcQ, solid, killC, killV, killE, killO, killH, hget, hset, hdel, pubV, pubC, pubO, renV, renC, renO, reduceIte, reduceCtorEq, Nat.reduceEqDiff, Nat.reduceLT, Nat.reduceAdd, Int.reduceToNat, Nat.reduceLeDiff, Int.reducePow, Int.reduceLE, Int.reduceLT]
      have hw := ly.getD i
      have hp := lx.get he
      have hbr : (0 : Int) ≤ (if e < ys.getD i 0 + c then 1 else 0) ∧ (if e < ys.getD i 0 + c then 1 else 0 : Int) ≤ 1 ∧ (e - ys.getD i 0 - c) % 4294967296 = e - ys.getD i 0 - c + 4294967296 * (if e < ys.getD i 0 + c then 1 else 0) := by split <;> omega
      generalize (if e < ys.getD i 0 + c then 1 else 0 : Int) = b at hbr ⊢
      obtain ⟨b0, b1, hs⟩ := hbr
      refine fun _ => ⟨by omega, by simp; omega, _, rfl, by omega, ?_⟩
      rw [set_rep zs xs.length i _ _ hzl (by omega)]
      refine back_intro [(0, .ro fr 1 (encI .u32) xs), (1, .ro fr' 1 (encI .u32) ys), (5, .own 11 0 xs.length true), (6, .int .u32 b), (13, .int .i64 xs.length), (14, .int .i64 ((i + 1 : Nat) : Int))] (by simp [eget]) (by omega)
        ⟨i + 1, _, zs ++ [(e - ys.getD i 0 - c) % 4294967296], by omega, rfl, by simp [hzl], lz.snoc (by omega), b0, b1, ?_, rfl⟩
      rw [val_snoc, val_take_succ he, val_take_getD, pow_s, hzl, hs, Int.mul_add, Int.mul_sub, Int.mul_sub, ← Int.mul_assoc]
      omega
    · obtain rfl : i = xs.length := by omega
      refine join_intro [(5, .own 11 0 xs.length true)] (by simp [eget]) ⟨zs, hzl, lz, ?_, ?_⟩
      · rw [List.take_length, List.take_of_length_le hlen] at hv
        have hz := val_bound lz
        rw [hzl] at hz
        have : c = 0 ∨ c = 1 := by omega
        rcases this with rfl | rfl <;> omega
      · rw [Nat.sub_self]; simp
  · rintro st ⟨zs, hzl, lz, hv, rfl⟩
    simp only [W1, W2, W3, popTo, memb, res, wres, env0, byteAt, optI, cutB, cutL, sliceR, strR, ldCells, ldR, iaR, faR, lenR, lenSR, ixR, exR, nchkR, mxR, csR, up, ZV.av, ZV.fit, zfits, fits, fitsL, cellsOf, down, downL, downLL, stR, mkR, bsR, boxR, alR, apR, cpR, srcQ, solid, killC, killV, killE, killO, killH, hget, hset, hdel, pubV, pubC, pubO, renV, renC, renO, reduceIte, reduceCtorEq, Nat.reduceEqDiff, Nat.reduceLT, Nat.reduceAdd, Int.reduceToNat, Nat.reduceLeDiff, Int.reducePow, Int.reduceLE, Int.reduceLT]
    exact ret0 (uL true zs) (by simp only [uL, retR, retA, retL, ret1, ret1L, eget, hget, hset, St.set, eset, List.map_cons, List.map_nil, reduceIte, reduceCtorEq, Nat.reduceEqDiff, Nat.reduceLT, true_and, and_true, false_or, or_true, true_or, List.drop_zero, List.take_length, scalE_I, scalE_B, scalE_S]; rw [List.take_of_length_le (by omega)]) ⟨zs, rfl, lz, hzl, hv⟩

theorem sloperef1_at (fr : Bool) (xs : List Int) (i : Nat) : FSpec0 Try.prog 111 [uL fr xs, .int .i64 i] (fun r => r = .int .u64 (xs.getD i 0)) := by
  refine FSpec0.of_facts fun hf => fspec0_of_run k111 ?_
  have lx : lim xs := lim_of_factL hf.1
  simp only [uL, c111, W1, W2, W3, popTo, memb, res, wres, env0, byteAt, optI, cutB, cutL, sliceR, strR, ldCells, ldR, iaR, faR, lenR, lenSR, ixR, exR, nchkR, mxR, csR, up, ZV.av, ZV.fit, zfits, fits, fitsL, cellsOf, down, downL, downLL, stR, mkR, bsR, boxR, alR, apR, cpR, srcQ, solid, killC, killV, killE, killO, killH, hget, hset, hdel, pubV, pubC, pubO, renV, renC, renO, reduceIte, reduceCtorEq, Nat.reduceEqDiff, Nat.reduceLT, Nat.reduceAdd, Int.reduceToNat, Nat.reduceLeDiff, Int.reducePow, Int.reduceLE, Int.reduceLT]
  intro _
  refine ⟨fun h => ⟨by omega, fun e he => fun _ => ret1' (by rw [getD_of he]; simp only [retR, retA, retL, ret1, ret1L, eget, hget, hset, St.set, eset, List.map_cons, List.map_nil, reduceIte, reduceCtorEq, Nat.reduceEqDiff, Nat.reduceLT, true_and, and_true, false_or, or_true, true_or, List.drop_zero, List.take_length, scalE_I, scalE_B, scalE_S])⟩, fun h => ret1' (by rw [getD_out h]; simp only [retR, retA, retL, ret1, ret1L, eget, hget, hset, St.set, eset, List.map_cons, List.map_nil, reduceIte, reduceCtorEq, Nat.reduceEqDiff, Nat.reduceLT, true_and, and_true, false_or, or_true, true_or, List.drop_zero, List.take_length, scalE_I, scalE_B, scalE_S])⟩

theorem sloperef1_plus (fr fr' : Bool) (xs ys : List Int) (hx : (xs.length + 1) * 4 ≤ 140737488355328) (hy : (ys.length + 1) * 4 ≤ 140737488355328) :
    FSpec0 Try.prog 100 [uL fr xs, uL fr' ys] (fun r => ∃ zs, r = uL true zs ∧ lim zs ∧ zs.length = max xs.length ys.length + 1 ∧ val zs = val xs + val ys) := by
  refine FSpec0.of_facts fun hf => fspec0_of_run k100 ?_
  have lx : lim xs := lim_of_factL hf.1
  have ly : lim ys := lim_of_factL hf.2.1
  simp only [uL, c100, W1, W2, W3, popTo, memb, res, wres, env0, byteAt, optI, cutB, cutL, sliceR, strR, ldCells, ldR, iaR, faR, lenR, lenSR, ixR, exR, nchkR, mxR, csR, up, ZV.av, ZV.fit, zfits, fits, fitsL, cellsOf, down, downL, downLL, stR, mkR, bsR, boxR, alR, apR, cpR, srcQ, solid, killC, killV, killE, killO, killH, hget, hset, hdel, pubV, pubC, pubO, renV, renC, renO, reduceIte, reduceCtorEq, Nat.reduceEqDiff, Nat.reduceLT, Nat.reduceAdd, Int.reduceToNat, Nat.reduceLeDiff, Int.reducePow, Int.reduceLE, Int.reduceLT]
  refine cut_intro (fun st => ∃ (c : Int) (zs : List Int), zs.length = max xs.length ys.length ∧ lim zs ∧ 0 ≤ c ∧ c ≤ 1 ∧ val zs + 4294967296 ^ (max xs.length ys.length) * c = val xs + val ys ∧
      st = ⟨[(5, .own 34 0 zs.length true), (6, .int .u64 c)], [(34, .arr 99 true true 1 (encI .u32) zs)]⟩) ?_ ?_
  · simp only [W1, W2, W3, popTo, memb, res, wres, env0, byteAt, optI, cutB, cutL, sliceR, strR, ldCells, ldR, iaR, faR, lenR, lenSR, ixR, exR, nchkR, mxR, csR, up, ZV.av, ZV.fit, zfits, fits, fitsL, cellsOf, down, downL, downLL, stR, mkR, bsR, boxR, alR, apR, cpR, srcQ, solid, killC, killV, killE, killO, killH, hget, hset, hdel, pubV, pubC, pubO, renV, renC, renO, reduceIte, reduceCtorEq, Nat.reduceEqDiff, Nat.reduceLT, Nat.reduceAdd, Int.reduceToNat, Nat.reduceLeDiff, Int.reducePow, Int.reduceLE, Int.reduceLT]
    refine loop_introE (fun m st => ∃ (i : Nat) (c : Int) (zs : List Int), i ≤ max xs.length ys.length ∧ m = max xs.length ys.length - i ∧ zs.length = i ∧ lim zs ∧ 0 ≤ c ∧ c ≤ 1 ∧ val zs + 4294967296 ^ i * c = val (xs.take i) + val (ys.take i) ∧
      st = ⟨[(0, .ro fr 1 (encI .u32) xs), (1, .ro fr' 1 (encI .u32) ys), (5, .own 34 0 zs.length true), (6, .int .u64 c), (7, .int .i64 i)], [(34, .arr 99 true true 1 (encI .u32) zs)]⟩) (max xs.length ys.length)
      (Ent.nilv 5 34 99 1 (encI .u32) rfl rfl (by omega) (by omega)) ⟨0, 0, [], by omega, by omega, rfl, lim.nil, by omega, by omega, by simp [val], rfl⟩ ?_
    rintro m st ⟨i, c, zs, hi, rfl, hzl, lz, c0, c1, hv, rfl⟩
    simp only [W1, W2, W3, popTo, memb, res, wres, env0, byteAt, optI, cutB, cutL, sliceR, strR, ldCells, ldR, iaR, faR, lenR, lenSR, ixR, exR, nchkR, mxR, csR, up, ZV.av, ZV.fit, zfits, fits, fitsL, cellsOf, down, downL, downLL, stR, mkR, bsR, boxR, alR, apR, cpR, srcQ, solid, killC, killV, killE, killO, killH, hget, hset, hdel, pubV, pubC, pubO, renV, renC, renO, reduceIte, reduceCtorEq, Nat.reduceEqDiff, Nat.reduceLT, Nat.reduceAdd, Int.reduceToNat, Nat.reduceLeDiff, Int.reducePow, Int.reduceLE, Int.reduceLT]
    refine cut_intro (fun st => i < max xs.length ys.length ∧ st = ⟨[(0, .ro fr 1 (encI .u32) xs), (1, .ro fr' 1 (encI .u32) ys), (5, .own 34 0 zs.length true), (6, .int .u64 c), (7, .int .i64 i)], [(34, .arr 99 true true 1 (encI .u32) zs)]⟩) ?_ ?_
    · simp only [W1, W2, W3, popTo, memb, res, wres, env0, byteAt, optI, cutB, cutL, sliceR, strR, ldCells, ldR, iaR, faR, lenR, lenSR, ixR, exR, nchkR, mxR, csR, up, ZV.av, ZV.fit, zfits, fits, fitsL, cellsOf, down, downL, downLL, stR, mkR, bsR, boxR, alR, apR, cpR, srcQ, solid, killC, killV, killE, killO, killH, hget, hset, hdel, pubV, pubC, pubO, renV, renC, renO, reduceIte, reduceCtorEq, Nat.reduceEqDiff, Nat.reduceLT, Nat.reduceAdd, Int.reduceToNat, Nat.reduceLeDiff, Int.reducePow, Int.reduceLE, Int.reduceLT]
      intro _
      have fin : ¬ i < max xs.length ys.length → ∀ env, eget env 5 = .own 34 0 zs.length true → eget env 6 = .int .u64 c → ∃ s', Ent ⟨env, [(34, .arr 99 true true 1 (encI .u32) zs)]⟩ s' ∧ ∃ (c : Int) (zs : List Int), zs.length = max xs.length ys.length ∧ lim zs ∧ 0 ≤ c ∧ c ≤ 1 ∧ val zs + 4294967296 ^ (max xs.length ys.length) * c = val xs + val ys ∧
          s' = ⟨[(5, .own 34 0 zs.length true), (6, .int .u64 c)], [(34, .arr 99 true true 1 (encI .u32) zs)]⟩ := fun hn env h5 h6 => by
        obtain rfl : i = max xs.length ys.length := by omega
        rw [List.take_of_length_le (by omega), List.take_of_length_le (by omega)] at hv
        exact join_intro [(5, .own 34 0 zs.length true), (6, .int .u64 c)] (by simp [eget, h5, h6]) ⟨c, zs, hzl, lz, c0, c1, hv, rfl⟩
      refine ⟨fun h => join_intro _ (by simp [eget]) ⟨by omega, rfl⟩, fun h => fun _ => ⟨fun h' => join_intro _ (by simp [eget]) ⟨by omega, rfl⟩, fun h' => fin (by omega) _ rfl rfl⟩⟩
    · rintro st ⟨hlt, rfl⟩
      simp only [W1, W2, W3, popTo, memb, res, wres, env0, byteAt, optI, cutB, cutL, sliceR, strR, ldCells, ldR, iaR, faR, lenR, lenSR, ixR, exR, nchkR, mxR, csR, up, ZV.av, ZV.fit, zfits, fits, fitsL, cellsOf, down, downL, downLL, stR, mkR, bsR, boxR, alR, apR, cpR, srcQ, solid, killC, killV, killE, killO, killH, hget, hset, hdel, pubV, pubC, pubO, renV, renC, renO, reduceIte, reduceCtorEq, Nat.reduceEqDiff, Nat.reduceLT, Nat.reduceAdd, Int.reduceToNat, Nat.reduceLeDiff, Int.reducePow, Int.reduceLE, Int.reduceLT]
      refine call1 (sloperef1_at fr xs i) (by repeat (first | exact subs_nil | refine subs_int ?_ | refine subs_ro ?_ | refine subs_bool ?_ | refine subs_str ?_ | refine subs_nilro ?_ | refine subs_lits rfl ?_ | refine subs_all rfl rfl (by simp) ?_ | refine subs_own rfl rfl ?_ | refine subs_fn ?_)) ?_
      simp only [W1, W2, W3, popTo, memb, res, wres, env0, byteAt, optI, cutB, cutL, sliceR, strR, ldCells, ldR, iaR, faR, lenR, lenSR, ixR, exR, nchkR, mxR, csR, up, ZV.av, ZV.fit, zfits, fits, fitsL, cellsOf, down, downL, downLL, stR, mkR, bsR, boxR, alR, apR, cpR, srcQ, solid, killC, killV, killE, killO, killH, hget, hset, hdel, pubV, pubC, pubO, renV, renC, renO, reduceIte, reduceCtorEq, Nat.reduceEqDiff, Nat.reduceLT, Nat.reduceAdd, Int.reduceToNat, Nat.reduceLeDiff, Int.reducePow, Int.reduceLE, Int.reduceLT]
      refine call1 (sloperef1_at fr' ys i) (by repeat (first | exact subs_nil | refine subs_int ?_ | refine subs_ro ?_ | refine subs_bool ?_ | refine subs_str ?_ | refine subs_nilro ?_ | refine subs_lits rfl ?_ | refine subs_all rfl rfl (by simp) ?_ | refine subs_own rfl rfl ?_ | refine subs_fn ?_)) ?_
      have hp := lx.getD i
      have hw := ly.getD i
      simp only [W1, W2, W3, popTo, memb, res, wres, env0, byteAt, optI, cutB, cutL, sliceR, strR, ldCells, ldR, iaR, faR, lenR, lenSR, ixR, exR, nchkR, mxR, csR, up, ZV.av, ZV.fit, zfits, fits, fitsL, cellsOf, down, downL, downLL, stR, mkR, bsR, boxR, alR, apR, cpR, srcQ, solid, killC, killV, killE, killO, killH, hget, hset, hdel, pubV, pubC, pubO, renV, renC, renO, reduceIte, reduceCtorEq, Nat.reduceEqDiff, Nat.reduceLT, Nat.reduceAdd, Int.reduceToNat, Nat.reduceLeDiff, Int.reducePow, Int.reduceLE, Int.reduceLT, inK]
      have e1 : ((xs.getD i 0 + ys.getD i 0) % 18446744073709551616 + c) % 18446744073709551616 = xs.getD i 0 + ys.getD i 0 + c := by omega
      rw [e1]
      refine ⟨[(xs.getD i 0 + ys.getD i 0 + c) % 4294967296], ⟨rfl, by simp; omega⟩, fun _ => ⟨by omega, ?_⟩⟩
      refine back_intro [(0, .ro fr 1 (encI .u32) xs), (1, .ro fr' 1 (encI .u32) ys), (5, .own 34 0 (zs ++ [(xs.getD i 0 + ys.getD i 0 + c) % 4294967296]).length true), (6, .int .u64 ((xs.getD i 0 + ys.getD i 0 + c) / 4294967296)), (7, .int .i64 ((i + 1 : Nat) : Int))] (by simp [eget]) (by omega)
        ⟨i + 1, _, zs ++ [(xs.getD i 0 + ys.getD i 0 + c) % 4294967296], by omega, rfl, by simp [hzl], lz.snoc (by omega), by omega, by omega, ?_, rfl⟩
      rw [val_snoc, val_take_getD, val_take_getD, pow_s, hzl]
      exact add_step (v := 0) hv
  · rintro st ⟨c, zs, hzl, lz, c0, c1, hv, rfl⟩
    simp only [W1, W2, W3, popTo, memb, res, wres, env0, byteAt, optI, cutB, cutL, sliceR, strR, ldCells, ldR, iaR, faR, lenR, lenSR, ixR, exR, nchkR, mxR, csR, up, ZV.av, ZV.fit, zfits, fits, fitsL, cellsOf, down, downL, downLL, stR, mkR, bsR, boxR, alR, apR, cpR, srcQ, solid, killC, killV, killE, killO, killH, hget, hset, hdel, pubV, pubC, pubO, renV, renC, renO, reduceIte, reduceCtorEq, Nat.reduceEqDiff, Nat.reduceLT, Nat.reduceAdd, Int.reduceToNat, Nat.reduceLeDiff, Int.reducePow, Int.reduceLE, Int.reduceLT]
    have ec : c % 4294967296 = c := by omega
    refine ⟨[c % 4294967296], ⟨rfl, by simp; omega⟩, ret0 (uL true (zs ++ [c])) (by rw [ec]; simp only [uL, retR, retA, retL, ret1, ret1L, eget, hget, hset, St.set, eset, List.map_cons, List.map_nil, reduceIte, reduceCtorEq, Nat.reduceEqDiff, Nat.reduceLT, true_and, and_true, false_or, or_true, true_or, List.drop_zero, List.take_length, scalE_I, scalE_B, scalE_S]; rw [List.take_of_length_le (by simp)]) ⟨zs ++ [c], rfl, lz.snoc (by omega), by simp [hzl], ?_⟩⟩
    rw [val_snoc, hzl]; exact hv

theorem sloperef1_minus (fr fr' : Bool) (xs ys : List Int) (hx : xs.length * 4 ≤ 140737488355328) (hle : val ys ≤ val xs) (hlen : ys.length ≤ xs.length) :
    FSpec0 Try.prog 106 [uL fr xs, uL fr' ys] (fun r => ∃ zs, r = uL true zs ∧ lim zs ∧ zs.length = xs.length ∧ val zs = val xs - val ys) := by
  refine FSpec0.of_facts fun hf => fspec0_of_run k106 ?_
  have lx : lim xs := lim_of_factL hf.1
  have ly : lim ys := lim_of_factL hf.2.1
  simp only [uL, c106, W1, W2, W3, popTo, memb, res, wres, env0, byteAt, optI, cutB, cutL, sliceR, strR, ldCells, ldR, iaR, faR, lenR, lenSR, ixR, exR, nchkR, mxR, csR, up, ZV.av, ZV.fit, zfits, fits, fitsL, cellsOf, down, downL, downLL, stR, mkR, bsR, boxR, alR, apR, cpR, srcQ, solid, killC, killV, killE, killO, killH, hget, hset, hdel, pubV, pubC, pubO, renV, renC, renO, reduceIte, reduceCtorEq, Nat.reduceEqDiff, Nat.reduceLT, Nat.reduceAdd, Int.reduceToNat, Nat.reduceLeDiff, Int.reducePow, Int.reduceLE, Int.reduceLT]
  refine cut_intro (fun st => ∃ (zs : List Int), zs.length = xs.length ∧ lim zs ∧ val zs = val xs - val ys ∧ st = ⟨[(5, .own 29 0 zs.length true)], [(29, .arr 99 true true 1 (encI .u32) zs)]⟩) ?_ ?_
  · simp only [W1, W2, W3, popTo, memb, res, wres, env0, byteAt, optI, cutB, cutL, sliceR, strR, ldCells, ldR, iaR, faR, lenR, lenSR, ixR, exR, nchkR, mxR, csR, up, ZV.av, ZV.fit, zfits, fits, fitsL, cellsOf, down, downL, downLL, stR, mkR, bsR, boxR, alR, apR, cpR, srcQ, solid, killC, killV, killE, killO, killH, hget, hset, hdel, pubV, pubC, pubO, renV, renC, renO, reduceIte, reduceCtorEq, Nat.reduceEqDiff, Nat.reduceLT, Nat.reduceAdd, Int.reduceToNat, Nat.reduceLeDiff, Int.reducePow, Int.reduceLE, Int.reduceLT]
    refine loop_introE (fun m st => ∃ (i : Nat) (c : Int) (zs : List Int), i ≤ xs.length ∧ m = xs.length - i ∧ zs.length = i ∧ lim zs ∧ 0 ≤ c ∧ c ≤ 1 ∧ val zs - 4294967296 ^ i * c = val (xs.take i) - val (ys.take i) ∧
      st = ⟨[(0, .ro fr 1 (encI .u32) xs), (1, .ro fr' 1 (encI .u32) ys), (5, .own 29 0 zs.length true), (6, .int .u64 c), (7, .int .i64 i)], [(29, .arr 99 true true 1 (encI .u32) zs)]⟩) xs.length
      (Ent.nilv 5 29 99 1 (encI .u32) rfl rfl (by omega) (by omega)) ⟨0, 0, [], by omega, by omega, rfl, lim.nil, by omega, by omega, by simp [val], rfl⟩ ?_
    rintro m st ⟨i, c, zs, hi, rfl, hzl, lz, c0, c1, hv, rfl⟩
    simp only [W1, W2, W3, popTo, memb, res, wres, env0, byteAt, optI, cutB, cutL, sliceR, strR, ldCells, ldR, iaR, faR, lenR, lenSR, ixR, exR, nchkR, mxR, csR, up, ZV.av, ZV.fit, zfits, fits, fitsL, cellsOf, down, downL, downLL, stR, mkR, bsR, boxR, alR, apR, cpR, srcQ, solid, killC, killV, killE, killO, killH, hget, hset, hdel, pubV, pubC, pubO, renV, renC, renO, reduceIte, reduceCtorEq, Nat.reduceEqDiff, Nat.reduceLT, Nat.reduceAdd, Int.reduceToNat, Nat.reduceLeDiff, Int.reducePow, Int.reduceLE, Int.reduceLT]
    refine fun _ => ⟨fun h0 => ?_, fun h0 => ?_⟩
    · refine call1 (sloperef1_at fr xs i) (by repeat (first | exact subs_nil | refine subs_int ?_ | refine subs_ro ?_ | refine subs_bool ?_ | refine subs_str ?_ | refine subs_nilro ?_ | refine subs_lits rfl ?_ | refine subs_all rfl rfl (by simp) ?_ | refine subs_own rfl rfl ?_ | refine subs_fn ?_)) ?_
      simp only [W1, W2, W3, popTo, memb, res, wres, env0, byteAt, optI, cutB, cutL, sliceR, strR, ldCells, ldR, iaR, faR, lenR, lenSR, ixR, exR, nchkR, mxR, csR, up, ZV.av, ZV.fit, zfits, fits, fitsL, cellsOf, down, downL, downLL, stR, mkR, bsR, boxR, alR, apR, cpR, srcQ, solid, killC, killV, killE, killO, killH, hget, hset, hdel, pubV, pubC, pubO, renV, renC, renO, reduceIte, reduceCtorEq, Nat.reduceEqDiff, Nat.reduceLT, Nat.reduceAdd, Int.reduceToNat, Nat.reduceLeDiff, Int.reducePow, Int.reduceLE, Int.reduceLT]
      refine call1 (sloperef1_at fr' ys i) (by repeat (first | exact subs_nil | refine subs_int ?_ | refine subs_ro ?_ | refine subs_bool ?_ | refine subs_str ?_ | refine subs_nilro ?_ | refine subs_lits rfl ?_ | refine subs_all rfl rfl (by simp) ?_ | refine subs_own rfl rfl ?_ | refine subs_fn ?_)) ?_
      have hp := lx.getD i
      have hw := ly.getD i
      have he := List.getElem?_eq_getElem (l := xs) (i := i) (by omega)
      simp only [W1, W2, W3, popTo, memb, res, wres, env0, byteAt, optI, cutB, cutL, sliceR, strR, ldCells, ldR, iaR, faR, lenR, lenSR, ixR, exR, nchkR, mxR, csR, up, ZV.av, ZV.fit, zfits, fits, fitsL, cellsOf, down, downL, downLL, stR, mkR, bsR, boxR, alR, apR, cpR, srcQ, solid, killC, killV, killE, killO, killH, hget, hset, hdel, pubV, pubC, pubO, renV, renC, renO, reduceIte, reduceCtorEq, Nat.reduceEqDiff, Nat.reduceLT, Nat.reduceAdd, Int.reduceToNat, Nat.reduceLeDiff, Int.reducePow, Int.reduceLE, Int.reduceLT, inK]
      have e1 : (((4294967296 + xs.getD i 0) % 18446744073709551616 - ys.getD i 0) % 18446744073709551616 - c) % 18446744073709551616 = 4294967296 + xs.getD i 0 - ys.getD i 0 - c := by omega
      rw [e1]
      generalize hS : 4294967296 + xs.getD i 0 - ys.getD i 0 - c = S
      refine ⟨[S % 4294967296], ⟨rfl, by simp; omega⟩, fun _ => ⟨by omega, ?_⟩⟩
      refine back_intro [(0, .ro fr 1 (encI .u32) xs), (1, .ro fr' 1 (encI .u32) ys), (5, .own 29 0 (zs ++ [S % 4294967296]).length true), (6, .int .u64 (1 - S / 4294967296)), (7, .int .i64 ((i + 1 : Nat) : Int))] (by simp [eget]; omega) (by omega)
        ⟨i + 1, _, zs ++ [S % 4294967296], by omega, rfl, by simp [hzl], lz.snoc (by omega), by omega, by omega, ?_, rfl⟩
      rw [val_snoc, val_take_getD, val_take_getD, pow_s, hzl]
      have h := Int.mul_ediv_add_emod S 4294967296
      have h1 : (4294967296 : Int) ^ i * S = 4294967296 ^ i * (4294967296 * (S / 4294967296) + S % 4294967296) := by rw [h]
      rw [← hS] at h1 ⊢
      simp only [Int.mul_add, Int.mul_sub, Int.mul_one, ← Int.mul_assoc] at h1 ⊢
      omega
    · obtain rfl : i = xs.length := by omega
      refine join_intro [(5, .own 29 0 zs.length true)] (by simp [eget]) ⟨zs, hzl, lz, ?_, rfl⟩
      rw [List.take_length, List.take_of_length_le hlen] at hv
      have hz := val_bound lz
      rw [hzl] at hz
      have : c = 0 ∨ c = 1 := by omega
      rcases this with rfl | rfl <;> omega
  · rintro st ⟨zs, hzl, lz, hv, rfl⟩
    simp only [W1, W2, W3, popTo, memb, res, wres, env0, byteAt, optI, cutB, cutL, sliceR, strR, ldCells, ldR, iaR, faR, lenR, lenSR, ixR, exR, nchkR, mxR, csR, up, ZV.av, ZV.fit, zfits, fits, fitsL, cellsOf, down, downL, downLL, stR, mkR, bsR, boxR, alR, apR, cpR, srcQ, solid, killC, killV, killE, killO, killH, hget, hset, hdel, pubV, pubC, pubO, renV, renC, renO, reduceIte, reduceCtorEq, Nat.reduceEqDiff, Nat.reduceLT, Nat.reduceAdd, Int.reduceToNat, Nat.reduceLeDiff, Int.reducePow, Int.reduceLE, Int.reduceLT]
    exact ret0 (uL true zs) (by simp only [uL, retR, retA, retL, ret1, ret1L, eget, hget, hset, St.set, eset, List.map_cons, List.map_nil, reduceIte, reduceCtorEq, Nat.reduceEqDiff, Nat.reduceLT, true_and, and_true, false_or, or_true, true_or, List.drop_zero, List.take_length, scalE_I, scalE_B, scalE_S]) ⟨zs, rfl, lz, hzl, hv⟩

end Go.Vc
