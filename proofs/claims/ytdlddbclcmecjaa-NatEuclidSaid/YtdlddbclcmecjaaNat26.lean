/-
  Gcd, Lcm: the program's and the document's.
-/
import Derived.Test.YtdlddbclcmecjaaNat25
import Derived.Test.YtdlddbclcmecjaaNat12
set_option linter.unusedVariables false
set_option linter.unusedSimpArgs false
namespace Go.Vc
open Go
open Go.Proofs

/- natural.Gcd: arguments 2, results in [4, 5]; slots in use where its loops begin: [[6, 7]] -/
def c74 : MC := .seq (.ops [ .op (some 4) none (.p (.mv .nil)), .op (some 5) none (.p (.mv (.i .i64 (0)))), .gh (.drop [4, 5])]) (.seq (.seq (.ops [ .op (some 10) none (.p (.mv (.t 0))), .op (some 11) none (.p (.mv (.t 1))), .op (some 12) none (.w (.bs 24 1 [(.t 10), (.t 11)])), .op (some 13) none (.call 102 [(.t 12)]), .op (some 14) none (.p (.un .not (.t 13))), .gh (.drop [10, 11, 12, 13])]) (.cond (.t 14) (.seq (.ops [ .op (some 4) none (.p (.mv .nil)), .op (some 5) none (.p (.mv (.i .i64 (20))))]) (.ret)) (.skip))) (.seq (.ops [ .op (some 15) none (.p (.mv (.t 0))), .op (some 16) none (.call 81 [(.t 15)]), .op (some 17) none (.p (.mv (.t 1))), .op (some 18) none (.call 81 [(.t 17)]), .op (some 6) none (.p (.mv (.t 16))), .op (some 7) none (.p (.mv (.t 18))), .gh (.drop [0, 1, 15, 16, 17, 18])]) (.seq (.cut (.block 0 (.loop (.seq (.seq (.ops [ .op (some 19) none (.p (.mv (.t 7))), .op (some 20) none (.p (.len (.t 19))), .op (some 21) none (.p (.bin .gtr (.t 20) (.i .i64 (0)))), .gh (.drop [19, 20])]) (.cond (.t 21) (.skip) (.exit 0))) (.block 1 (.seq (.ops [ .op (some 23) none (.p (.mv (.t 6))), .op (some 24) none (.p (.mv (.t 7))), .op (some 25) none (.call 115 [(.t 23), (.t 24)]), .op (some 22) none (.p (.mv (.t 25))), .op (some 26) none (.p (.ex (.t 22) 0)), .op (some 27) none (.p (.ex (.t 22) 1)), .op (some 8) none (.p (.mv (.t 26))), .op (some 9) none (.p (.mv (.t 27))), .gh (.drop [6, 8, 22, 23, 24, 25, 26, 27])]) (.ops [ .op (some 28) none (.p (.mv (.t 7))), .op (some 29) none (.p (.mv (.t 9))), .op (some 6) none (.p (.mv (.t 28))), .op (some 7) none (.p (.mv (.t 29))), .gh (.drop [9, 28, 29])]))))))) (.seq (.ops [ .op (some 30) none (.p (.mv (.t 6))), .op (some 4) none (.p (.mv (.t 30))), .op (some 5) none (.p (.mv (.i .i64 (0)))), .gh (.drop [6, 30])]) (.ret)))))
theorem k74 : chkF Try.prog 74 2 [4, 5] c74 = true := by kernel_rfl

/- natural.Lcm: arguments 2, results in [4, 5]; slots in use where its loops begin: [] -/
def c76 : MC := .seq (.ops [ .op (some 4) none (.p (.mv .nil)), .op (some 5) none (.p (.mv (.i .i64 (0)))), .gh (.drop [4, 5])]) (.seq (.ops [ .op (some 11) none (.p (.mv (.t 0))), .op (some 12) none (.p (.mv (.t 1))), .op (some 13) none (.call 74 [(.t 11), (.t 12)]), .op (some 10) none (.p (.mv (.t 13))), .op (some 14) none (.p (.ex (.t 10) 0)), .op (some 15) none (.p (.ex (.t 10) 1)), .op (some 6) none (.p (.mv (.t 14))), .op (some 7) none (.p (.mv (.t 15))), .gh (.drop [10, 11, 12, 13, 14, 15])]) (.seq (.seq (.ops [ .op (some 16) none (.p (.mv (.t 7))), .op (some 17) none (.p (.bin .neq (.t 16) (.i .i64 (0)))), .op (some 18) none (.p (.mv (.t 17))), .op (some 19) (some (18, false)) (.p (.mv (.t 0))), .op (some 20) (some (18, false)) (.p (.len (.t 19))), .op (some 21) (some (18, false)) (.p (.bin .eql (.t 20) (.i .i64 (0)))), .op (some 22) none (.pick (.t 18) (.b true) (.t 21)), .op (some 23) none (.p (.mv (.t 22))), .op (some 24) (some (23, false)) (.p (.mv (.t 1))), .op (some 25) (some (23, false)) (.p (.len (.t 24))), .op (some 26) (some (23, false)) (.p (.bin .eql (.t 25) (.i .i64 (0)))), .op (some 27) none (.pick (.t 23) (.b true) (.t 26)), .gh (.drop [16, 17, 18, 19, 20, 21, 22, 23, 24, 25, 26])]) (.cond (.t 27) (.seq (.ops [ .op (some 28) none (.p (.mv (.t 7))), .op (some 4) none (.p (.mv .nil)), .op (some 5) none (.p (.mv (.t 28))), .gh (.drop [7, 28])]) (.ret)) (.skip))) (.seq (.ops [ .op (some 30) none (.p (.mv (.t 0))), .op (some 31) none (.p (.mv (.t 6))), .op (some 32) none (.call 115 [(.t 30), (.t 31)]), .op (some 29) none (.p (.mv (.t 32))), .op (some 33) none (.p (.ex (.t 29) 0)), .op (some 34) none (.p (.ex (.t 29) 1)), .op (some 8) none (.p (.mv (.t 33))), .op (some 9) none (.p (.mv (.t 34))), .gh (.drop [0, 6, 9, 29, 30, 31, 32, 33, 34])]) (.seq (.ops [ .op (some 35) none (.p (.mv (.t 8))), .op (some 36) none (.p (.mv (.t 1))), .op (some 37) none (.call 107 [(.t 35), (.t 36)]), .op (some 38) none (.call 103 [(.t 37)]), .op (some 39) none (.p (.ex (.t 38) 0)), .op (some 40) none (.p (.ex (.t 38) 1)), .op (some 4) none (.p (.mv (.t 39))), .op (some 5) none (.p (.mv (.t 40))), .gh (.drop [1, 8, 35, 36, 37, 38, 39, 40])]) (.ret)))))
theorem k76 : chkF Try.prog 76 2 [4, 5] c76 = true := by kernel_rfl

/- sloperef1.Gcd: arguments 2, results in [4, 5]; slots in use where its loops begin: [[6, 7]] -/
def c75 : MC := .seq (.ops [ .op (some 4) none (.p (.mv .nil)), .op (some 5) none (.p (.mv (.i .i64 (0)))), .gh (.drop [4, 5])]) (.seq (.seq (.ops [ .op (some 11) none (.p (.mv (.t 0))), .op (some 12) none (.call 85 [(.t 11)]), .op (some 13) none (.p (.un .not (.t 12))), .op (some 14) none (.p (.mv (.t 13))), .op (some 15) (some (14, false)) (.p (.mv (.t 1))), .op (some 16) (some (14, false)) (.call 85 [(.t 15)]), .op (some 17) (some (14, false)) (.p (.un .not (.t 16))), .op (some 18) none (.pick (.t 14) (.b true) (.t 17)), .gh (.drop [11, 12, 13, 14, 15, 16, 17])]) (.cond (.t 18) (.seq (.ops [ .op (some 4) none (.p (.mv .nil)), .op (some 5) none (.p (.mv (.i .i64 (20))))]) (.ret)) (.skip))) (.seq (.ops [ .op (some 19) none (.p (.mv (.t 0))), .op (some 20) none (.call 83 [(.t 19)]), .op (some 6) none (.p (.mv (.t 20))), .gh (.drop [0, 19, 20])]) (.seq (.ops [ .op (some 21) none (.p (.mv (.t 1))), .op (some 22) none (.call 83 [(.t 21)]), .op (some 7) none (.p (.mv (.t 22))), .gh (.drop [1, 21, 22])]) (.seq (.cut (.block 0 (.loop (.seq (.seq (.ops [ .op (some 23) none (.p (.mv (.t 7))), .op (some 24) none (.p (.len (.t 23))), .op (some 25) none (.p (.bin .gtr (.t 24) (.i .i64 (0)))), .gh (.drop [23, 24])]) (.cond (.t 25) (.skip) (.exit 0))) (.block 1 (.seq (.ops [ .op (some 27) none (.p (.mv (.t 6))), .op (some 28) none (.p (.mv (.t 7))), .op (some 29) none (.call 64 [(.t 27), (.t 28)]), .op (some 26) none (.p (.mv (.t 29))), .op (some 30) none (.p (.ex (.t 26) 0)), .op (some 31) none (.p (.ex (.t 26) 1)), .op (some 32) none (.p (.ex (.t 26) 2)), .op (some 8) none (.p (.mv (.t 30))), .op (some 9) none (.p (.mv (.t 31))), .op (some 10) none (.p (.mv (.t 32))), .gh (.drop [6, 8, 10, 26, 27, 28, 29, 30, 31, 32])]) (.seq (.ops [ .op (some 33) none (.p (.mv (.t 7))), .op (some 6) none (.p (.mv (.t 33))), .gh (.drop [7, 33])]) (.ops [ .op (some 34) none (.p (.mv (.t 9))), .op (some 7) none (.p (.mv (.t 34))), .gh (.drop [9, 34])])))))))) (.seq (.ops [ .op (some 35) none (.p (.mv (.t 6))), .op (some 4) none (.p (.mv (.t 35))), .op (some 5) none (.p (.mv (.i .i64 (0)))), .gh (.drop [6, 35])]) (.ret))))))
theorem k75 : chkF Try.prog 75 2 [4, 5] c75 = true := by kernel_rfl

/- sloperef1.Lcm: arguments 2, results in [4, 5]; slots in use where its loops begin: [] -/
def c77 : MC := .seq (.ops [ .op (some 4) none (.p (.mv .nil)), .op (some 5) none (.p (.mv (.i .i64 (0)))), .gh (.drop [4, 5])]) (.seq (.ops [ .op (some 12) none (.p (.mv (.t 0))), .op (some 13) none (.p (.mv (.t 1))), .op (some 14) none (.call 75 [(.t 12), (.t 13)]), .op (some 11) none (.p (.mv (.t 14))), .op (some 15) none (.p (.ex (.t 11) 0)), .op (some 16) none (.p (.ex (.t 11) 1)), .op (some 6) none (.p (.mv (.t 15))), .op (some 7) none (.p (.mv (.t 16))), .gh (.drop [11, 12, 13, 14, 15, 16])]) (.seq (.seq (.ops [ .op (some 17) none (.p (.mv (.t 7))), .op (some 18) none (.p (.bin .neq (.t 17) (.i .i64 (0)))), .gh (.drop [17])]) (.cond (.t 18) (.seq (.ops [ .op (some 19) none (.p (.mv (.t 7))), .op (some 4) none (.p (.mv .nil)), .op (some 5) none (.p (.mv (.t 19))), .gh (.drop [7, 19])]) (.ret)) (.skip))) (.seq (.seq (.ops [ .op (some 20) none (.p (.mv (.t 0))), .op (some 21) none (.p (.len (.t 20))), .op (some 22) none (.p (.bin .eql (.t 21) (.i .i64 (0)))), .op (some 23) none (.p (.mv (.t 22))), .op (some 24) (some (23, false)) (.p (.mv (.t 1))), .op (some 25) (some (23, false)) (.p (.len (.t 24))), .op (some 26) (some (23, false)) (.p (.bin .eql (.t 25) (.i .i64 (0)))), .op (some 27) none (.pick (.t 23) (.b true) (.t 26)), .gh (.drop [20, 21, 22, 23, 24, 25, 26])]) (.cond (.t 27) (.seq (.ops [ .op (some 4) none (.p (.mv .nil)), .op (some 5) none (.p (.mv (.i .i64 (0))))]) (.ret)) (.skip))) (.seq (.ops [ .op (some 29) none (.p (.mv (.t 0))), .op (some 30) none (.p (.mv (.t 6))), .op (some 31) none (.call 64 [(.t 29), (.t 30)]), .op (some 28) none (.p (.mv (.t 31))), .op (some 32) none (.p (.ex (.t 28) 0)), .op (some 33) none (.p (.ex (.t 28) 1)), .op (some 34) none (.p (.ex (.t 28) 2)), .op (some 8) none (.p (.mv (.t 32))), .op (some 9) none (.p (.mv (.t 33))), .op (some 10) none (.p (.mv (.t 34))), .gh (.drop [0, 6, 9, 10, 28, 29, 30, 31, 32, 33, 34])]) (.seq (.ops [ .op (some 35) none (.p (.mv (.t 8))), .op (some 36) none (.p (.mv (.t 1))), .op (some 37) none (.call 45 [(.t 35), (.t 36)]), .op (some 38) none (.p (.ex (.t 37) 0)), .op (some 39) none (.p (.ex (.t 37) 1)), .op (some 4) none (.p (.mv (.t 38))), .op (some 5) none (.p (.mv (.t 39))), .gh (.drop [1, 8, 35, 36, 37, 38, 39])]) (.ret))))))
theorem k77 : chkF Try.prog 77 2 [4, 5] c77 = true := by kernel_rfl



def gcdV (a b : Int) : Int := (Nat.gcd a.toNat b.toNat : Nat)
theorem gcdV_zero {x : Int} (h : 0 ≤ x) : gcdV x 0 = x := by unfold gcdV; simp; omega
theorem gcdV_step {x y : Int} (hx : 0 ≤ x) (hy : 0 ≤ y) : gcdV y (x % y) = gcdV x y := by
  unfold gcdV
  have e : (x % y).toNat = x.toNat % y.toNat := Int.toNat_emod hx hy
  rw [e, Nat.gcd_comm x.toNat y.toNat, Nat.gcd_rec y.toNat x.toNat, Nat.gcd_comm]
theorem gcdV_nonneg (a b : Int) : 0 ≤ gcdV a b := Int.natCast_nonneg _
theorem gcdV_comm (a b : Int) : gcdV a b = gcdV b a := by unfold gcdV; rw [Nat.gcd_comm]

/-- quotient, remainder, error -/
def gcdL (a b : List Int) : List Int := if may a ∧ may b then limbs (gcdV (val a) (val b)) else []
def gcdE (a b : List Int) : Int := if may a ∧ may b then 0 else 20
def lcmL (a b : List Int) : List Int := if may a ∧ may b then fitL (val a / gcdV (val a) (val b) * val b) else []
def lcmE (a b : List Int) : Int := if may a ∧ may b then fitE (val a / gcdV (val a) (val b) * val b) else 20

theorem limbs_may {v w : Int} (h0 : 0 ≤ v) (h : v ≤ w) (hw : (limbs w).length ≤ 2048) : may (limbs v) := may_of_len (limbs_mono (m := 2048) h0 h hw)

theorem gcd_may {a b : List Int} (la : lim a) (lb : lim b) (ma : may a) (mb : may b) : may (limbs (gcdV (val a) (val b))) := by
  have A0 := (val_bound la).1
  have B0 := (val_bound lb).1
  by_cases h : val a = 0
  · refine limbs_may (w := val b) (gcdV_nonneg _ _) ?_ (by rw [may_limbs lb mb]; exact mb.1)
    rw [gcdV_comm, h, gcdV_zero B0]; exact Int.le_refl _
  · refine limbs_may (w := val a) (gcdV_nonneg _ _) ?_ (by rw [may_limbs la ma]; exact ma.1)
    have := Nat.gcd_le_left (val b).toNat (show 0 < (val a).toNat by omega)
    unfold gcdV; omega


theorem gcd_len0 {x : List Int} (lx : lim x) (mx : may x) (h : x.length = 0) : val x = 0 := by rw [List.eq_nil_of_length_eq_zero h]; rfl

theorem natural_Gcd (fr fr' : Bool) (a b : List Int) : FSpec0 Try.prog 74 [uL fr a, uL fr' b] (fun r => r = lE (gcdL a b) (gcdE a b)) := by
  refine FSpec0.of_facts fun hf => fspec0_of_run k74 ?_
  have la : lim a := lim_of_factL hf.1
  have lb : lim b := lim_of_factL hf.2.1
  simp only [uL, c74, W1, W2, W3, popTo, memb, res, wres, env0, byteAt, optI, cutB, cutL, sliceR, strR, ldCells, ldR, iaR, faR, lenR, lenSR, ixR, exR, nchkR, mxR, csR, up, ZV.av, ZV.fit, zfits, fits, fitsL, cellsOf, down, downL, downLL, stR, mkR, bsR, boxR, alR, apR, cpR, srcQ, solid, killC, killV, killE, killO, killH, hget, hset, hdel, pubV, pubC, pubO, renV, renC, renO, reduceIte, reduceCtorEq, Nat.reduceEqDiff, Nat.reduceLT, Nat.reduceAdd, Int.reduceToNat, Nat.reduceLeDiff, Int.reducePow, Int.reduceLE, Int.reduceLT]
  refine call1 (natural_all false [a, b]) (by repeat (first | exact subs_nil | refine subs_int ?_ | refine subs_ro ?_ | refine subs_bool ?_ | refine subs_str ?_ | refine subs_nilro ?_ | refine subs_lits rfl ?_ | refine subs_all rfl rfl (by simp) ?_ | refine subs_own rfl rfl ?_ | refine subs_fn ?_)) ?_
  simp only [uL, W1, W2, W3, popTo, memb, res, wres, env0, byteAt, optI, cutB, cutL, sliceR, strR, ldCells, ldR, iaR, faR, lenR, lenSR, ixR, exR, nchkR, mxR, csR, up, ZV.av, ZV.fit, zfits, fits, fitsL, cellsOf, down, downL, downLL, stR, mkR, bsR, boxR, alR, apR, cpR, srcQ, solid, killC, killV, killE, killO, killH, hget, hset, hdel, pubV, pubC, pubO, renV, renC, renO, reduceIte, reduceCtorEq, Nat.reduceEqDiff, Nat.reduceLT, Nat.reduceAdd, Int.reduceToNat, Nat.reduceLeDiff, Int.reducePow, Int.reduceLE, Int.reduceLT, all_two]
  refine ⟨fun h => ret1' (by rw [gcdL, gcdE, if_neg h, if_neg h]; simp only [uL, retR, retA, retL, ret1, ret1L, eget, hget, hset, St.set, eset, List.map_cons, List.map_nil, reduceIte, reduceCtorEq, Nat.reduceEqDiff, Nat.reduceLT, true_and, and_true, false_or, or_true, true_or, List.drop_zero, List.take_length, scalE_I, scalE_B, scalE_S]; rfl), fun h => ?_⟩
  have h := Classical.not_not.1 h
  obtain ⟨ma, mb⟩ := h
  have A0 := (val_bound la).1
  have B0 := (val_bound lb).1
  have l1 := ma.1
  have l2 := mb.1
  refine call1 (natural_trim fr a (by omega)) (by repeat (first | exact subs_nil | refine subs_int ?_ | refine subs_ro ?_ | refine subs_bool ?_ | refine subs_str ?_ | refine subs_nilro ?_ | refine subs_lits rfl ?_ | refine subs_all rfl rfl (by simp) ?_ | refine subs_own rfl rfl ?_ | refine subs_fn ?_)) ?_
  simp only [uL, W1, W2, W3, popTo, memb, res, wres, env0, byteAt, optI, cutB, cutL, sliceR, strR, ldCells, ldR, iaR, faR, lenR, lenSR, ixR, exR, nchkR, mxR, csR, up, ZV.av, ZV.fit, zfits, fits, fitsL, cellsOf, down, downL, downLL, stR, mkR, bsR, boxR, alR, apR, cpR, srcQ, solid, killC, killV, killE, killO, killH, hget, hset, hdel, pubV, pubC, pubO, renV, renC, renO, reduceIte, reduceCtorEq, Nat.reduceEqDiff, Nat.reduceLT, Nat.reduceAdd, Int.reduceToNat, Nat.reduceLeDiff, Int.reducePow, Int.reduceLE, Int.reduceLT]
  refine call1 (natural_trim fr' b (by omega)) (by repeat (first | exact subs_nil | refine subs_int ?_ | refine subs_ro ?_ | refine subs_bool ?_ | refine subs_str ?_ | refine subs_nilro ?_ | refine subs_lits rfl ?_ | refine subs_all rfl rfl (by simp) ?_ | refine subs_own rfl rfl ?_ | refine subs_fn ?_)) ?_
  rw [trimL_limbs la, trimL_limbs lb]
  simp only [uL, W1, W2, W3, popTo, memb, res, wres, env0, byteAt, optI, cutB, cutL, sliceR, strR, ldCells, ldR, iaR, faR, lenR, lenSR, ixR, exR, nchkR, mxR, csR, up, ZV.av, ZV.fit, zfits, fits, fitsL, cellsOf, down, downL, downLL, stR, mkR, bsR, boxR, alR, apR, cpR, srcQ, solid, killC, killV, killE, killO, killH, hget, hset, hdel, pubV, pubC, pubO, renV, renC, renO, reduceIte, reduceCtorEq, Nat.reduceEqDiff, Nat.reduceLT, Nat.reduceAdd, Int.reduceToNat, Nat.reduceLeDiff, Int.reducePow, Int.reduceLE, Int.reduceLT]
  refine cut_intro (fun st => st = ⟨[(6, uL true (limbs (gcdV (val a) (val b))))], []⟩) ?_ ?_
  · simp only [W1, W2, W3, popTo, memb, res, wres, env0, byteAt, optI, cutB, cutL, sliceR, strR, ldCells, ldR, iaR, faR, lenR, lenSR, ixR, exR, nchkR, mxR, csR, up, ZV.av, ZV.fit, zfits, fits, fitsL, cellsOf, down, downL, downLL, stR, mkR, bsR, boxR, alR, apR, cpR, srcQ, solid, killC, killV, killE, killO, killH, hget, hset, hdel, pubV, pubC, pubO, renV, renC, renO, reduceIte, reduceCtorEq, Nat.reduceEqDiff, Nat.reduceLT, Nat.reduceAdd, Int.reduceToNat, Nat.reduceLeDiff, Int.reducePow, Int.reduceLE, Int.reduceLT]
    refine loop_intro (fun m st => ∃ X Y : Int, 0 ≤ X ∧ 0 ≤ Y ∧ m = Y.toNat ∧ may (limbs X) ∧ may (limbs Y) ∧ gcdV X Y = gcdV (val a) (val b) ∧ st = ⟨[(6, uL true (limbs X)), (7, uL true (limbs Y))], []⟩) (val b).toNat
      [(6, uL true (limbs (val a))), (7, uL true (limbs (val b)))] (by simp [eget, uL]) ⟨val a, val b, A0, B0, rfl, by rw [may_limbs la ma]; exact ma, by rw [may_limbs lb mb]; exact mb, rfl, rfl⟩ ?_
    rintro m st ⟨X, Y, hX, hY, rfl, mX, mY, hg, rfl⟩
    simp only [uL, W1, W2, W3, popTo, memb, res, wres, env0, byteAt, optI, cutB, cutL, sliceR, strR, ldCells, ldR, iaR, faR, lenR, lenSR, ixR, exR, nchkR, mxR, csR, up, ZV.av, ZV.fit, zfits, fits, fitsL, cellsOf, down, downL, downLL, stR, mkR, bsR, boxR, alR, apR, cpR, srcQ, solid, killC, killV, killE, killO, killH, hget, hset, hdel, pubV, pubC, pubO, renV, renC, renO, reduceIte, reduceCtorEq, Nat.reduceEqDiff, Nat.reduceLT, Nat.reduceAdd, Int.reduceToNat, Nat.reduceLeDiff, Int.reducePow, Int.reduceLE, Int.reduceLT]
    refine fun _ => ⟨fun h0 => ?_, fun h0 => ?_⟩
    · have hY0 : Y ≠ 0 := fun e => by rw [e, limbs_zero] at h0; simp at h0
      refine call1 (natural_divide true true (limbs X) (limbs Y) mX mY (by omega)) (by repeat (first | exact subs_nil | refine subs_int ?_ | refine subs_ro ?_ | refine subs_bool ?_ | refine subs_str ?_ | refine subs_nilro ?_ | refine subs_lits rfl ?_ | refine subs_all rfl rfl (by simp) ?_ | refine subs_own rfl rfl ?_ | refine subs_fn ?_)) ?_
      rw [limbs_val hX, limbs_val hY]
      simp only [uL, W1, W2, W3, popTo, memb, res, wres, env0, byteAt, optI, cutB, cutL, sliceR, strR, ldCells, ldR, iaR, faR, lenR, lenSR, ixR, exR, nchkR, mxR, csR, up, ZV.av, ZV.fit, zfits, fits, fitsL, cellsOf, down, downL, downLL, stR, mkR, bsR, boxR, alR, apR, cpR, srcQ, solid, killC, killV, killE, killO, killH, hget, hset, hdel, pubV, pubC, pubO, renV, renC, renO, reduceIte, reduceCtorEq, Nat.reduceEqDiff, Nat.reduceLT, Nat.reduceAdd, Int.reduceToNat, Nat.reduceLeDiff, Int.reducePow, Int.reduceLE, Int.reduceLT]
      have r0 := Int.emod_nonneg X hY0
      have r1 := Int.emod_lt_of_pos X (show 0 < Y by omega)
      exact back_intro [(6, uL true (limbs Y)), (7, uL true (limbs (X % Y)))] (by simp [eget, uL]) (by omega)
        ⟨Y, X % Y, hY, r0, rfl, mY, limbs_may r0 (Int.le_of_lt r1) mY.1, by rw [gcdV_step hX hY, hg], rfl⟩
    · have hY0 : Y = 0 := by
        have e := limbs_val hY
        rw [List.eq_nil_of_length_eq_zero (show (limbs Y).length = 0 by omega)] at e
        exact e.symm
      subst hY0
      rw [gcdV_zero hX] at hg
      subst hg
      exact join_intro [(6, uL true (limbs (gcdV (val a) (val b))))] (by simp [eget, uL]) rfl
  rintro st rfl
  simp only [uL, W1, W2, W3, popTo, memb, res, wres, env0, byteAt, optI, cutB, cutL, sliceR, strR, ldCells, ldR, iaR, faR, lenR, lenSR, ixR, exR, nchkR, mxR, csR, up, ZV.av, ZV.fit, zfits, fits, fitsL, cellsOf, down, downL, downLL, stR, mkR, bsR, boxR, alR, apR, cpR, srcQ, solid, killC, killV, killE, killO, killH, hget, hset, hdel, pubV, pubC, pubO, renV, renC, renO, reduceIte, reduceCtorEq, Nat.reduceEqDiff, Nat.reduceLT, Nat.reduceAdd, Int.reduceToNat, Nat.reduceLeDiff, Int.reducePow, Int.reduceLE, Int.reduceLT]
  exact ret1' (by rw [gcdL, gcdE, if_pos ⟨ma, mb⟩, if_pos ⟨ma, mb⟩]; simp only [uL, retR, retA, retL, ret1, ret1L, eget, hget, hset, St.set, eset, List.map_cons, List.map_nil, reduceIte, reduceCtorEq, Nat.reduceEqDiff, Nat.reduceLT, true_and, and_true, false_or, or_true, true_or, List.drop_zero, List.take_length, scalE_I, scalE_B, scalE_S])

theorem sloperef1_Gcd (fr fr' : Bool) (a b : List Int) : FSpec0 Try.prog 75 [uL fr a, uL fr' b] (fun r => r = lE (gcdL a b) (gcdE a b)) := by
  refine FSpec0.of_facts fun hf => fspec0_of_run k75 ?_
  have la : lim a := lim_of_factL hf.1
  have lb : lim b := lim_of_factL hf.2.1
  simp only [uL, c75, W1, W2, W3, popTo, memb, res, wres, env0, byteAt, optI, cutB, cutL, sliceR, strR, ldCells, ldR, iaR, faR, lenR, lenSR, ixR, exR, nchkR, mxR, csR, up, ZV.av, ZV.fit, zfits, fits, fitsL, cellsOf, down, downL, downLL, stR, mkR, bsR, boxR, alR, apR, cpR, srcQ, solid, killC, killV, killE, killO, killH, hget, hset, hdel, pubV, pubC, pubO, renV, renC, renO, reduceIte, reduceCtorEq, Nat.reduceEqDiff, Nat.reduceLT, Nat.reduceAdd, Int.reduceToNat, Nat.reduceLeDiff, Int.reducePow, Int.reduceLE, Int.reduceLT]
  refine call1 (sloperef1_May fr a) (by repeat (first | exact subs_nil | refine subs_int ?_ | refine subs_ro ?_ | refine subs_bool ?_ | refine subs_str ?_ | refine subs_nilro ?_ | refine subs_lits rfl ?_ | refine subs_all rfl rfl (by simp) ?_ | refine subs_own rfl rfl ?_ | refine subs_fn ?_)) ?_
  simp only [uL, W1, W2, W3, popTo, memb, res, wres, env0, byteAt, optI, cutB, cutL, sliceR, strR, ldCells, ldR, iaR, faR, lenR, lenSR, ixR, exR, nchkR, mxR, csR, up, ZV.av, ZV.fit, zfits, fits, fitsL, cellsOf, down, downL, downLL, stR, mkR, bsR, boxR, alR, apR, cpR, srcQ, solid, killC, killV, killE, killO, killH, hget, hset, hdel, pubV, pubC, pubO, renV, renC, renO, reduceIte, reduceCtorEq, Nat.reduceEqDiff, Nat.reduceLT, Nat.reduceAdd, Int.reduceToNat, Nat.reduceLeDiff, Int.reducePow, Int.reduceLE, Int.reduceLT]
  refine ⟨fun h => ret1' (by rw [gcdL, gcdE, if_neg (fun h' => h h'.1), if_neg (fun h' => h h'.1)]; simp only [uL, retR, retA, retL, ret1, ret1L, eget, hget, hset, St.set, eset, List.map_cons, List.map_nil, reduceIte, reduceCtorEq, Nat.reduceEqDiff, Nat.reduceLT, true_and, and_true, false_or, or_true, true_or, List.drop_zero, List.take_length, scalE_I, scalE_B, scalE_S]; rfl), fun h => ?_⟩
  have ma := Classical.not_not.1 h
  refine call1 (sloperef1_May fr' b) (by repeat (first | exact subs_nil | refine subs_int ?_ | refine subs_ro ?_ | refine subs_bool ?_ | refine subs_str ?_ | refine subs_nilro ?_ | refine subs_lits rfl ?_ | refine subs_all rfl rfl (by simp) ?_ | refine subs_own rfl rfl ?_ | refine subs_fn ?_)) ?_
  simp only [uL, W1, W2, W3, popTo, memb, res, wres, env0, byteAt, optI, cutB, cutL, sliceR, strR, ldCells, ldR, iaR, faR, lenR, lenSR, ixR, exR, nchkR, mxR, csR, up, ZV.av, ZV.fit, zfits, fits, fitsL, cellsOf, down, downL, downLL, stR, mkR, bsR, boxR, alR, apR, cpR, srcQ, solid, killC, killV, killE, killO, killH, hget, hset, hdel, pubV, pubC, pubO, renV, renC, renO, reduceIte, reduceCtorEq, Nat.reduceEqDiff, Nat.reduceLT, Nat.reduceAdd, Int.reduceToNat, Nat.reduceLeDiff, Int.reducePow, Int.reduceLE, Int.reduceLT]
  refine ⟨fun h => ret1' (by rw [gcdL, gcdE, if_neg (fun h' => h h'.2), if_neg (fun h' => h h'.2)]; simp only [uL, retR, retA, retL, ret1, ret1L, eget, hget, hset, St.set, eset, List.map_cons, List.map_nil, reduceIte, reduceCtorEq, Nat.reduceEqDiff, Nat.reduceLT, true_and, and_true, false_or, or_true, true_or, List.drop_zero, List.take_length, scalE_I, scalE_B, scalE_S]; rfl), fun h => ?_⟩
  have mb := Classical.not_not.1 h
  have A0 := (val_bound la).1
  have B0 := (val_bound lb).1
  have l1 := ma.1
  have l2 := mb.1
  refine call1 (sloperef1_Trim fr a (by omega)) (by repeat (first | exact subs_nil | refine subs_int ?_ | refine subs_ro ?_ | refine subs_bool ?_ | refine subs_str ?_ | refine subs_nilro ?_ | refine subs_lits rfl ?_ | refine subs_all rfl rfl (by simp) ?_ | refine subs_own rfl rfl ?_ | refine subs_fn ?_)) ?_
  simp only [uL, W1, W2, W3, popTo, memb, res, wres, env0, byteAt, optI, cutB, cutL, sliceR, strR, ldCells, ldR, iaR, faR, lenR, lenSR, ixR, exR, nchkR, mxR, csR, up, ZV.av, ZV.fit, zfits, fits, fitsL, cellsOf, down, downL, downLL, stR, mkR, bsR, boxR, alR, apR, cpR, srcQ, solid, killC, killV, killE, killO, killH, hget, hset, hdel, pubV, pubC, pubO, renV, renC, renO, reduceIte, reduceCtorEq, Nat.reduceEqDiff, Nat.reduceLT, Nat.reduceAdd, Int.reduceToNat, Nat.reduceLeDiff, Int.reducePow, Int.reduceLE, Int.reduceLT]
  refine call1 (sloperef1_Trim fr' b (by omega)) (by repeat (first | exact subs_nil | refine subs_int ?_ | refine subs_ro ?_ | refine subs_bool ?_ | refine subs_str ?_ | refine subs_nilro ?_ | refine subs_lits rfl ?_ | refine subs_all rfl rfl (by simp) ?_ | refine subs_own rfl rfl ?_ | refine subs_fn ?_)) ?_
  rw [trimL_limbs la, trimL_limbs lb]
  simp only [uL, W1, W2, W3, popTo, memb, res, wres, env0, byteAt, optI, cutB, cutL, sliceR, strR, ldCells, ldR, iaR, faR, lenR, lenSR, ixR, exR, nchkR, mxR, csR, up, ZV.av, ZV.fit, zfits, fits, fitsL, cellsOf, down, downL, downLL, stR, mkR, bsR, boxR, alR, apR, cpR, srcQ, solid, killC, killV, killE, killO, killH, hget, hset, hdel, pubV, pubC, pubO, renV, renC, renO, reduceIte, reduceCtorEq, Nat.reduceEqDiff, Nat.reduceLT, Nat.reduceAdd, Int.reduceToNat, Nat.reduceLeDiff, Int.reducePow, Int.reduceLE, Int.reduceLT]
  refine cut_intro (fun st => st = ⟨[(6, uL true (limbs (gcdV (val a) (val b))))], []⟩) ?_ ?_
  · simp only [W1, W2, W3, popTo, memb, res, wres, env0, byteAt, optI, cutB, cutL, sliceR, strR, ldCells, ldR, iaR, faR, lenR, lenSR, ixR, exR, nchkR, mxR, csR, up, ZV.av, ZV.fit, zfits, fits, fitsL, cellsOf, down, downL, downLL, stR, mkR, bsR, boxR, alR, apR, cpR, srcQ, solid, killC, killV, killE, killO, killH, hget, hset, hdel, pubV, pubC, pubO, renV, renC, renO, reduceIte, reduceCtorEq, Nat.reduceEqDiff, Nat.reduceLT, Nat.reduceAdd, Int.reduceToNat, Nat.reduceLeDiff, Int.reducePow, Int.reduceLE, Int.reduceLT]
    refine loop_intro (fun m st => ∃ X Y : Int, 0 ≤ X ∧ 0 ≤ Y ∧ m = Y.toNat ∧ may (limbs X) ∧ may (limbs Y) ∧ gcdV X Y = gcdV (val a) (val b) ∧ st = ⟨[(6, uL true (limbs X)), (7, uL true (limbs Y))], []⟩) (val b).toNat
      [(6, uL true (limbs (val a))), (7, uL true (limbs (val b)))] (by simp [eget, uL]) ⟨val a, val b, A0, B0, rfl, by rw [may_limbs la ma]; exact ma, by rw [may_limbs lb mb]; exact mb, rfl, rfl⟩ ?_
    rintro m st ⟨X, Y, hX, hY, rfl, mX, mY, hg, rfl⟩
    simp only [uL, W1, W2, W3, popTo, memb, res, wres, env0, byteAt, optI, cutB, cutL, sliceR, strR, ldCells, ldR, iaR, faR, lenR, lenSR, ixR, exR, nchkR, mxR, csR, up, ZV.av, ZV.fit, zfits, fits, fitsL, cellsOf, down, downL, downLL, stR, mkR, bsR, boxR, alR, apR, cpR, srcQ, solid, killC, killV, killE, killO, killH, hget, hset, hdel, pubV, pubC, pubO, renV, renC, renO, reduceIte, reduceCtorEq, Nat.reduceEqDiff, Nat.reduceLT, Nat.reduceAdd, Int.reduceToNat, Nat.reduceLeDiff, Int.reducePow, Int.reduceLE, Int.reduceLT]
    refine fun _ => ⟨fun h0 => ?_, fun h0 => ?_⟩
    · have hY0 : Y ≠ 0 := fun e => by rw [e, limbs_zero] at h0; simp at h0
      refine call1 (sloperef1_DivMod true true (limbs X) (limbs Y)) (by repeat (first | exact subs_nil | refine subs_int ?_ | refine subs_ro ?_ | refine subs_bool ?_ | refine subs_str ?_ | refine subs_nilro ?_ | refine subs_lits rfl ?_ | refine subs_all rfl rfl (by simp) ?_ | refine subs_own rfl rfl ?_ | refine subs_fn ?_)) ?_
      rw [dmT, dmQ, dmR, dmE, if_pos ⟨mX, mY, by omega⟩, if_pos ⟨mX, mY, by omega⟩, limbs_val hX, limbs_val hY]
      simp only [uL, W1, W2, W3, popTo, memb, res, wres, env0, byteAt, optI, cutB, cutL, sliceR, strR, ldCells, ldR, iaR, faR, lenR, lenSR, ixR, exR, nchkR, mxR, csR, up, ZV.av, ZV.fit, zfits, fits, fitsL, cellsOf, down, downL, downLL, stR, mkR, bsR, boxR, alR, apR, cpR, srcQ, solid, killC, killV, killE, killO, killH, hget, hset, hdel, pubV, pubC, pubO, renV, renC, renO, reduceIte, reduceCtorEq, Nat.reduceEqDiff, Nat.reduceLT, Nat.reduceAdd, Int.reduceToNat, Nat.reduceLeDiff, Int.reducePow, Int.reduceLE, Int.reduceLT]
      have r0 := Int.emod_nonneg X hY0
      have r1 := Int.emod_lt_of_pos X (show 0 < Y by omega)
      exact back_intro [(6, uL true (limbs Y)), (7, uL true (limbs (X % Y)))] (by simp [eget, uL]) (by omega)
        ⟨Y, X % Y, hY, r0, rfl, mY, limbs_may r0 (Int.le_of_lt r1) mY.1, by rw [gcdV_step hX hY, hg], rfl⟩
    · have hY0 : Y = 0 := by
        have e := limbs_val hY
        rw [List.eq_nil_of_length_eq_zero (show (limbs Y).length = 0 by omega)] at e
        exact e.symm
      subst hY0
      rw [gcdV_zero hX] at hg
      subst hg
      exact join_intro [(6, uL true (limbs (gcdV (val a) (val b))))] (by simp [eget, uL]) rfl
  rintro st rfl
  simp only [uL, W1, W2, W3, popTo, memb, res, wres, env0, byteAt, optI, cutB, cutL, sliceR, strR, ldCells, ldR, iaR, faR, lenR, lenSR, ixR, exR, nchkR, mxR, csR, up, ZV.av, ZV.fit, zfits, fits, fitsL, cellsOf, down, downL, downLL, stR, mkR, bsR, boxR, alR, apR, cpR, srcQ, solid, killC, killV, killE, killO, killH, hget, hset, hdel, pubV, pubC, pubO, renV, renC, renO, reduceIte, reduceCtorEq, Nat.reduceEqDiff, Nat.reduceLT, Nat.reduceAdd, Int.reduceToNat, Nat.reduceLeDiff, Int.reducePow, Int.reduceLE, Int.reduceLT]
  exact ret1' (by rw [gcdL, gcdE, if_pos ⟨ma, mb⟩, if_pos ⟨ma, mb⟩]; simp only [uL, retR, retA, retL, ret1, ret1L, eget, hget, hset, St.set, eset, List.map_cons, List.map_nil, reduceIte, reduceCtorEq, Nat.reduceEqDiff, Nat.reduceLT, true_and, and_true, false_or, or_true, true_or, List.drop_zero, List.take_length, scalE_I, scalE_B, scalE_S])

/-- what Lcm needs of the two -/
theorem lcm_facts {a b : List Int} (la : lim a) (lb : lim b) (ma : may a) (mb : may b) (hb : b.length ≠ 0) : 0 < gcdV (val a) (val b) ∧ may (limbs (val a / gcdV (val a) (val b))) ∧ 0 ≤ val a / gcdV (val a) (val b) := by
  have A0 := (val_bound la).1
  have B0 := (val_bound lb).1
  have hb0 : val b ≠ 0 := fun e => hb (by have h := may_limbs lb mb; rw [e, limbs_zero] at h; rw [← h]; rfl)
  have hg : 0 < gcdV (val a) (val b) := by
    have := Nat.gcd_pos_of_pos_right (val a).toNat (show 0 < (val b).toNat by omega)
    unfold gcdV; omega
  have q0 := Int.ediv_nonneg A0 (Int.le_of_lt hg)
  exact ⟨hg, limbs_may q0 (Int.ediv_le_self _ A0) (by rw [may_limbs la ma]; exact ma.1), q0⟩

theorem lcm_zero {a b : List Int} (h : may a ∧ may b) (h0 : a.length = 0 ∨ b.length = 0) : lcmL a b = [] ∧ lcmE a b = 0 := by
  have : val a / gcdV (val a) (val b) * val b = 0 := by
    rcases h0 with h0 | h0 <;> rw [List.eq_nil_of_length_eq_zero h0] <;> simp [val]
  rw [lcmL, lcmE, if_pos h, if_pos h, this, fitL, fitE, limbs_zero]
  simp

theorem natural_Lcm (fr fr' : Bool) (a b : List Int) : FSpec0 Try.prog 76 [uL fr a, uL fr' b] (fun r => r = lE (lcmL a b) (lcmE a b)) := by
  refine FSpec0.of_facts fun hf => fspec0_of_run k76 ?_
  have la : lim a := lim_of_factL hf.1
  have lb : lim b := lim_of_factL hf.2.1
  simp only [uL, c76, W1, W2, W3, popTo, memb, res, wres, env0, byteAt, optI, cutB, cutL, sliceR, strR, ldCells, ldR, iaR, faR, lenR, lenSR, ixR, exR, nchkR, mxR, csR, up, ZV.av, ZV.fit, zfits, fits, fitsL, cellsOf, down, downL, downLL, stR, mkR, bsR, boxR, alR, apR, cpR, srcQ, solid, killC, killV, killE, killO, killH, hget, hset, hdel, pubV, pubC, pubO, renV, renC, renO, reduceIte, reduceCtorEq, Nat.reduceEqDiff, Nat.reduceLT, Nat.reduceAdd, Int.reduceToNat, Nat.reduceLeDiff, Int.reducePow, Int.reduceLE, Int.reduceLT]
  refine call1 (natural_Gcd fr fr' a b) (by repeat (first | exact subs_nil | refine subs_int ?_ | refine subs_ro ?_ | refine subs_bool ?_ | refine subs_str ?_ | refine subs_nilro ?_ | refine subs_lits rfl ?_ | refine subs_all rfl rfl (by simp) ?_ | refine subs_own rfl rfl ?_ | refine subs_fn ?_)) ?_
  by_cases h : may a ∧ may b
  rotate_left
  · rw [gcdL, gcdE, lcmL, lcmE, if_neg h, if_neg h, if_neg h, if_neg h]
    simp only [uL, W1, W2, W3, popTo, memb, res, wres, env0, byteAt, optI, cutB, cutL, sliceR, strR, ldCells, ldR, iaR, faR, lenR, lenSR, ixR, exR, nchkR, mxR, csR, up, ZV.av, ZV.fit, zfits, fits, fitsL, cellsOf, down, downL, downLL, stR, mkR, bsR, boxR, alR, apR, cpR, srcQ, solid, killC, killV, killE, killO, killH, hget, hset, hdel, pubV, pubC, pubO, renV, renC, renO, reduceIte, reduceCtorEq, Nat.reduceEqDiff, Nat.reduceLT, Nat.reduceAdd, Int.reduceToNat, Nat.reduceLeDiff, Int.reducePow, Int.reduceLE, Int.reduceLT]
    refine ⟨fun _ => ret1' (by simp only [uL, retR, retA, retL, ret1, ret1L, eget, hget, hset, St.set, eset, List.map_cons, List.map_nil, reduceIte, reduceCtorEq, Nat.reduceEqDiff, Nat.reduceLT, true_and, and_true, false_or, or_true, true_or, List.drop_zero, List.take_length, scalE_I, scalE_B, scalE_S]; rfl), fun h => absurd (by omega) h⟩
  have hz := fun h0 => lcm_zero h h0
  rw [gcdL, gcdE, if_pos h, if_pos h]
  obtain ⟨ma, mb⟩ := h
  simp only [uL, W1, W2, W3, popTo, memb, res, wres, env0, byteAt, optI, cutB, cutL, sliceR, strR, ldCells, ldR, iaR, faR, lenR, lenSR, ixR, exR, nchkR, mxR, csR, up, ZV.av, ZV.fit, zfits, fits, fitsL, cellsOf, down, downL, downLL, stR, mkR, bsR, boxR, alR, apR, cpR, srcQ, solid, killC, killV, killE, killO, killH, hget, hset, hdel, pubV, pubC, pubO, renV, renC, renO, reduceIte, reduceCtorEq, Nat.reduceEqDiff, Nat.reduceLT, Nat.reduceAdd, Int.reduceToNat, Nat.reduceLeDiff, Int.reducePow, Int.reduceLE, Int.reduceLT]
  refine fun _ => ⟨fun h0 => ret1' (by rw [(hz (.inl (by omega))).1, (hz (.inl (by omega))).2]; simp only [uL, retR, retA, retL, ret1, ret1L, eget, hget, hset, St.set, eset, List.map_cons, List.map_nil, reduceIte, reduceCtorEq, Nat.reduceEqDiff, Nat.reduceLT, true_and, and_true, false_or, or_true, true_or, List.drop_zero, List.take_length, scalE_I, scalE_B, scalE_S]; rfl), fun h0 _ => ⟨fun h1 => ret1' (by rw [(hz (.inr (by omega))).1, (hz (.inr (by omega))).2]; simp only [uL, retR, retA, retL, ret1, ret1L, eget, hget, hset, St.set, eset, List.map_cons, List.map_nil, reduceIte, reduceCtorEq, Nat.reduceEqDiff, Nat.reduceLT, true_and, and_true, false_or, or_true, true_or, List.drop_zero, List.take_length, scalE_I, scalE_B, scalE_S]; rfl), fun h1 => ?_⟩⟩
  obtain ⟨hg, mq, q0⟩ := lcm_facts la lb ma mb (by omega)
  have mg := gcd_may la lb ma mb
  have hgv := limbs_val (Int.le_of_lt hg)
  refine call1 (natural_divide fr true a (limbs (gcdV (val a) (val b))) ma mg (fun e => by have := (limbs_nil_iff' (Int.le_of_lt hg)).1 e; omega)) (by repeat (first | exact subs_nil | refine subs_int ?_ | refine subs_ro ?_ | refine subs_bool ?_ | refine subs_str ?_ | refine subs_nilro ?_ | refine subs_lits rfl ?_ | refine subs_all rfl rfl (by simp) ?_ | refine subs_own rfl rfl ?_ | refine subs_fn ?_)) ?_
  rw [hgv]
  simp only [uL, W1, W2, W3, popTo, memb, res, wres, env0, byteAt, optI, cutB, cutL, sliceR, strR, ldCells, ldR, iaR, faR, lenR, lenSR, ixR, exR, nchkR, mxR, csR, up, ZV.av, ZV.fit, zfits, fits, fitsL, cellsOf, down, downL, downLL, stR, mkR, bsR, boxR, alR, apR, cpR, srcQ, solid, killC, killV, killE, killO, killH, hget, hset, hdel, pubV, pubC, pubO, renV, renC, renO, reduceIte, reduceCtorEq, Nat.reduceEqDiff, Nat.reduceLT, Nat.reduceAdd, Int.reduceToNat, Nat.reduceLeDiff, Int.reducePow, Int.reduceLE, Int.reduceLT]
  have l1 := mq.1
  have l2 := mb.1
  refine callK0 (natural_times true fr' (limbs (val a / gcdV (val a) (val b))) b (by omega)) (by repeat (first | exact subs_nil | refine subs_int ?_ | refine subs_ro ?_ | refine subs_bool ?_ | refine subs_str ?_ | refine subs_nilro ?_ | refine subs_lits rfl ?_ | refine subs_all rfl rfl (by simp) ?_ | refine subs_own rfl rfl ?_ | refine subs_fn ?_)) ?_
  rintro r ⟨zs, rfl, lz, hzl, hv⟩
  rw [limbs_val q0] at hv
  simp only [uL, W1, W2, W3, popTo, memb, res, wres, env0, byteAt, optI, cutB, cutL, sliceR, strR, ldCells, ldR, iaR, faR, lenR, lenSR, ixR, exR, nchkR, mxR, csR, up, ZV.av, ZV.fit, zfits, fits, fitsL, cellsOf, down, downL, downLL, stR, mkR, bsR, boxR, alR, apR, cpR, srcQ, solid, killC, killV, killE, killO, killH, hget, hset, hdel, pubV, pubC, pubO, renV, renC, renO, reduceIte, reduceCtorEq, Nat.reduceEqDiff, Nat.reduceLT, Nat.reduceAdd, Int.reduceToNat, Nat.reduceLeDiff, Int.reducePow, Int.reduceLE, Int.reduceLT]
  refine call1 (natural_fit true zs (by omega)) (by repeat (first | exact subs_nil | refine subs_int ?_ | refine subs_ro ?_ | refine subs_bool ?_ | refine subs_str ?_ | refine subs_nilro ?_ | refine subs_lits rfl ?_ | refine subs_all rfl rfl (by simp) ?_ | refine subs_own rfl rfl ?_ | refine subs_fn ?_)) ?_
  simp only [uL, W1, W2, W3, popTo, memb, res, wres, env0, byteAt, optI, cutB, cutL, sliceR, strR, ldCells, ldR, iaR, faR, lenR, lenSR, ixR, exR, nchkR, mxR, csR, up, ZV.av, ZV.fit, zfits, fits, fitsL, cellsOf, down, downL, downLL, stR, mkR, bsR, boxR, alR, apR, cpR, srcQ, solid, killC, killV, killE, killO, killH, hget, hset, hdel, pubV, pubC, pubO, renV, renC, renO, reduceIte, reduceCtorEq, Nat.reduceEqDiff, Nat.reduceLT, Nat.reduceAdd, Int.reduceToNat, Nat.reduceLeDiff, Int.reducePow, Int.reduceLE, Int.reduceLT]
  exact ret1' (by rw [lcmL, lcmE, if_pos ⟨ma, mb⟩, if_pos ⟨ma, mb⟩, hv]; simp only [uL, retR, retA, retL, ret1, ret1L, eget, hget, hset, St.set, eset, List.map_cons, List.map_nil, reduceIte, reduceCtorEq, Nat.reduceEqDiff, Nat.reduceLT, true_and, and_true, false_or, or_true, true_or, List.drop_zero, List.take_length, scalE_I, scalE_B, scalE_S])

theorem sloperef1_Lcm (fr fr' : Bool) (a b : List Int) : FSpec0 Try.prog 77 [uL fr a, uL fr' b] (fun r => r = lE (lcmL a b) (lcmE a b)) := by
  refine FSpec0.of_facts fun hf => fspec0_of_run k77 ?_
  have la : lim a := lim_of_factL hf.1
  have lb : lim b := lim_of_factL hf.2.1
  simp only [uL, c77, W1, W2, W3, popTo, memb, res, wres, env0, byteAt, optI, cutB, cutL, sliceR, strR, ldCells, ldR, iaR, faR, lenR, lenSR, ixR, exR, nchkR, mxR, csR, up, ZV.av, ZV.fit, zfits, fits, fitsL, cellsOf, down, downL, downLL, stR, mkR, bsR, boxR, alR, apR, cpR, srcQ, solid, killC, killV, killE, killO, killH, hget, hset, hdel, pubV, pubC, pubO, renV, renC, renO, reduceIte, reduceCtorEq, Nat.reduceEqDiff, Nat.reduceLT, Nat.reduceAdd, Int.reduceToNat, Nat.reduceLeDiff, Int.reducePow, Int.reduceLE, Int.reduceLT]
  refine call1 (sloperef1_Gcd fr fr' a b) (by repeat (first | exact subs_nil | refine subs_int ?_ | refine subs_ro ?_ | refine subs_bool ?_ | refine subs_str ?_ | refine subs_nilro ?_ | refine subs_lits rfl ?_ | refine subs_all rfl rfl (by simp) ?_ | refine subs_own rfl rfl ?_ | refine subs_fn ?_)) ?_
  by_cases h : may a ∧ may b
  rotate_left
  · rw [gcdL, gcdE, lcmL, lcmE, if_neg h, if_neg h, if_neg h, if_neg h]
    simp only [uL, W1, W2, W3, popTo, memb, res, wres, env0, byteAt, optI, cutB, cutL, sliceR, strR, ldCells, ldR, iaR, faR, lenR, lenSR, ixR, exR, nchkR, mxR, csR, up, ZV.av, ZV.fit, zfits, fits, fitsL, cellsOf, down, downL, downLL, stR, mkR, bsR, boxR, alR, apR, cpR, srcQ, solid, killC, killV, killE, killO, killH, hget, hset, hdel, pubV, pubC, pubO, renV, renC, renO, reduceIte, reduceCtorEq, Nat.reduceEqDiff, Nat.reduceLT, Nat.reduceAdd, Int.reduceToNat, Nat.reduceLeDiff, Int.reducePow, Int.reduceLE, Int.reduceLT]
    refine ⟨fun _ => ret1' (by simp only [uL, retR, retA, retL, ret1, ret1L, eget, hget, hset, St.set, eset, List.map_cons, List.map_nil, reduceIte, reduceCtorEq, Nat.reduceEqDiff, Nat.reduceLT, true_and, and_true, false_or, or_true, true_or, List.drop_zero, List.take_length, scalE_I, scalE_B, scalE_S]; rfl), fun h => absurd (by omega) h⟩
  have hz := fun h0 => lcm_zero h h0
  rw [gcdL, gcdE, if_pos h, if_pos h]
  obtain ⟨ma, mb⟩ := h
  simp only [uL, W1, W2, W3, popTo, memb, res, wres, env0, byteAt, optI, cutB, cutL, sliceR, strR, ldCells, ldR, iaR, faR, lenR, lenSR, ixR, exR, nchkR, mxR, csR, up, ZV.av, ZV.fit, zfits, fits, fitsL, cellsOf, down, downL, downLL, stR, mkR, bsR, boxR, alR, apR, cpR, srcQ, solid, killC, killV, killE, killO, killH, hget, hset, hdel, pubV, pubC, pubO, renV, renC, renO, reduceIte, reduceCtorEq, Nat.reduceEqDiff, Nat.reduceLT, Nat.reduceAdd, Int.reduceToNat, Nat.reduceLeDiff, Int.reducePow, Int.reduceLE, Int.reduceLT]
  refine fun _ => ⟨fun h0 => ret1' (by rw [(hz (.inl (by omega))).1, (hz (.inl (by omega))).2]; simp only [uL, retR, retA, retL, ret1, ret1L, eget, hget, hset, St.set, eset, List.map_cons, List.map_nil, reduceIte, reduceCtorEq, Nat.reduceEqDiff, Nat.reduceLT, true_and, and_true, false_or, or_true, true_or, List.drop_zero, List.take_length, scalE_I, scalE_B, scalE_S]; rfl), fun h0 _ => ⟨fun h1 => ret1' (by rw [(hz (.inr (by omega))).1, (hz (.inr (by omega))).2]; simp only [uL, retR, retA, retL, ret1, ret1L, eget, hget, hset, St.set, eset, List.map_cons, List.map_nil, reduceIte, reduceCtorEq, Nat.reduceEqDiff, Nat.reduceLT, true_and, and_true, false_or, or_true, true_or, List.drop_zero, List.take_length, scalE_I, scalE_B, scalE_S]; rfl), fun h1 => ?_⟩⟩
  obtain ⟨hg, mq, q0⟩ := lcm_facts la lb ma mb (by omega)
  have mg := gcd_may la lb ma mb
  have hgv := limbs_val (Int.le_of_lt hg)
  have hgl : (limbs (gcdV (val a) (val b))).length ≠ 0 := fun e => by have := (limbs_nil_iff' (Int.le_of_lt hg)).1 e; omega
  refine call1 (sloperef1_DivMod fr true a (limbs (gcdV (val a) (val b)))) (by repeat (first | exact subs_nil | refine subs_int ?_ | refine subs_ro ?_ | refine subs_bool ?_ | refine subs_str ?_ | refine subs_nilro ?_ | refine subs_lits rfl ?_ | refine subs_all rfl rfl (by simp) ?_ | refine subs_own rfl rfl ?_ | refine subs_fn ?_)) ?_
  rw [dmT, dmQ, dmR, dmE, if_pos ⟨ma, mg, hgl⟩, if_pos ⟨ma, mg, hgl⟩, hgv]
  simp only [uL, W1, W2, W3, popTo, memb, res, wres, env0, byteAt, optI, cutB, cutL, sliceR, strR, ldCells, ldR, iaR, faR, lenR, lenSR, ixR, exR, nchkR, mxR, csR, up, ZV.av, ZV.fit, zfits, fits, fitsL, cellsOf, down, downL, downLL, stR, mkR, bsR, boxR, alR, apR, cpR, srcQ, solid, killC, killV, killE, killO, killH, hget, hset, hdel, pubV, pubC, pubO, renV, renC, renO, reduceIte, reduceCtorEq, Nat.reduceEqDiff, Nat.reduceLT, Nat.reduceAdd, Int.reduceToNat, Nat.reduceLeDiff, Int.reducePow, Int.reduceLE, Int.reduceLT]
  refine call1 (sloperef1_Mul true fr' (limbs (val a / gcdV (val a) (val b))) b) (by repeat (first | exact subs_nil | refine subs_int ?_ | refine subs_ro ?_ | refine subs_bool ?_ | refine subs_str ?_ | refine subs_nilro ?_ | refine subs_lits rfl ?_ | refine subs_all rfl rfl (by simp) ?_ | refine subs_own rfl rfl ?_ | refine subs_fn ?_)) ?_
  rw [mulL, mulE, if_pos ⟨mq, mb⟩, if_pos ⟨mq, mb⟩, limbs_val q0]
  simp only [uL, W1, W2, W3, popTo, memb, res, wres, env0, byteAt, optI, cutB, cutL, sliceR, strR, ldCells, ldR, iaR, faR, lenR, lenSR, ixR, exR, nchkR, mxR, csR, up, ZV.av, ZV.fit, zfits, fits, fitsL, cellsOf, down, downL, downLL, stR, mkR, bsR, boxR, alR, apR, cpR, srcQ, solid, killC, killV, killE, killO, killH, hget, hset, hdel, pubV, pubC, pubO, renV, renC, renO, reduceIte, reduceCtorEq, Nat.reduceEqDiff, Nat.reduceLT, Nat.reduceAdd, Int.reduceToNat, Nat.reduceLeDiff, Int.reducePow, Int.reduceLE, Int.reduceLT]
  exact ret1' (by rw [lcmL, lcmE, if_pos ⟨ma, mb⟩, if_pos ⟨ma, mb⟩]; simp only [uL, retR, retA, retL, ret1, ret1L, eget, hget, hset, St.set, eset, List.map_cons, List.map_nil, reduceIte, reduceCtorEq, Nat.reduceEqDiff, Nat.reduceLT, true_and, and_true, false_or, or_true, true_or, List.drop_zero, List.take_length, scalE_I, scalE_B, scalE_S])

end Go.Vc
