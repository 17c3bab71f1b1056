/-
  Long division.
-/
import Derived.Test.YtdlddbclcmecjaaNat22
import Derived.Test.YtdlddbclcmecjaaNat14
import Derived.Test.YtdlddbclcmecjaaNat8
set_option linter.unusedVariables false
set_option linter.unusedSimpArgs false
namespace Go.Vc
open Go
open Go.Proofs

/- natural.divide: arguments 2, results in [4, 5]; slots in use where its loops begin: [[8, 9, 10, 11, 12, 13]] -/
def c115 : MC := .seq (.ops [ .op (some 4) none (.p (.mv .nil)), .op (some 5) none (.p (.mv .nil)), .gh (.drop [4, 5])]) (.seq (.seq (.ops [ .op (some 14) none (.p (.mv (.t 0))), .op (some 15) none (.p (.mv (.t 1))), .op (some 16) none (.call 104 [(.t 14), (.t 15)]), .op (some 17) none (.p (.bin .lss (.t 16) (.i .i64 (0)))), .gh (.drop [14, 15, 16])]) (.cond (.t 17) (.seq (.ops [ .op (some 18) none (.p (.mv (.t 0))), .op (some 19) none (.call 81 [(.t 18)]), .op (some 4) none (.p (.mv .nil)), .op (some 5) none (.p (.mv (.t 19))), .gh (.drop [0, 18, 19])]) (.ret)) (.skip))) (.seq (.seq (.ops [ .op (some 20) none (.p (.mv (.t 1))), .op (some 21) none (.p (.len (.t 20))), .op (some 22) none (.p (.bin .eql (.t 21) (.i .i64 (1)))), .gh (.drop [20, 21])]) (.cond (.t 22) (.seq (.ops [ .op (some 24) none (.p (.mv (.t 0))), .op (some 25) none (.p (.mv (.t 1))), .op (some 26) none (.p (.ia 1 (.t 25) (.i .i64 (0)))), .op (some 27) none (.p (.ld 1 false (.t 26))), .op (some 28) none (.call 94 [(.t 24), (.t 27)]), .op (some 23) none (.p (.mv (.t 28))), .op (some 29) none (.p (.ex (.t 23) 0)), .op (some 30) none (.p (.ex (.t 23) 1)), .op (some 6) none (.p (.mv (.t 29))), .op (some 7) none (.p (.mv (.t 30))), .gh (.drop [0, 1, 23, 24, 25, 26, 27, 28, 29, 30])]) (.seq (.ops [ .op (some 31) none (.p (.mv (.t 6))), .op (some 32) none (.p (.mv (.t 7))), .op (some 33) none (.w (.bs 99 1 [(.t 32)])), .op (some 34) none (.call 81 [(.t 33)]), .op (some 4) none (.p (.mv (.t 31))), .op (some 5) none (.p (.mv (.t 34))), .gh (.drop [6, 7, 31, 32, 33, 34])]) (.ret))) (.skip))) (.seq (.ops [ .op (some 35) none (.p (.mv (.t 1))), .op (some 36) none (.p (.mv (.t 1))), .op (some 37) none (.p (.len (.t 36))), .op (some 38) none (.p (.bin .sub (.t 37) (.i .i64 (1)))), .op (some 39) none (.p (.ia 1 (.t 35) (.t 38))), .op (some 40) none (.p (.ld 1 false (.t 39))), .op (some 41) none (.call 134 [(.t 40)]), .op (some 8) none (.p (.mv (.t 41))), .gh (.drop [35, 36, 37, 38, 39, 40, 41])]) (.seq (.ops [ .op (some 42) none (.p (.mv (.t 1))), .op (some 43) none (.p (.mv (.t 8))), .op (some 44) none (.call 124 [(.t 42), (.t 43)]), .op (some 9) none (.p (.mv (.t 44))), .gh (.drop [1, 42, 43, 44])]) (.seq (.cut (.ops [ .op (some 45) none (.p (.mv (.t 0))), .op (some 46) none (.p (.len (.t 45))), .op (some 47) none (.p (.bin .add (.t 46) (.i .i64 (1)))), .op (some 48) none (.w (.mk 99 1 4 [.int .u32] (encI .u32) (0 : Int) (.t 47) (.t 47))), .op (some 10) none (.p (.mv (.t 48))), .gh (.drop [45, 46, 47, 48])])) (.seq (.ops [ .op (some 49) none (.p (.mv (.t 10))), .gh (.ren 48 1000), .op (some 50) none (.p (.mv (.t 0))), .op (some 51) none (.p (.mv (.t 8))), .op (some 52) none (.call 124 [(.t 50), (.t 51)]), .op (some 53) none (.w (.cp 1 (.t 49) (.t 52))), .gh (.drop [49, 50, 51, 52, 53])]) (.seq (.ops [ .op (some 54) none (.p (.mv (.t 9))), .op (some 55) none (.p (.len (.t 54))), .op (some 11) none (.p (.mv (.t 55))), .gh (.drop [54, 55])]) (.seq (.ops [ .op (some 56) none (.p (.mv (.t 0))), .op (some 57) none (.p (.len (.t 56))), .op (some 58) none (.p (.mv (.t 11))), .op (some 59) none (.p (.bin .sub (.t 57) (.t 58))), .op (some 60) none (.p (.bin .add (.t 59) (.i .i64 (1)))), .op (some 61) none (.w (.mk 99 1 4 [.int .u32] (encI .u32) (0 : Int) (.t 60) (.t 60))), .op (some 12) none (.p (.mv (.t 61))), .gh (.drop [0, 56, 57, 58, 59, 60, 61])]) (.seq (.seq (.ops [ .op (some 62) none (.p (.mv (.t 12))), .op (some 63) none (.p (.len (.t 62))), .op (some 64) none (.p (.bin .sub (.t 63) (.i .i64 (1)))), .op (some 13) none (.p (.mv (.t 64))), .gh (.drop [62, 63, 64])]) (.cut (.block 0 (.loop (.seq (.seq (.ops [ .op (some 65) none (.p (.mv (.t 13))), .op (some 66) none (.p (.bin .geq (.t 65) (.i .i64 (0)))), .gh (.drop [65])]) (.cond (.t 66) (.skip) (.exit 0))) (.seq (.block 1 (.ops [ .op (some 69) none (.p (.mv (.t 12))), .op (some 70) none (.p (.mv (.t 13))), .op (some 71) none (.p (.mv (.t 10))), .op (some 72) none (.p (.mv (.t 13))), .op (some 73) none (.p (.mv (.t 13))), .op (some 74) none (.p (.mv (.t 11))), .op (some 75) none (.p (.bin .add (.t 73) (.t 74))), .op (some 76) none (.p (.bin .add (.t 75) (.i .i64 (1)))), .op (some 77) none (.p (.mv (.t 13))), .op (some 78) none (.p (.mv (.t 11))), .op (some 79) none (.p (.bin .add (.t 77) (.t 78))), .op (some 80) none (.p (.bin .add (.t 79) (.i .i64 (1)))), .op (some 81) none (.p (.sl 1 (.t 71) (some (.t 72)) (some (.t 76)) (some (.t 80)))), .op (some 82) none (.p (.mv (.t 9))), .op (some 83) none (.call 135 [(.t 81), (.t 82)]), .op (some 84) none (.p (.ia 1 (.t 69) (.t 70))), .op none none (.w (.st 1 (.t 84) (.t 83))), .gh (.drop [69, 70, 71, 72, 73, 74, 75, 76, 77, 78, 79, 80, 81, 82, 83, 84])])) (.ops [ .op (some 67) none (.p (.mv (.t 13))), .op (some 68) none (.p (.bin .sub (.t 67) (.i .i64 (1)))), .op (some 13) none (.p (.mv (.t 68))), .gh (.drop [67, 68])]))))))) (.seq (.ops [ .op (some 85) none (.p (.mv (.t 12))), .op (some 86) none (.call 81 [(.t 85)]), .op (some 87) none (.p (.mv (.t 10))), .op (some 88) none (.call 81 [(.t 87)]), .op (some 89) none (.p (.mv (.t 8))), .op (some 90) none (.call 125 [(.t 88), (.t 89)]), .op (some 91) none (.call 81 [(.t 90)]), .op (some 4) none (.p (.mv (.t 86))), .op (some 5) none (.p (.mv (.t 91))), .gh (.drop [8, 10, 12, 85, 86, 87, 88, 89, 90, 91])]) (.ret)))))))))))
theorem k115 : chkF Try.prog 115 2 [4, 5] c115 = true := by kernel_rfl

/- natural.DivMod: arguments 2, results in [4, 5, 6]; slots in use where its loops begin: [] -/
def c63 : MC := .seq (.ops [ .op (some 4) none (.p (.mv .nil)), .op (some 5) none (.p (.mv .nil)), .op (some 6) none (.p (.mv (.i .i64 (0)))), .gh (.drop [4, 5, 6])]) (.seq (.block 0 (.seq (.ops [ .op (some 10) none (.p (.mv (.t 0))), .op (some 11) none (.p (.mv (.t 1))), .op (some 12) none (.w (.bs 24 1 [(.t 10), (.t 11)])), .op (some 13) none (.call 102 [(.t 12)]), .op (some 14) none (.p (.un .not (.t 13))), .op (some 9) none (.p (.mv (.t 14))), .gh (.drop [10, 11, 12, 13, 14])]) (.cond (.t 9) (.seq (.ops [ .op (some 4) none (.p (.mv .nil)), .op (some 5) none (.p (.mv .nil)), .op (some 6) none (.p (.mv (.i .i64 (20))))]) (.ret)) (.seq (.ops [ .op (some 16) none (.p (.mv (.t 1))), .op (some 17) none (.p (.len (.t 16))), .op (some 18) none (.p (.bin .eql (.t 17) (.i .i64 (0)))), .op (some 15) none (.p (.mv (.t 18))), .gh (.drop [16, 17, 18])]) (.cond (.t 15) (.seq (.ops [ .op (some 4) none (.p (.mv .nil)), .op (some 5) none (.p (.mv .nil)), .op (some 6) none (.p (.mv (.i .i64 (3))))]) (.ret)) (.skip)))))) (.seq (.ops [ .op (some 20) none (.p (.mv (.t 0))), .op (some 21) none (.p (.mv (.t 1))), .op (some 22) none (.call 115 [(.t 20), (.t 21)]), .op (some 19) none (.p (.mv (.t 22))), .op (some 23) none (.p (.ex (.t 19) 0)), .op (some 24) none (.p (.ex (.t 19) 1)), .op (some 7) none (.p (.mv (.t 23))), .op (some 8) none (.p (.mv (.t 24))), .gh (.drop [0, 1, 19, 20, 21, 22, 23, 24])]) (.seq (.ops [ .op (some 25) none (.p (.mv (.t 7))), .op (some 26) none (.p (.mv (.t 8))), .op (some 4) none (.p (.mv (.t 25))), .op (some 5) none (.p (.mv (.t 26))), .op (some 6) none (.p (.mv (.i .i64 (0)))), .gh (.drop [7, 8, 25, 26])]) (.ret))))
theorem k63 : chkF Try.prog 63 2 [4, 5, 6] c63 = true := by kernel_rfl



theorem callDigit {Q : St → Prop} {k : List It} {env : Env} {d m : Nat} {fr app : Bool} (ps rs qs low : List Int) (n at_ : Nat) (os : List Int) (hat : at_ = ps.length) (hm : m = n + 1) (hn : 2 ≤ n) (hr : rs.length = n + 1) (hl : low.length = n) (hN : (ps.length + n + 1 + qs.length) * 4 ≤ 140737488355328) (lr : lim rs) (hV : 2147483648 * 4294967296 ^ (n - 1) ≤ val low) (hX : val rs < 4294967296 * val low)
    (hk : ∀ rs', rs'.length = n + 1 → lim rs' → val rs' = val rs % val low → run Try.prog Q k ⟨eset env d (.int .u32 (val rs / val low)), [(1000, .arr 99 false true 1 (encI .u32) (ps ++ (rs' ++ qs))), (61, .arr 99 true true 1 (encI .u32) os)]⟩) :
    callK Try.prog Q k (some d) ⟨env, [(1000, .arr 99 false true 1 (encI .u32) (ps ++ (rs ++ qs))), (61, .arr 99 true true 1 (encI .u32) os)]⟩ 135 [.own 1000 at_ m app, uL fr low] := by
  subst hat hm
  refine callKL (natural_digit fr ps rs qs low n hn hr hl hN lr hV hX) ⟨⟨rfl, rfl, rfl, (fun h => by cases h), by simp [rowP, hget]⟩, ⟨(fun h => h), rfl⟩, trivial⟩ (by simp [lends, lend, rowP, hget]) ?_
  rintro r hp' ⟨rfl, rs', rfl, h1, h2, h3⟩
  refine ⟨fun i hi => .inl ?_, ?_⟩
  · simp only [rowP, hget] at hi ⊢
    by_cases e : 1000 = i
    · simp [e]
    · simp [e] at hi
  · simp only [rowP, after, killM, killMH, hupd, hset, hget, OB.fixed, killE, killH, killO, killV, killC, put_some, put_none, eset_cons, eset_nil, reduceIte, Nat.reduceEqDiff, Nat.reduceLT, Bool.not_true, Bool.not_false, Bool.false_eq_true, List.map_cons, List.map_nil, reduceCtorEq]
    exact hk rs' h1 h2 h3

theorem split3 (W : List Int) (c n : Nat) (h : c + n + 1 ≤ W.length) : ∃ ps x rt qs, W = ps ++ ((x :: rt) ++ qs) ∧ ps.length = c ∧ rt.length = n := by
  refine ⟨W.take c, W[c]'(by omega), (W.drop (c + 1)).take n, (W.drop (c + 1)).drop n, ?_, by rw [List.length_take]; omega, by rw [List.length_take, List.length_drop]; omega⟩
  rw [List.cons_append, List.take_append_drop, ← List.drop_eq_getElem_cons, List.take_append_drop]

set_option maxHeartbeats 2000000 in
theorem natural_divide (fr fr' : Bool) (a d : List Int) (ma : may a) (md : may d) (hd0 : d.length ≠ 0) : FSpec0 Try.prog 115 [uL fr a, uL fr' d] (fun r => r = .tup [uL true (limbs (val a / val d)), uL true (limbs (val a % val d))]) := by
  refine FSpec0.of_facts fun hf => fspec0_of_run k115 ?_
  have la : lim a := lim_of_factL hf.1
  have ld : lim d := lim_of_factL hf.2.1
  have hal := ma.1
  have hdl := md.1
  have A0 := (val_bound la).1
  obtain ⟨t, ht⟩ : ∃ t, d[d.length - 1]? = some t := ⟨_, List.getElem?_eq_getElem (by omega)⟩
  have T := ld.get ht
  have ht0 : t ≠ 0 := fun e => md.2 (by rw [ht, e])
  have hDt := val_take_succ ht
  rw [show d.length - 1 + 1 = d.length by omega, List.take_length] at hDt
  have hDl := val_bound (ld.take (d.length - 1))
  rw [List.length_take, Nat.min_eq_left (by omega)] at hDl
  have hP := pow_pos' (d.length - 1)
  have hD0 : 0 < val d := by
    have : 4294967296 ^ (d.length - 1) * 1 ≤ 4294967296 ^ (d.length - 1) * t := Int.mul_le_mul_of_nonneg_left (by omega) (by omega)
    omega
  simp only [uL, c115, W1, W2, W3, popTo, memb, res, wres, env0, byteAt, optI, cutB, cutL, sliceR, strR, ldCells, ldR, iaR, faR, lenR, lenSR, ixR, exR, nchkR, mxR, csR, up, ZV.av, ZV.fit, zfits, fits, fitsL, cellsOf, down, downL, downLL, stR, mkR, bsR, boxR, alR, apR, cpR, srcQ, solid, killC, killV, killE, killO, killH, hget, hset, hdel, pubV, pubC, pubO, renV, renC, renO, reduceIte, reduceCtorEq, Nat.reduceEqDiff, Nat.reduceLT, Nat.reduceAdd, Int.reduceToNat, Nat.reduceLeDiff, Int.reducePow, Int.reduceLE, Int.reduceLT]
  refine call1 (natural_compare fr fr' a d ma.2 md.2) (by repeat (first | exact subs_nil | refine subs_int ?_ | refine subs_ro ?_ | refine subs_bool ?_ | refine subs_str ?_ | refine subs_nilro ?_ | refine subs_lits rfl ?_ | refine subs_all rfl rfl (by simp) ?_ | refine subs_own rfl rfl ?_ | refine subs_fn ?_)) ?_
  simp only [uL, W1, W2, W3, popTo, memb, res, wres, env0, byteAt, optI, cutB, cutL, sliceR, strR, ldCells, ldR, iaR, faR, lenR, lenSR, ixR, exR, nchkR, mxR, csR, up, ZV.av, ZV.fit, zfits, fits, fitsL, cellsOf, down, downL, downLL, stR, mkR, bsR, boxR, alR, apR, cpR, srcQ, solid, killC, killV, killE, killO, killH, hget, hset, hdel, pubV, pubC, pubO, renV, renC, renO, reduceIte, reduceCtorEq, Nat.reduceEqDiff, Nat.reduceLT, Nat.reduceAdd, Int.reduceToNat, Nat.reduceLeDiff, Int.reducePow, Int.reduceLE, Int.reduceLT]
  refine ⟨fun h => ?_, fun h => ?_⟩
  · have hlt : val a < val d := by
      refine Int.lt_of_not_ge fun hge => ?_
      rcases (by omega : val d < val a ∨ val a = val d) with h1 | h1
      · rw [cmp_gt h1] at h; omega
      · rw [cmp_eq h1] at h; omega
    refine call1 (natural_trim fr a (by omega)) (by repeat (first | exact subs_nil | refine subs_int ?_ | refine subs_ro ?_ | refine subs_bool ?_ | refine subs_str ?_ | refine subs_nilro ?_ | refine subs_lits rfl ?_ | refine subs_all rfl rfl (by simp) ?_ | refine subs_own rfl rfl ?_ | refine subs_fn ?_)) ?_
    rw [trimL_limbs la, Int.ediv_eq_zero_of_lt A0 hlt, Int.emod_eq_of_lt A0 hlt, limbs_zero]
    simp only [uL, W1, W2, W3, popTo, memb, res, wres, env0, byteAt, optI, cutB, cutL, sliceR, strR, ldCells, ldR, iaR, faR, lenR, lenSR, ixR, exR, nchkR, mxR, csR, up, ZV.av, ZV.fit, zfits, fits, fitsL, cellsOf, down, downL, downLL, stR, mkR, bsR, boxR, alR, apR, cpR, srcQ, solid, killC, killV, killE, killO, killH, hget, hset, hdel, pubV, pubC, pubO, renV, renC, renO, reduceIte, reduceCtorEq, Nat.reduceEqDiff, Nat.reduceLT, Nat.reduceAdd, Int.reduceToNat, Nat.reduceLeDiff, Int.reducePow, Int.reduceLE, Int.reduceLT]
    exact ret1' (by simp only [retR, retA, retL, ret1, ret1L, eget, hget, hset, St.set, eset, List.map_cons, List.map_nil, reduceIte, reduceCtorEq, Nat.reduceEqDiff, Nat.reduceLT, true_and, and_true, false_or, or_true, true_or, List.drop_zero, List.take_length, scalE_I, scalE_B, scalE_S]; rfl)
  intro _
  refine ⟨fun h1 => ?_, fun h1 => ?_⟩
  · refine ⟨by omega, fun e he => ?_⟩
    rw [show (0 : Nat) = d.length - 1 by omega, ht] at he
    obtain rfl := Option.some.inj he
    have hdv : val d = t := by
      rw [show d.length - 1 = 0 by omega] at hDt
      rw [hDt]; simp [val]
    refine call1 (natural_short fr a t (by omega) (by omega)) (by repeat (first | exact subs_nil | refine subs_int ?_ | refine subs_ro ?_ | refine subs_bool ?_ | refine subs_str ?_ | refine subs_nilro ?_ | refine subs_lits rfl ?_ | refine subs_all rfl rfl (by simp) ?_ | refine subs_own rfl rfl ?_ | refine subs_fn ?_)) ?_
    simp only [uL, W1, W2, W3, popTo, memb, res, wres, env0, byteAt, optI, cutB, cutL, sliceR, strR, ldCells, ldR, iaR, faR, lenR, lenSR, ixR, exR, nchkR, mxR, csR, up, ZV.av, ZV.fit, zfits, fits, fitsL, cellsOf, down, downL, downLL, stR, mkR, bsR, boxR, alR, apR, cpR, srcQ, solid, killC, killV, killE, killO, killH, hget, hset, hdel, pubV, pubC, pubO, renV, renC, renO, reduceIte, reduceCtorEq, Nat.reduceEqDiff, Nat.reduceLT, Nat.reduceAdd, Int.reduceToNat, Nat.reduceLeDiff, Int.reducePow, Int.reduceLE, Int.reduceLT]
    refine call1 (natural_trim true [val a % t] (by simp)) (by repeat (first | exact subs_nil | refine subs_lits' rfl ?_)) ?_
    have r0 := Int.emod_nonneg (val a) (show t ≠ 0 by omega)
    have r1 := Int.emod_lt_of_pos (val a) (show 0 < t by omega)
    rw [trimL_limbs (fun x hx => by rw [List.mem_singleton.1 hx]; omega), show val [val a % t] = val a % t by simp [val], hdv]
    simp only [uL, W1, W2, W3, popTo, memb, res, wres, env0, byteAt, optI, cutB, cutL, sliceR, strR, ldCells, ldR, iaR, faR, lenR, lenSR, ixR, exR, nchkR, mxR, csR, up, ZV.av, ZV.fit, zfits, fits, fitsL, cellsOf, down, downL, downLL, stR, mkR, bsR, boxR, alR, apR, cpR, srcQ, solid, killC, killV, killE, killO, killH, hget, hset, hdel, pubV, pubC, pubO, renV, renC, renO, reduceIte, reduceCtorEq, Nat.reduceEqDiff, Nat.reduceLT, Nat.reduceAdd, Int.reduceToNat, Nat.reduceLeDiff, Int.reducePow, Int.reduceLE, Int.reduceLT]
    exact ret1' (by simp only [retR, retA, retL, ret1, ret1L, eget, hget, hset, St.set, eset, List.map_cons, List.map_nil, reduceIte, reduceCtorEq, Nat.reduceEqDiff, Nat.reduceLT, true_and, and_true, false_or, or_true, true_or, List.drop_zero, List.take_length, scalE_I, scalE_B, scalE_S])
  refine fun _ => ⟨by omega, by omega, fun e he => ?_⟩
  rw [show ((d.length : Int) - 1).toNat = d.length - 1 by omega, ht] at he
  obtain rfl := Option.some.inj he
  have hle : val d ≤ val a := by
    refine Int.le_of_not_gt fun hgt => ?_
    rw [cmp_lt hgt] at h; omega
  refine call1 (bits_LeadingZeros32 t) (by repeat (first | exact subs_nil | refine subs_int ?_ | refine subs_ro ?_ | refine subs_bool ?_ | refine subs_str ?_ | refine subs_nilro ?_ | refine subs_lits rfl ?_ | refine subs_all rfl rfl (by simp) ?_ | refine subs_own rfl rfl ?_ | refine subs_fn ?_)) ?_
  have hk0 : blen t.toNat ≤ 32 := blen_le.2 (by omega)
  have hk1 : t.toNat < 2 ^ blen t.toNat := blen_le.1 (Nat.le_refl _)
  have hk2 : 1 ≤ blen t.toNat := Nat.lt_of_not_le fun h => by
    have := blen_le.1 h
    omega
  have hk3 : ¬ t.toNat < 2 ^ (blen t.toNat - 1) := fun h => by
    have := blen_le.2 h
    omega
  rw [show (32 : Int) - (blen t.toNat : Nat) = ((32 - blen t.toNat : Nat) : Int) by omega]
  have hS1 : 2147483648 ≤ t * 2 ^ (32 - blen t.toNat) := by
    have e1 : ((2 ^ (blen t.toNat - 1) : Nat) : Int) ≤ t := by omega
    have e2 : ((2 ^ (blen t.toNat - 1) : Nat) : Int) * 2 ^ (32 - blen t.toNat) = 2147483648 := by
      push_cast
      rw [← Int.pow_add, show blen t.toNat - 1 + (32 - blen t.toNat) = 31 by omega]; rfl
    rw [← e2]
    exact Int.mul_le_mul_of_nonneg_right e1 (Int.pow_nonneg (by omega))
  have hS2 : (t + 1) * 2 ^ (32 - blen t.toNat) ≤ 4294967296 := by
    have e1 : t + 1 ≤ ((2 ^ blen t.toNat : Nat) : Int) := by omega
    have e2 : ((2 ^ blen t.toNat : Nat) : Int) * 2 ^ (32 - blen t.toNat) = 4294967296 := by
      push_cast
      rw [← Int.pow_add, show blen t.toNat + (32 - blen t.toNat) = 32 by omega]; rfl
    rw [← e2]
    exact Int.mul_le_mul_of_nonneg_right e1 (Int.pow_nonneg (by omega))
  have hsl : 32 - blen t.toNat < 32 := by omega
  generalize 32 - blen t.toNat = s at *
  have h2s : (0 : Int) < 2 ^ s := Int.pow_pos (by omega)
  simp only [uL, W1, W2, W3, popTo, memb, res, wres, env0, byteAt, optI, cutB, cutL, sliceR, strR, ldCells, ldR, iaR, faR, lenR, lenSR, ixR, exR, nchkR, mxR, csR, up, ZV.av, ZV.fit, zfits, fits, fitsL, cellsOf, down, downL, downLL, stR, mkR, bsR, boxR, alR, apR, cpR, srcQ, solid, killC, killV, killE, killO, killH, hget, hset, hdel, pubV, pubC, pubO, renV, renC, renO, reduceIte, reduceCtorEq, Nat.reduceEqDiff, Nat.reduceLT, Nat.reduceAdd, Int.reduceToNat, Nat.reduceLeDiff, Int.reducePow, Int.reduceLE, Int.reduceLT]
  refine call1 (natural_shl fr' d s (by omega) (by omega)) (by repeat (first | exact subs_nil | refine subs_int ?_ | refine subs_ro ?_ | refine subs_bool ?_ | refine subs_str ?_ | refine subs_nilro ?_ | refine subs_lits rfl ?_ | refine subs_all rfl rfl (by simp) ?_ | refine subs_own rfl rfl ?_ | refine subs_fn ?_)) ?_
  have hpn : (4294967296 : Int) ^ d.length = 4294967296 ^ (d.length - 1) * 4294967296 := by rw [← pow_s]; congr 1; omega
  have hV1 : 2147483648 * 4294967296 ^ (d.length - 1) ≤ val d * 2 ^ s := by
    have e1 : 4294967296 ^ (d.length - 1) * 2147483648 ≤ 4294967296 ^ (d.length - 1) * (t * 2 ^ s) := Int.mul_le_mul_of_nonneg_left hS1 (by omega)
    have e2 : 0 ≤ val (d.take (d.length - 1)) * 2 ^ s := Int.mul_nonneg hDl.1 (by omega)
    rw [hDt, Int.add_mul, Int.mul_assoc]; omega
  have hV2 : val d * 2 ^ s < 4294967296 ^ d.length := by
    have e1 : 4294967296 ^ (d.length - 1) * ((t + 1) * 2 ^ s) ≤ 4294967296 ^ (d.length - 1) * 4294967296 := Int.mul_le_mul_of_nonneg_left hS2 (by omega)
    have e2 : val (d.take (d.length - 1)) * 2 ^ s < 4294967296 ^ (d.length - 1) * 2 ^ s := Int.mul_lt_mul_of_pos_right hDl.2 h2s
    rw [Int.add_mul, Int.one_mul, Int.mul_add] at e1
    rw [hpn, hDt, Int.add_mul, Int.mul_assoc]; omega
  have hmn : d.length ≤ a.length := by
    refine Nat.le_of_not_lt fun hlt => ?_
    have e1 := (val_bound la).2
    have e2 := pow_mono (m := a.length) (n := d.length - 1) (by omega)
    have e3 : 4294967296 ^ (d.length - 1) * 1 ≤ 4294967296 ^ (d.length - 1) * t := Int.mul_le_mul_of_nonneg_left (by omega) (by omega)
    omega
  have hA1 : val a * 2 ^ s < 4294967296 ^ a.length * 2 ^ s := Int.mul_lt_mul_of_pos_right (val_bound la).2 h2s
  have hVge : 4294967296 ^ (d.length - 1) * 2 ^ s ≤ val d * 2 ^ s := Int.mul_le_mul_of_nonneg_right (by
    have e3 : 4294967296 ^ (d.length - 1) * 1 ≤ 4294967296 ^ (d.length - 1) * t := Int.mul_le_mul_of_nonneg_left (by omega) (by omega)
    omega) (by omega)
  have hq : val a * 2 ^ s / (val d * 2 ^ s) = val a / val d := Int.mul_ediv_mul_of_pos_left _ _ h2s
  have hr : val a * 2 ^ s % (val d * 2 ^ s) / 2 ^ s = val a % val d := by
    rw [Int.mul_comm (val a), Int.mul_comm (val d), Int.mul_emod_mul_of_pos _ _ h2s, Int.mul_ediv_cancel_left _ (by omega)]
  have hll : (limbs (val d * 2 ^ s)).length = d.length := by
    have e0 : 0 ≤ val d * 2 ^ s := by omega
    have e1 := (limbs_len_le e0 d.length).2 hV2
    have e2 : ¬ (limbs (val d * 2 ^ s)).length ≤ d.length - 1 := fun h => by
      have := (limbs_len_le e0 (d.length - 1)).1 h
      omega
    omega
  have hlv := limbs_val (show 0 ≤ val d * 2 ^ s by omega)
  have hAl : (limbs (val a * 2 ^ s)).length ≤ a.length + 1 := (limbs_len_le (Int.mul_nonneg A0 (by omega)) _).2 (by
    have e1 : (2 : Int) ^ s ≤ 4294967296 := by
      have : (1 : Int) * 2 ^ s ≤ (t + 1) * 2 ^ s := Int.mul_le_mul_of_nonneg_right (by omega) (by omega)
      omega
    have e2 : (4294967296 : Int) ^ a.length * 2 ^ s ≤ 4294967296 ^ a.length * 4294967296 := Int.mul_le_mul_of_nonneg_left e1 (Int.le_of_lt (pow_pos' _))
    rw [pow_s]; omega)
  have hAv := limbs_val (show 0 ≤ val a * 2 ^ s from Int.mul_nonneg A0 (by omega))
  have hAL := limbs_lim (val a * 2 ^ s)
  generalize limbs (val d * 2 ^ s) = low at *
  simp only [uL, W1, W2, W3, popTo, memb, res, wres, env0, byteAt, optI, cutB, cutL, sliceR, strR, ldCells, ldR, iaR, faR, lenR, lenSR, ixR, exR, nchkR, mxR, csR, up, ZV.av, ZV.fit, zfits, fits, fitsL, cellsOf, down, downL, downLL, stR, mkR, bsR, boxR, alR, apR, cpR, srcQ, solid, killC, killV, killE, killO, killH, hget, hset, hdel, pubV, pubC, pubO, renV, renC, renO, reduceIte, reduceCtorEq, Nat.reduceEqDiff, Nat.reduceLT, Nat.reduceAdd, Int.reduceToNat, Nat.reduceLeDiff, Int.reducePow, Int.reduceLE, Int.reduceLT]
  refine cut_intro (fun st => st = ⟨[(0, uL fr a), (8, .int .i64 s), (9, uL true low), (10, .own 48 0 (a.length + 1) true)], [(48, .arr 99 false true 1 (encI .u32) (List.replicate (a.length + 1) 0))]⟩) ?_ ?_
  · simp only [W1, W2, W3, popTo, memb, res, wres, env0, byteAt, optI, cutB, cutL, sliceR, strR, ldCells, ldR, iaR, faR, lenR, lenSR, ixR, exR, nchkR, mxR, csR, up, ZV.av, ZV.fit, zfits, fits, fitsL, cellsOf, down, downL, downLL, stR, mkR, bsR, boxR, alR, apR, cpR, srcQ, solid, killC, killV, killE, killO, killH, hget, hset, hdel, pubV, pubC, pubO, renV, renC, renO, reduceIte, reduceCtorEq, Nat.reduceEqDiff, Nat.reduceLT, Nat.reduceAdd, Int.reduceToNat, Nat.reduceLeDiff, Int.reducePow, Int.reduceLE, Int.reduceLT]
    refine fun _ => ⟨by omega, by omega, ?_⟩
    rw [show ((a.length : Int) + 1).toNat = a.length + 1 by omega]
    exact ⟨_, Ent.trans (Ent.of_env (env' := [(0, uL fr a), (8, .int .i64 s), (9, uL true low), (10, .own 48 0 (a.length + 1) true)]) (by simp [eget, uL]))
      (Ent.fixr (id := 48) rfl (by intro e; have := congrArg List.length e; rw [List.length_replicate, List.length_nil] at this; omega) (by omega)), rfl⟩
  rintro st rfl
  simp only [uL, W1, W2, W3, popTo, memb, res, wres, env0, byteAt, optI, cutB, cutL, sliceR, strR, ldCells, ldR, iaR, faR, lenR, lenSR, ixR, exR, nchkR, mxR, csR, up, ZV.av, ZV.fit, zfits, fits, fitsL, cellsOf, down, downL, downLL, stR, mkR, bsR, boxR, alR, apR, cpR, srcQ, solid, killC, killV, killE, killO, killH, hget, hset, hdel, pubV, pubC, pubO, renV, renC, renO, reduceIte, reduceCtorEq, Nat.reduceEqDiff, Nat.reduceLT, Nat.reduceAdd, Int.reduceToNat, Nat.reduceLeDiff, Int.reducePow, Int.reduceLE, Int.reduceLT]
  refine call1 (natural_shl fr a s (by omega) (by omega)) (by repeat (first | exact subs_nil | refine subs_int ?_ | refine subs_ro ?_ | refine subs_bool ?_ | refine subs_str ?_ | refine subs_nilro ?_ | refine subs_lits rfl ?_ | refine subs_all rfl rfl (by simp) ?_ | refine subs_own rfl rfl ?_ | refine subs_fn ?_)) ?_
  generalize limbs (val a * 2 ^ s) = W0 at *
  simp only [uL, W1, W2, W3, popTo, memb, res, wres, env0, byteAt, optI, cutB, cutL, sliceR, strR, ldCells, ldR, iaR, faR, lenR, lenSR, ixR, exR, nchkR, mxR, csR, up, ZV.av, ZV.fit, zfits, fits, fitsL, cellsOf, down, downL, downLL, stR, mkR, bsR, boxR, alR, apR, cpR, srcQ, solid, killC, killV, killE, killO, killH, hget, hset, hdel, pubV, pubC, pubO, renV, renC, renO, reduceIte, reduceCtorEq, Nat.reduceEqDiff, Nat.reduceLT, Nat.reduceAdd, Int.reduceToNat, Nat.reduceLeDiff, Int.reducePow, Int.reduceLE, Int.reduceLT]
  have hN : ((a.length : Int) - low.length + 1).toNat = a.length - d.length + 1 := by omega
  have hW0 : List.take (a.length + 1) W0 ++ List.drop (if a.length + 1 ≤ W0.length then a.length + 1 else W0.length) (List.replicate (a.length + 1) 0) = W0 ++ List.replicate (a.length + 1 - W0.length) 0 := by
    rw [List.take_of_length_le hAl, List.drop_replicate]
    congr 2
    split <;> omega
  refine fun _ => ⟨W0, rfl, fun _ _ => ⟨by omega, by omega, by omega, fun _ => ⟨by rw [hN]; omega, ?_⟩⟩⟩
  rw [hN, hW0, hll]
  have hWl : (W0 ++ List.replicate (a.length + 1 - W0.length) 0).length = a.length + 1 := by simp; omega
  have hWv : val (W0 ++ List.replicate (a.length + 1 - W0.length) 0) = val a * 2 ^ s := by rw [val_append, val_rep, hAv]; simp
  have hWm := hAL.append (lim.rep (a.length + 1 - W0.length))
  generalize W0 ++ List.replicate (a.length + 1 - W0.length) 0 = Wr at *
  generalize hNN : a.length - d.length + 1 = N at *
  generalize hAA : val a * 2 ^ s = A at *
  refine cut_intro (fun st => ∃ (W zs : List Int), W.length = a.length + 1 ∧ zs.length = N ∧ lim W ∧ lim zs ∧ val W < val low ∧ A = val W + val low * val zs ∧
    st = ⟨[(8, .int .i64 s), (10, .own 1000 0 (a.length + 1) true), (12, .own 61 0 N true)], [(1000, .arr 99 false true 1 (encI .u32) W), (61, .arr 99 true true 1 (encI .u32) zs)]⟩) ?_ ?_
  · simp only [W1, W2, W3, popTo, memb, res, wres, env0, byteAt, optI, cutB, cutL, sliceR, strR, ldCells, ldR, iaR, faR, lenR, lenSR, ixR, exR, nchkR, mxR, csR, up, ZV.av, ZV.fit, zfits, fits, fitsL, cellsOf, down, downL, downLL, stR, mkR, bsR, boxR, alR, apR, cpR, srcQ, solid, killC, killV, killE, killO, killH, hget, hset, hdel, pubV, pubC, pubO, renV, renC, renO, reduceIte, reduceCtorEq, Nat.reduceEqDiff, Nat.reduceLT, Nat.reduceAdd, Int.reduceToNat, Nat.reduceLeDiff, Int.reducePow, Int.reduceLE, Int.reduceLT]
    refine loop_intro (fun m st => ∃ (c : Nat) (W zs : List Int), c ≤ N ∧ m = c ∧ W.length = a.length + 1 ∧ zs.length = N - c ∧ lim W ∧ lim zs ∧ val (W.drop c) < val low ∧ A = val W + val low * (4294967296 ^ c * val zs) ∧
      st = ⟨[(8, .int .i64 s), (9, uL true low), (10, .own 1000 0 (a.length + 1) true), (11, .int .i64 d.length), (12, .own 61 0 N true), (13, .int .i64 ((c : Int) - 1))], [(1000, .arr 99 false true 1 (encI .u32) W), (61, .arr 99 true true 1 (encI .u32) (List.replicate c 0 ++ zs))]⟩) N
      [(8, .int .i64 s), (9, uL true low), (10, .own 1000 0 (a.length + 1) true), (11, .int .i64 d.length), (12, .own 61 0 N true), (13, .int .i64 ((N : Int) - 1))] (by simp [eget, uL]) ⟨N, Wr, [], by omega, rfl, hWl, by simp, hWm, lim.nil, ?_, by rw [hWv]; simp [val], by simp⟩ ?_
    · refine Int.lt_of_not_ge fun hge => ?_
      have e1 := val_split Wr N (by omega)
      have e2 := (val_bound (hWm.take N)).1
      have e3 : (4294967296 : Int) ^ N * (4294967296 ^ (d.length - 1) * 2 ^ s) ≤ 4294967296 ^ N * val (Wr.drop N) := Int.mul_le_mul_of_nonneg_left (by omega) (Int.le_of_lt (pow_pos' _))
      rw [← Int.mul_assoc, ← Int.pow_add, show N + (d.length - 1) = a.length by omega] at e3
      omega
    rintro m st ⟨c, W, zs, hc, rfl, hWl, hzl, lW, lz, hWc, hA, rfl⟩
    simp only [uL, W1, W2, W3, popTo, memb, res, wres, env0, byteAt, optI, cutB, cutL, sliceR, strR, ldCells, ldR, iaR, faR, lenR, lenSR, ixR, exR, nchkR, mxR, csR, up, ZV.av, ZV.fit, zfits, fits, fitsL, cellsOf, down, downL, downLL, stR, mkR, bsR, boxR, alR, apR, cpR, srcQ, solid, killC, killV, killE, killO, killH, hget, hset, hdel, pubV, pubC, pubO, renV, renC, renO, reduceIte, reduceCtorEq, Nat.reduceEqDiff, Nat.reduceLT, Nat.reduceAdd, Int.reduceToNat, Nat.reduceLeDiff, Int.reducePow, Int.reduceLE, Int.reduceLT]
    refine ⟨fun h0 => ⟨by omega, by omega, by omega, by omega, fun _ => ⟨by omega, ?_⟩⟩, fun h0 => ?_⟩
    rotate_left
    · obtain rfl : m = 0 := by omega
      exact join_intro [(8, .int .i64 s), (10, .own 1000 0 (a.length + 1) true), (12, .own 61 0 N true)] (by simp [eget, uL]) ⟨W, zs, hWl, by omega, lW, lz, by simpa using hWc, by simpa using hA, by simp⟩
    obtain ⟨c, rfl⟩ : ∃ c, m = c + 1 := ⟨m - 1, by omega⟩
    obtain ⟨ps, x, rt, qs, rfl, hps, hrt⟩ := split3 W c d.length (by omega)
    have lps : lim ps := fun y hy => lW y (by simp [hy])
    have lrs : lim (x :: rt) := fun y hy => lW y (by
      rcases List.mem_cons.1 hy with h | h <;> simp [h])
    have lqs : lim qs := fun y hy => lW y (by simp [hy])
    have hx := lrs.head
    have hrt0 := (val_bound lrs.tail).1
    have hqs0 := (val_bound lqs).1
    have hdrop : (ps ++ ((x :: rt) ++ qs)).drop (c + 1) = rt ++ qs := by
      rw [show ps ++ ((x :: rt) ++ qs) = (ps ++ [x]) ++ (rt ++ qs) by simp, List.drop_left' (by simp [hps])]
    rw [hdrop, val_append, hrt] at hWc
    have hqz : val qs = 0 := none_left (V := val rt) (p := d.length) (n := d.length) hrt0 hqs0 (by omega) (by omega)
    rw [hqz, Int.mul_zero, Int.add_zero] at hWc
    have hvr : val (x :: rt) = x + 4294967296 * val rt := rfl
    have hXV : val (x :: rt) < 4294967296 * val low := by omega
    have hX0 := (val_bound lrs).1
    have hlen2 : ps.length + d.length + 1 + qs.length = a.length + 1 := by
      rw [← hWl]; simp [hrt]; omega
    rw [show (((c + 1 : Nat) : Int) - 1).toNat = c by omega, show (((c + 1 : Nat) : Int) - 1 + d.length + 1).toNat - c = d.length + 1 by omega]
    refine callDigit ps (x :: rt) qs low d.length c _ hps.symm rfl (by omega) (by simp [hrt]) hll (by omega) lrs (by rw [hlv]; exact hV1) hXV ?_
    intro rs' hr1 lr' hrv
    have hVp : 0 < val low := by omega
    have e0 := Int.mul_ediv_add_emod (val (x :: rt)) (val low)
    have e1 := Int.emod_lt_of_pos (val (x :: rt)) hVp
    have e2 := Int.ediv_nonneg hX0 (Int.le_of_lt hVp)
    have e3 : val (x :: rt) / val low < 4294967296 := Int.ediv_lt_of_lt_mul hVp hXV
    have hA2 : A = val ps + 4294967296 ^ c * val (x :: rt) + val low * (4294967296 ^ (c + 1) * val zs) := by
      rw [hA, val_append, val_append, hqz, hps]; simp
    rw [← hrv] at e1 e0
    generalize val (x :: rt) = X at *
    generalize X / val low = q at *
    have hzs : (List.replicate (c + 1) (0 : Int) ++ zs).length = N := by simp; omega
    simp only [uL, W1, W2, W3, popTo, memb, res, wres, env0, byteAt, optI, cutB, cutL, sliceR, strR, ldCells, ldR, iaR, faR, lenR, lenSR, ixR, exR, nchkR, mxR, csR, up, ZV.av, ZV.fit, zfits, fits, fitsL, cellsOf, down, downL, downLL, stR, mkR, bsR, boxR, alR, apR, cpR, srcQ, solid, killC, killV, killE, killO, killH, hget, hset, hdel, pubV, pubC, pubO, renV, renC, renO, reduceIte, reduceCtorEq, Nat.reduceEqDiff, Nat.reduceLT, Nat.reduceAdd, Int.reduceToNat, Nat.reduceLeDiff, Int.reducePow, Int.reduceLE, Int.reduceLT]
    rw [hzs]
    refine fun _ => ⟨by omega, by omega, _, rfl, by omega, ?_⟩
    rw [show (((c + 1 : Nat) : Int) - 1).toNat = c by omega, set_low]
    refine back_intro [(8, .int .i64 s), (9, uL true low), (10, .own 1000 0 (a.length + 1) true), (11, .int .i64 d.length), (12, .own 61 0 N true), (13, .int .i64 ((c : Int) - 1))] (by simp [eget, uL]) (by omega)
      ⟨c, ps ++ (rs' ++ qs), q :: zs, by omega, rfl, by simp [hr1]; omega, by simp; omega, lps.append (lr'.append lqs), (show lim ([q] ++ zs) from lim.append (fun _ hx => by rw [List.mem_singleton.1 hx]; omega) lz), ?_, ?_, rfl⟩
    · rw [List.drop_left' hps, val_append, hqz, Int.mul_zero, Int.add_zero]; exact e1
    · rw [hA2, val_append, val_append, hqz, hps, pow_s, ← e0, val]
      simp only [Int.mul_add, Int.mul_zero, Int.add_zero]
      rw [Int.mul_left_comm (4294967296 ^ c) (val low) q, Int.mul_assoc]
      omega
  rintro st ⟨W, zs, hWl, hzl, lW, lz, hWc, hA, rfl⟩
  simp only [uL, W1, W2, W3, popTo, memb, res, wres, env0, byteAt, optI, cutB, cutL, sliceR, strR, ldCells, ldR, iaR, faR, lenR, lenSR, ixR, exR, nchkR, mxR, csR, up, ZV.av, ZV.fit, zfits, fits, fitsL, cellsOf, down, downL, downLL, stR, mkR, bsR, boxR, alR, apR, cpR, srcQ, solid, killC, killV, killE, killO, killH, hget, hset, hdel, pubV, pubC, pubO, renV, renC, renO, reduceIte, reduceCtorEq, Nat.reduceEqDiff, Nat.reduceLT, Nat.reduceAdd, Int.reduceToNat, Nat.reduceLeDiff, Int.reducePow, Int.reduceLE, Int.reduceLT]
  obtain ⟨u1, u2⟩ := div_unique (V := A) (d := val low) (q := val zs) (r := val W) (by have := pow_pos' (d.length - 1); omega) (by omega) ⟨(val_bound lW).1, hWc⟩
  rw [hlv] at u1 u2
  rw [hq] at u1
  rw [u2] at hr
  refine call1 (natural_trim false zs (by omega)) (by repeat (first | exact subs_nil | refine subs_all rfl rfl (by omega) ?_)) ?_
  simp only [uL, W1, W2, W3, popTo, memb, res, wres, env0, byteAt, optI, cutB, cutL, sliceR, strR, ldCells, ldR, iaR, faR, lenR, lenSR, ixR, exR, nchkR, mxR, csR, up, ZV.av, ZV.fit, zfits, fits, fitsL, cellsOf, down, downL, downLL, stR, mkR, bsR, boxR, alR, apR, cpR, srcQ, solid, killC, killV, killE, killO, killH, hget, hset, hdel, pubV, pubC, pubO, renV, renC, renO, reduceIte, reduceCtorEq, Nat.reduceEqDiff, Nat.reduceLT, Nat.reduceAdd, Int.reduceToNat, Nat.reduceLeDiff, Int.reducePow, Int.reduceLE, Int.reduceLT]
  refine call1 (natural_trim false W (by omega)) (by repeat (first | exact subs_nil | refine subs_all rfl rfl (by omega) ?_)) ?_
  have hWn := trimL_len W
  rw [trimL_limbs lz, trimL_limbs lW, ← u1] at *
  simp only [uL, W1, W2, W3, popTo, memb, res, wres, env0, byteAt, optI, cutB, cutL, sliceR, strR, ldCells, ldR, iaR, faR, lenR, lenSR, ixR, exR, nchkR, mxR, csR, up, ZV.av, ZV.fit, zfits, fits, fitsL, cellsOf, down, downL, downLL, stR, mkR, bsR, boxR, alR, apR, cpR, srcQ, solid, killC, killV, killE, killO, killH, hget, hset, hdel, pubV, pubC, pubO, renV, renC, renO, reduceIte, reduceCtorEq, Nat.reduceEqDiff, Nat.reduceLT, Nat.reduceAdd, Int.reduceToNat, Nat.reduceLeDiff, Int.reducePow, Int.reduceLE, Int.reduceLT]
  refine call1 (natural_shr true (limbs (val W)) s (by omega) (by omega)) (by repeat (first | exact subs_nil | refine subs_int ?_ | refine subs_ro ?_ | refine subs_bool ?_ | refine subs_str ?_ | refine subs_nilro ?_ | refine subs_lits rfl ?_ | refine subs_all rfl rfl (by simp) ?_ | refine subs_own rfl rfl ?_ | refine subs_fn ?_)) ?_
  rw [limbs_val (val_bound lW).1, hr]
  simp only [uL, W1, W2, W3, popTo, memb, res, wres, env0, byteAt, optI, cutB, cutL, sliceR, strR, ldCells, ldR, iaR, faR, lenR, lenSR, ixR, exR, nchkR, mxR, csR, up, ZV.av, ZV.fit, zfits, fits, fitsL, cellsOf, down, downL, downLL, stR, mkR, bsR, boxR, alR, apR, cpR, srcQ, solid, killC, killV, killE, killO, killH, hget, hset, hdel, pubV, pubC, pubO, renV, renC, renO, reduceIte, reduceCtorEq, Nat.reduceEqDiff, Nat.reduceLT, Nat.reduceAdd, Int.reduceToNat, Nat.reduceLeDiff, Int.reducePow, Int.reduceLE, Int.reduceLT]
  have hrn : 0 ≤ val a % val d := Int.emod_nonneg _ (by omega)
  refine call1 (natural_trim true (limbs (val a % val d)) (by have := limbs_mono (m := 2048) hrn (Int.le_of_lt (Int.emod_lt_of_pos _ hD0)) (by rw [may_limbs ld md]; exact hdl); omega)) (by repeat (first | exact subs_nil | refine subs_int ?_ | refine subs_ro ?_ | refine subs_bool ?_ | refine subs_str ?_ | refine subs_nilro ?_ | refine subs_lits rfl ?_ | refine subs_all rfl rfl (by simp) ?_ | refine subs_own rfl rfl ?_ | refine subs_fn ?_)) ?_
  rw [trimL_limbs (limbs_lim _), limbs_val hrn]
  simp only [uL, W1, W2, W3, popTo, memb, res, wres, env0, byteAt, optI, cutB, cutL, sliceR, strR, ldCells, ldR, iaR, faR, lenR, lenSR, ixR, exR, nchkR, mxR, csR, up, ZV.av, ZV.fit, zfits, fits, fitsL, cellsOf, down, downL, downLL, stR, mkR, bsR, boxR, alR, apR, cpR, srcQ, solid, killC, killV, killE, killO, killH, hget, hset, hdel, pubV, pubC, pubO, renV, renC, renO, reduceIte, reduceCtorEq, Nat.reduceEqDiff, Nat.reduceLT, Nat.reduceAdd, Int.reduceToNat, Nat.reduceLeDiff, Int.reducePow, Int.reduceLE, Int.reduceLT]
  exact ret1' (by simp only [retR, retA, retL, ret1, ret1L, eget, hget, hset, St.set, eset, List.map_cons, List.map_nil, reduceIte, reduceCtorEq, Nat.reduceEqDiff, Nat.reduceLT, true_and, and_true, false_or, or_true, true_or, List.drop_zero, List.take_length, scalE_I, scalE_B, scalE_S])

/-- quotient, remainder, error -/
def dmE (a d : List Int) : Int := if ¬ (may a ∧ may d) then 20 else if d.length = 0 then 3 else 0
def dmQ (a d : List Int) : List Int := if may a ∧ may d ∧ d.length ≠ 0 then limbs (val a / val d) else []
def dmR (a d : List Int) : List Int := if may a ∧ may d ∧ d.length ≠ 0 then limbs (val a % val d) else []
abbrev dmT (a d : List Int) : AV := .tup [uL true (dmQ a d), uL true (dmR a d), .int .i64 (dmE a d)]

theorem natural_DivMod (fr fr' : Bool) (a d : List Int) : FSpec0 Try.prog 63 [uL fr a, uL fr' d] (fun r => r = dmT a d) := by
  refine FSpec0.of_facts fun hf => fspec0_of_run k63 ?_
  simp only [uL, c63, W1, W2, W3, popTo, memb, res, wres, env0, byteAt, optI, cutB, cutL, sliceR, strR, ldCells, ldR, iaR, faR, lenR, lenSR, ixR, exR, nchkR, mxR, csR, up, ZV.av, ZV.fit, zfits, fits, fitsL, cellsOf, down, downL, downLL, stR, mkR, bsR, boxR, alR, apR, cpR, srcQ, solid, killC, killV, killE, killO, killH, hget, hset, hdel, pubV, pubC, pubO, renV, renC, renO, reduceIte, reduceCtorEq, Nat.reduceEqDiff, Nat.reduceLT, Nat.reduceAdd, Int.reduceToNat, Nat.reduceLeDiff, Int.reducePow, Int.reduceLE, Int.reduceLT]
  refine call1 (natural_all false [a, d]) (by repeat (first | exact subs_nil | refine subs_lits rfl ?_)) ?_
  simp only [uL, W1, W2, W3, popTo, memb, res, wres, env0, byteAt, optI, cutB, cutL, sliceR, strR, ldCells, ldR, iaR, faR, lenR, lenSR, ixR, exR, nchkR, mxR, csR, up, ZV.av, ZV.fit, zfits, fits, fitsL, cellsOf, down, downL, downLL, stR, mkR, bsR, boxR, alR, apR, cpR, srcQ, solid, killC, killV, killE, killO, killH, hget, hset, hdel, pubV, pubC, pubO, renV, renC, renO, reduceIte, reduceCtorEq, Nat.reduceEqDiff, Nat.reduceLT, Nat.reduceAdd, Int.reduceToNat, Nat.reduceLeDiff, Int.reducePow, Int.reduceLE, Int.reduceLT, all_two]
  refine ⟨fun h => ret1' (by rw [dmT, dmQ, dmR, dmE, if_neg (by simp_all), if_neg (by simp_all), if_pos h]; simp only [uL, retR, retA, retL, ret1, ret1L, eget, hget, hset, St.set, eset, List.map_cons, List.map_nil, reduceIte, reduceCtorEq, Nat.reduceEqDiff, Nat.reduceLT, true_and, and_true, false_or, or_true, true_or, List.drop_zero, List.take_length, scalE_I, scalE_B, scalE_S]; exact ⟨rfl, rfl⟩), fun h _ => ?_⟩
  have hm := Classical.not_not.1 h
  refine ⟨fun h1 => ret1' (by rw [dmT, dmQ, dmR, dmE, if_neg (by omega), if_neg (by omega), if_neg h, if_pos (by omega)]; simp only [uL, retR, retA, retL, ret1, ret1L, eget, hget, hset, St.set, eset, List.map_cons, List.map_nil, reduceIte, reduceCtorEq, Nat.reduceEqDiff, Nat.reduceLT, true_and, and_true, false_or, or_true, true_or, List.drop_zero, List.take_length, scalE_I, scalE_B, scalE_S]; exact ⟨rfl, rfl⟩), fun h1 => ?_⟩
  refine call1 (natural_divide fr fr' a d hm.1 hm.2 (by omega)) (by repeat (first | exact subs_nil | refine subs_int ?_ | refine subs_ro ?_ | refine subs_bool ?_ | refine subs_str ?_ | refine subs_nilro ?_ | refine subs_lits rfl ?_ | refine subs_all rfl rfl (by simp) ?_ | refine subs_own rfl rfl ?_ | refine subs_fn ?_)) ?_
  simp only [uL, W1, W2, W3, popTo, memb, res, wres, env0, byteAt, optI, cutB, cutL, sliceR, strR, ldCells, ldR, iaR, faR, lenR, lenSR, ixR, exR, nchkR, mxR, csR, up, ZV.av, ZV.fit, zfits, fits, fitsL, cellsOf, down, downL, downLL, stR, mkR, bsR, boxR, alR, apR, cpR, srcQ, solid, killC, killV, killE, killO, killH, hget, hset, hdel, pubV, pubC, pubO, renV, renC, renO, reduceIte, reduceCtorEq, Nat.reduceEqDiff, Nat.reduceLT, Nat.reduceAdd, Int.reduceToNat, Nat.reduceLeDiff, Int.reducePow, Int.reduceLE, Int.reduceLT]
  exact ret1' (by rw [dmT, dmQ, dmR, dmE, if_pos ⟨hm.1, hm.2, by omega⟩, if_pos ⟨hm.1, hm.2, by omega⟩, if_neg h, if_neg (by omega)]; simp only [uL, retR, retA, retL, ret1, ret1L, eget, hget, hset, St.set, eset, List.map_cons, List.map_nil, reduceIte, reduceCtorEq, Nat.reduceEqDiff, Nat.reduceLT, true_and, and_true, false_or, or_true, true_or, List.drop_zero, List.take_length, scalE_I, scalE_B, scalE_S])

end Go.Vc
