/-
  What was handed in is as it was.
-/
import Derived.Test.YtdlddbclcmecjaaNat2
set_option linter.unusedVariables false
set_option linter.unusedSimpArgs false
namespace Go.Vc
open Go
open Go.Proofs

/- slopeplain.Given).whole: arguments 1, results in [2]; slots in use where its loops begin: [[0, 3], [0, 4], [0, 5], [0, 9]] -/
def c92 : MC := .seq (.ops [
  .op (some 2) none (.p (.mv (.b false))),
  .gh (.drop [2])])
 (.seq (.seq (.ops [
   .op (some 3) none (.p (.mv (.i .i64 (0))))])
  (.block 0 (.loop (.seq (.seq (.ops [
      .op (some 10) none (.p (.mv (.t 3))),
      .op (some 11) none (.p (.mv (.t 0))),
      .op (some 12) none (.p (.nchk (.t 11))),
      .op (some 13) none (.p (.fa 12 (.t 12))),
      .op (some 14) none (.p (.ld 1 false (.t 13))),
      .op (some 15) none (.p (.len (.t 14))),
      .op (some 16) none (.p (.bin .lss (.t 10) (.t 15))),
      .gh (.drop [10, 11, 12, 13, 14, 15])])
     (.cond (.t 16) (.skip)
     (.exit 0)))
    (.seq (.never)
    (.ops [
    .op (some 17) none (.p (.mv (.t 3))),
    .op (some 18) none (.p (.bin .add (.t 17) (.i .i64 (1)))),
    .op (some 3) none (.p (.mv (.t 18))),
    .gh (.drop [17, 18])]))))))
 (.seq (.seq (.ops [
   .op (some 4) none (.p (.mv (.i .i64 (0))))])
  (.block 2 (.loop (.seq (.seq (.ops [
      .op (some 37) none (.p (.mv (.t 4))),
      .op (some 38) none (.p (.mv (.t 0))),
      .op (some 39) none (.p (.nchk (.t 38))),
      .op (some 40) none (.p (.fa 14 (.t 39))),
      .op (some 41) none (.p (.ld 1 false (.t 40))),
      .op (some 42) none (.p (.len (.t 41))),
      .op (some 43) none (.p (.bin .lss (.t 37) (.t 42))),
      .gh (.drop [37, 38, 39, 40, 41, 42])])
     (.cond (.t 43) (.skip)
     (.exit 2)))
    (.seq (.never)
    (.ops [
    .op (some 44) none (.p (.mv (.t 4))),
    .op (some 45) none (.p (.bin .add (.t 44) (.i .i64 (1)))),
    .op (some 4) none (.p (.mv (.t 45))),
    .gh (.drop [44, 45])]))))))
 (.seq (.seq (.ops [
   .op (some 5) none (.p (.mv (.i .i64 (0))))])
  (.block 4 (.loop (.seq (.seq (.ops [
      .op (some 64) none (.p (.mv (.t 5))),
      .op (some 65) none (.p (.mv (.t 0))),
      .op (some 66) none (.p (.nchk (.t 65))),
      .op (some 67) none (.p (.fa 16 (.t 66))),
      .op (some 68) none (.p (.ld 1 false (.t 67))),
      .op (some 69) none (.p (.len (.t 68))),
      .op (some 70) none (.p (.bin .lss (.t 64) (.t 69))),
      .gh (.drop [64, 65, 66, 67, 68, 69])])
     (.cond (.t 70) (.skip)
     (.exit 4)))
    (.seq (.never)
    (.ops [
    .op (some 71) none (.p (.mv (.t 5))),
    .op (some 72) none (.p (.bin .add (.t 71) (.i .i64 (1)))),
    .op (some 5) none (.p (.mv (.t 72))),
    .gh (.drop [71, 72])]))))))
 (.seq (.seq (.ops [
   .op (some 9) none (.p (.mv (.i .i64 (0))))])
  (.block 10 (.loop (.seq (.seq (.ops [
      .op (some 131) none (.p (.mv (.t 9))),
      .op (some 132) none (.p (.mv (.t 0))),
      .op (some 133) none (.p (.nchk (.t 132))),
      .op (some 134) none (.p (.fa 18 (.t 133))),
      .op (some 135) none (.p (.ld 1 false (.t 134))),
      .op (some 136) none (.p (.len (.t 135))),
      .op (some 137) none (.p (.bin .lss (.t 131) (.t 136))),
      .gh (.drop [131, 132, 133, 134, 135, 136])])
     (.cond (.t 137) (.skip)
     (.exit 10)))
    (.seq (.never)
    (.ops [
    .op (some 138) none (.p (.mv (.t 9))),
    .op (some 139) none (.p (.bin .add (.t 138) (.i .i64 (1)))),
    .op (some 9) none (.p (.mv (.t 139))),
    .gh (.drop [138, 139])]))))))
 (.seq (.ops [
  .op (some 2) none (.p (.mv (.b true)))])
 (.ret))))))
theorem k92 : chkF Try.prog 92 1 [2] c92 = true := by kernel_rfl

/- slopeplain.Given).Intact: arguments 1, results in [2]; slots in use where its loops begin: [[0, 3], [0, 4], [0, 5], [0, 6], [0, 7], [0, 8]] -/
def c33 : MC := .seq (.ops [
  .op (some 2) none (.p (.mv (.b false))),
  .gh (.drop [2])])
 (.seq (.seq (.ops [
   .op (some 3) none (.p (.mv (.i .i64 (0))))])
  (.block 0 (.loop (.seq (.seq (.ops [
      .op (some 9) none (.p (.mv (.t 3))),
      .op (some 10) none (.p (.mv (.t 0))),
      .op (some 11) none (.p (.nchk (.t 10))),
      .op (some 12) none (.p (.fa 0 (.t 11))),
      .op (some 13) none (.p (.ld 1 false (.t 12))),
      .op (some 14) none (.p (.len (.t 13))),
      .op (some 15) none (.p (.bin .lss (.t 9) (.t 14))),
      .gh (.drop [9, 10, 11, 12, 13, 14])])
     (.cond (.t 15) (.skip)
     (.exit 0)))
    (.seq (.block 1 (.seq (.ops [
       .op (some 18) none (.p (.mv (.t 0))),
       .op (some 19) none (.p (.nchk (.t 18))),
       .op (some 20) none (.p (.fa 0 (.t 19))),
       .op (some 21) none (.p (.ld 1 false (.t 20))),
       .op (some 22) none (.p (.mv (.t 3))),
       .op (some 23) none (.p (.ia 1 (.t 21) (.t 22))),
       .op (some 24) none (.p (.ld 1 false (.t 23))),
       .op (some 25) none (.p (.mv (.t 0))),
       .op (some 26) none (.p (.nchk (.t 25))),
       .op (some 27) none (.p (.fa 1 (.t 26))),
       .op (some 28) none (.p (.ld 1 false (.t 27))),
       .op (some 29) none (.p (.mv (.t 3))),
       .op (some 30) none (.p (.ia 1 (.t 28) (.t 29))),
       .op (some 31) none (.p (.ld 1 false (.t 30))),
       .op (some 32) none (.call 82 [(.t 24), (.t 31)]),
       .op (some 33) none (.p (.un .not (.t 32)))])
      (.gh (.drop [18, 19, 20, 21, 22, 23, 24, 25, 26, 27, 28, 29, 30, 31, 32]) (.cond (.t 33) (.seq (.ops [
        .op (some 2) none (.p (.mv (.b false)))])
       (.ret))
      (.skip)))))
    (.ops [
    .op (some 16) none (.p (.mv (.t 3))),
    .op (some 17) none (.p (.bin .add (.t 16) (.i .i64 (1)))),
    .op (some 3) none (.p (.mv (.t 17))),
    .gh (.drop [16, 17])]))))))
 (.seq (.seq (.ops [
   .op (some 4) none (.p (.mv (.i .i64 (0))))])
  (.block 2 (.loop (.seq (.seq (.ops [
      .op (some 34) none (.p (.mv (.t 4))),
      .op (some 35) none (.p (.mv (.t 0))),
      .op (some 36) none (.p (.nchk (.t 35))),
      .op (some 37) none (.p (.fa 2 (.t 36))),
      .op (some 38) none (.p (.ld 1 false (.t 37))),
      .op (some 39) none (.p (.len (.t 38))),
      .op (some 40) none (.p (.bin .lss (.t 34) (.t 39))),
      .gh (.drop [34, 35, 36, 37, 38, 39])])
     (.cond (.t 40) (.skip)
     (.exit 2)))
    (.seq (.never)
    (.ops [
    .op (some 41) none (.p (.mv (.t 4))),
    .op (some 42) none (.p (.bin .add (.t 41) (.i .i64 (1)))),
    .op (some 4) none (.p (.mv (.t 42))),
    .gh (.drop [41, 42])]))))))
 (.seq (.seq (.ops [
   .op (some 5) none (.p (.mv (.i .i64 (0))))])
  (.block 4 (.loop (.seq (.seq (.ops [
      .op (some 59) none (.p (.mv (.t 5))),
      .op (some 60) none (.p (.mv (.t 0))),
      .op (some 61) none (.p (.nchk (.t 60))),
      .op (some 62) none (.p (.fa 4 (.t 61))),
      .op (some 63) none (.p (.ld 1 false (.t 62))),
      .op (some 64) none (.p (.len (.t 63))),
      .op (some 65) none (.p (.bin .lss (.t 59) (.t 64))),
      .gh (.drop [59, 60, 61, 62, 63, 64])])
     (.cond (.t 65) (.skip)
     (.exit 4)))
    (.seq (.never)
    (.ops [
    .op (some 66) none (.p (.mv (.t 5))),
    .op (some 67) none (.p (.bin .add (.t 66) (.i .i64 (1)))),
    .op (some 5) none (.p (.mv (.t 67))),
    .gh (.drop [66, 67])]))))))
 (.seq (.seq (.ops [
   .op (some 6) none (.p (.mv (.i .i64 (0))))])
  (.block 6 (.loop (.seq (.seq (.ops [
      .op (some 84) none (.p (.mv (.t 6))),
      .op (some 85) none (.p (.mv (.t 0))),
      .op (some 86) none (.p (.nchk (.t 85))),
      .op (some 87) none (.p (.fa 6 (.t 86))),
      .op (some 88) none (.p (.ld 1 false (.t 87))),
      .op (some 89) none (.p (.len (.t 88))),
      .op (some 90) none (.p (.bin .lss (.t 84) (.t 89))),
      .gh (.drop [84, 85, 86, 87, 88, 89])])
     (.cond (.t 90) (.skip)
     (.exit 6)))
    (.seq (.never)
    (.ops [
    .op (some 91) none (.p (.mv (.t 6))),
    .op (some 92) none (.p (.bin .add (.t 91) (.i .i64 (1)))),
    .op (some 6) none (.p (.mv (.t 92))),
    .gh (.drop [91, 92])]))))))
 (.seq (.seq (.ops [
   .op (some 7) none (.p (.mv (.i .i64 (0))))])
  (.block 8 (.loop (.seq (.seq (.ops [
      .op (some 109) none (.p (.mv (.t 7))),
      .op (some 110) none (.p (.mv (.t 0))),
      .op (some 111) none (.p (.nchk (.t 110))),
      .op (some 112) none (.p (.fa 8 (.t 111))),
      .op (some 113) none (.p (.ld 1 false (.t 112))),
      .op (some 114) none (.p (.len (.t 113))),
      .op (some 115) none (.p (.bin .lss (.t 109) (.t 114))),
      .gh (.drop [109, 110, 111, 112, 113, 114])])
     (.cond (.t 115) (.skip)
     (.exit 8)))
    (.seq (.never)
    (.ops [
    .op (some 116) none (.p (.mv (.t 7))),
    .op (some 117) none (.p (.bin .add (.t 116) (.i .i64 (1)))),
    .op (some 7) none (.p (.mv (.t 117))),
    .gh (.drop [116, 117])]))))))
 (.seq (.seq (.ops [
   .op (some 8) none (.p (.mv (.i .i64 (0))))])
  (.block 10 (.loop (.seq (.seq (.ops [
      .op (some 134) none (.p (.mv (.t 8))),
      .op (some 135) none (.p (.mv (.t 0))),
      .op (some 136) none (.p (.nchk (.t 135))),
      .op (some 137) none (.p (.fa 10 (.t 136))),
      .op (some 138) none (.p (.ld 1 false (.t 137))),
      .op (some 139) none (.p (.len (.t 138))),
      .op (some 140) none (.p (.bin .lss (.t 134) (.t 139))),
      .gh (.drop [134, 135, 136, 137, 138, 139])])
     (.cond (.t 140) (.skip)
     (.exit 10)))
    (.seq (.never)
    (.ops [
    .op (some 141) none (.p (.mv (.t 8))),
    .op (some 142) none (.p (.bin .add (.t 141) (.i .i64 (1)))),
    .op (some 8) none (.p (.mv (.t 142))),
    .gh (.drop [141, 142])]))))))
 (.seq (.ops [
  .op (some 159) none (.p (.mv (.t 0))),
  .op (some 160) none (.call 92 [(.t 159)]),
  .op (some 2) none (.p (.mv (.t 160))),
  .gh (.drop [0, 159, 160])])
 (.ret))))))))
theorem k33 : chkF Try.prog 33 1 [2] c33 = true := by kernel_rfl



theorem given_ret (L : List (List Int)) {env : Env} (s : Nat) (h : eget env s = .bool true) : Ret [s] (given L) (fun r hp' => r = .bool true ∧ hp' = given L) ⟨env, given L⟩ := by
  refine ⟨.bool true, given L, ?_, ?_, ?_, rfl, rfl⟩
  · simp only [List.map_cons, List.map_nil, h, retR, retA, retL, ret1, ret1L, eget, hget, hset, St.set, eset, List.map_cons, List.map_nil, reduceIte, reduceCtorEq, Nat.reduceEqDiff, Nat.reduceLT, true_and, and_true, false_or, or_true, true_or, List.drop_zero, List.take_length, scalE_I, scalE_B, scalE_S]
  · simp [given, retH, hget, retO, ret1L, ret1, List.replicate_succ]
  · simp [given, keptH, hget, OB.fixed]

theorem Given_whole (L : List (List Int)) : FSpec Try.prog 92 [.bptr 1000 0] (given L) (fun r hp' => r = .bool true ∧ hp' = given L) := by
  refine fspec_of_run k92 rfl (fun h => by cases h) ?_
  simp only [given, c92, run_op, run_opg, run_dr, run_drg, run_c, run_dr_nil, run_dr_alt, drop_run, dropc_run, run_ops_nil, run_seq, run_code_ops, run_code_dr, run_block, run_skip, run_never, run_exit, run_ret, run_blk, run_back, run_nil, popTo, runT_p, runT_w, runT_pick, runT_call, runT_callv, runT_bad, runV_fn, runP_val, runP_el, runP_bad, runW_ok, runW_ex, runW_bad, runPick_t, runPick_f, runPick_dec, runG_tt, runG_ff, runG_tf, runG_ft, runG_und, runG_dec, runC_t, runC_f, runC_dec, memb, edrop_cons, edrop_nil, evX_t, evX_i, evX_b, evX_s, evX_nil, evX_fn, eget_cons, eget_nil, eset_cons, eset_nil, put_some, put_none, set_st, setB_t, setB_b, res_mv, res_nchk, res_bin, res_bb, res_un, res_cv, ar_i64, ar_u64, ar_u32, ar_u16, ar_u8, ar_i32, bin_add, bin_sub, bin_mul, bin_quo, bin_rem, bin_and, bin_or, bin_xor, bin_andNot, bin_eql, bin_neq, bin_lss, bin_leq, bin_gtr, bin_geq, bin_shl64, bin_shl32, bin_shl8, bin_shli, bin_shr64, bin_shr32, bin_shr8, bin_shri, str_eql, str_neq, str_add, un_not, un_notT, un_notF, un_xor8, un_xor32, un_xor64, bool_eql, bool_neq, cv_3264, cv_32i, cv_8i, cv_832, cv_864, cv_ii, cv_i64, cv_64i, cv_6432, cv_648, cv_328, cv_i32, cv_i8, cv_3232, cv_6464, res, wres, env0, byteAt, optI, cutB, cutL, sliceR, strR, ldCells, ldR, iaR, faR, lenR, lenSR, ixR, exR, nchkR, mxR, up, ZV.av, ZV.fit, zfits, fits, fitsL, cellsOf, down, downL, downLL, stR, mkR, bsR, boxR, alR, apR, cpR, srcQ, solid, killC, killV, killE, killO, killH, hget, hset, hdel, encI_app, encB_app, encS_app, encR_app, scalE_I, scalE_B, scalE_S, true_implies, true_and, and_true, reduceIte, reduceCtorEq, Bool.false_eq_true, false_implies, forall_const, not_true_eq_false, not_false_eq_true, Nat.reduceEqDiff, Nat.reduceLT, Nat.reduceAdd, Nat.lt_irrefl, or_false, false_or, true_or, or_true, List.map_cons, List.map_nil, List.length_cons, List.length_nil, List.drop_zero, List.take_succ_cons, List.take_zero, List.drop_succ_cons, List.drop_nil, List.take_nil, Option.isNone_none, Option.isNone_some, Bool.and_true, Bool.true_and, Bool.and_false, Bool.false_and, beq_self_eq_true, Int.toNat_natCast, Int.toNat_zero, Nat.zero_add, Nat.add_zero, Nat.sub_zero, List.replicate_zero, Int.le_refl, Nat.le_refl, List.nil_append, Nat.zero_le, Int.reduceToNat, Nat.min_def, Nat.reduceLeDiff, Int.reducePow, Int.reduceLE, Int.reduceLT, List.mem_cons, List.not_mem_nil, forall_eq_or_imp, forall_eq, List.getD_cons_zero, List.getD_cons_succ, pub_run, pubd_run, pubc_run, ren_run, nil_run, gpre_pub, gst_pub, gpre_ren, gst_ren, gpre_nil, gst_nil, pubV, pubC, pubO, renV, renC, renO, Option.isSome_some, List.set_cons_zero, List.set_cons_succ, List.getElem?_cons_zero, List.getElem?_cons_succ, List.take_length, List.map_replicate, List.cons_append]
  refine loop_intro (fun n st => st = ⟨[(0, .bptr 1000 0), (3, .int .i64 0)], given L⟩) 0 [(0, .bptr 1000 0), (3, .int .i64 0)] (by simp [eget]) rfl ?_
  rintro n st rfl
  simp only [given, run_op, run_opg, run_dr, run_drg, run_c, run_dr_nil, run_dr_alt, drop_run, dropc_run, run_ops_nil, run_seq, run_code_ops, run_code_dr, run_block, run_skip, run_never, run_exit, run_ret, run_blk, run_back, run_nil, popTo, runT_p, runT_w, runT_pick, runT_call, runT_callv, runT_bad, runV_fn, runP_val, runP_el, runP_bad, runW_ok, runW_ex, runW_bad, runPick_t, runPick_f, runPick_dec, runG_tt, runG_ff, runG_tf, runG_ft, runG_und, runG_dec, runC_t, runC_f, runC_dec, memb, edrop_cons, edrop_nil, evX_t, evX_i, evX_b, evX_s, evX_nil, evX_fn, eget_cons, eget_nil, eset_cons, eset_nil, put_some, put_none, set_st, setB_t, setB_b, res_mv, res_nchk, res_bin, res_bb, res_un, res_cv, ar_i64, ar_u64, ar_u32, ar_u16, ar_u8, ar_i32, bin_add, bin_sub, bin_mul, bin_quo, bin_rem, bin_and, bin_or, bin_xor, bin_andNot, bin_eql, bin_neq, bin_lss, bin_leq, bin_gtr, bin_geq, bin_shl64, bin_shl32, bin_shl8, bin_shli, bin_shr64, bin_shr32, bin_shr8, bin_shri, str_eql, str_neq, str_add, un_not, un_notT, un_notF, un_xor8, un_xor32, un_xor64, bool_eql, bool_neq, cv_3264, cv_32i, cv_8i, cv_832, cv_864, cv_ii, cv_i64, cv_64i, cv_6432, cv_648, cv_328, cv_i32, cv_i8, cv_3232, cv_6464, res, wres, env0, byteAt, optI, cutB, cutL, sliceR, strR, ldCells, ldR, iaR, faR, lenR, lenSR, ixR, exR, nchkR, mxR, up, ZV.av, ZV.fit, zfits, fits, fitsL, cellsOf, down, downL, downLL, stR, mkR, bsR, boxR, alR, apR, cpR, srcQ, solid, killC, killV, killE, killO, killH, hget, hset, hdel, encI_app, encB_app, encS_app, encR_app, scalE_I, scalE_B, scalE_S, true_implies, true_and, and_true, reduceIte, reduceCtorEq, Bool.false_eq_true, false_implies, forall_const, not_true_eq_false, not_false_eq_true, Nat.reduceEqDiff, Nat.reduceLT, Nat.reduceAdd, Nat.lt_irrefl, or_false, false_or, true_or, or_true, List.map_cons, List.map_nil, List.length_cons, List.length_nil, List.drop_zero, List.take_succ_cons, List.take_zero, List.drop_succ_cons, List.drop_nil, List.take_nil, Option.isNone_none, Option.isNone_some, Bool.and_true, Bool.true_and, Bool.and_false, Bool.false_and, beq_self_eq_true, Int.toNat_natCast, Int.toNat_zero, Nat.zero_add, Nat.add_zero, Nat.sub_zero, List.replicate_zero, Int.le_refl, Nat.le_refl, List.nil_append, Nat.zero_le, Int.reduceToNat, Nat.min_def, Nat.reduceLeDiff, Int.reducePow, Int.reduceLE, Int.reduceLT, List.mem_cons, List.not_mem_nil, forall_eq_or_imp, forall_eq, List.getD_cons_zero, List.getD_cons_succ, pub_run, pubd_run, pubc_run, ren_run, nil_run, gpre_pub, gst_pub, gpre_ren, gst_ren, gpre_nil, gst_nil, pubV, pubC, pubO, renV, renC, renO, Option.isSome_some, List.set_cons_zero, List.set_cons_succ, List.getElem?_cons_zero, List.getElem?_cons_succ, List.take_length, List.map_replicate, List.cons_append, List.replicate_succ, Int.natCast_zero, Int.lt_irrefl, not_false_eq_true]
  refine loop_intro (fun n st => st = ⟨[(0, .bptr 1000 0), (4, .int .i64 0)], given L⟩) 0 [(0, .bptr 1000 0), (4, .int .i64 0)] (by simp [eget]) rfl ?_
  rintro n st rfl
  simp only [given, run_op, run_opg, run_dr, run_drg, run_c, run_dr_nil, run_dr_alt, drop_run, dropc_run, run_ops_nil, run_seq, run_code_ops, run_code_dr, run_block, run_skip, run_never, run_exit, run_ret, run_blk, run_back, run_nil, popTo, runT_p, runT_w, runT_pick, runT_call, runT_callv, runT_bad, runV_fn, runP_val, runP_el, runP_bad, runW_ok, runW_ex, runW_bad, runPick_t, runPick_f, runPick_dec, runG_tt, runG_ff, runG_tf, runG_ft, runG_und, runG_dec, runC_t, runC_f, runC_dec, memb, edrop_cons, edrop_nil, evX_t, evX_i, evX_b, evX_s, evX_nil, evX_fn, eget_cons, eget_nil, eset_cons, eset_nil, put_some, put_none, set_st, setB_t, setB_b, res_mv, res_nchk, res_bin, res_bb, res_un, res_cv, ar_i64, ar_u64, ar_u32, ar_u16, ar_u8, ar_i32, bin_add, bin_sub, bin_mul, bin_quo, bin_rem, bin_and, bin_or, bin_xor, bin_andNot, bin_eql, bin_neq, bin_lss, bin_leq, bin_gtr, bin_geq, bin_shl64, bin_shl32, bin_shl8, bin_shli, bin_shr64, bin_shr32, bin_shr8, bin_shri, str_eql, str_neq, str_add, un_not, un_notT, un_notF, un_xor8, un_xor32, un_xor64, bool_eql, bool_neq, cv_3264, cv_32i, cv_8i, cv_832, cv_864, cv_ii, cv_i64, cv_64i, cv_6432, cv_648, cv_328, cv_i32, cv_i8, cv_3232, cv_6464, res, wres, env0, byteAt, optI, cutB, cutL, sliceR, strR, ldCells, ldR, iaR, faR, lenR, lenSR, ixR, exR, nchkR, mxR, up, ZV.av, ZV.fit, zfits, fits, fitsL, cellsOf, down, downL, downLL, stR, mkR, bsR, boxR, alR, apR, cpR, srcQ, solid, killC, killV, killE, killO, killH, hget, hset, hdel, encI_app, encB_app, encS_app, encR_app, scalE_I, scalE_B, scalE_S, true_implies, true_and, and_true, reduceIte, reduceCtorEq, Bool.false_eq_true, false_implies, forall_const, not_true_eq_false, not_false_eq_true, Nat.reduceEqDiff, Nat.reduceLT, Nat.reduceAdd, Nat.lt_irrefl, or_false, false_or, true_or, or_true, List.map_cons, List.map_nil, List.length_cons, List.length_nil, List.drop_zero, List.take_succ_cons, List.take_zero, List.drop_succ_cons, List.drop_nil, List.take_nil, Option.isNone_none, Option.isNone_some, Bool.and_true, Bool.true_and, Bool.and_false, Bool.false_and, beq_self_eq_true, Int.toNat_natCast, Int.toNat_zero, Nat.zero_add, Nat.add_zero, Nat.sub_zero, List.replicate_zero, Int.le_refl, Nat.le_refl, List.nil_append, Nat.zero_le, Int.reduceToNat, Nat.min_def, Nat.reduceLeDiff, Int.reducePow, Int.reduceLE, Int.reduceLT, List.mem_cons, List.not_mem_nil, forall_eq_or_imp, forall_eq, List.getD_cons_zero, List.getD_cons_succ, pub_run, pubd_run, pubc_run, ren_run, nil_run, gpre_pub, gst_pub, gpre_ren, gst_ren, gpre_nil, gst_nil, pubV, pubC, pubO, renV, renC, renO, Option.isSome_some, List.set_cons_zero, List.set_cons_succ, List.getElem?_cons_zero, List.getElem?_cons_succ, List.take_length, List.map_replicate, List.cons_append, List.replicate_succ, Int.natCast_zero, Int.lt_irrefl, not_false_eq_true]
  refine loop_intro (fun n st => st = ⟨[(0, .bptr 1000 0), (5, .int .i64 0)], given L⟩) 0 [(0, .bptr 1000 0), (5, .int .i64 0)] (by simp [eget]) rfl ?_
  rintro n st rfl
  simp only [given, run_op, run_opg, run_dr, run_drg, run_c, run_dr_nil, run_dr_alt, drop_run, dropc_run, run_ops_nil, run_seq, run_code_ops, run_code_dr, run_block, run_skip, run_never, run_exit, run_ret, run_blk, run_back, run_nil, popTo, runT_p, runT_w, runT_pick, runT_call, runT_callv, runT_bad, runV_fn, runP_val, runP_el, runP_bad, runW_ok, runW_ex, runW_bad, runPick_t, runPick_f, runPick_dec, runG_tt, runG_ff, runG_tf, runG_ft, runG_und, runG_dec, runC_t, runC_f, runC_dec, memb, edrop_cons, edrop_nil, evX_t, evX_i, evX_b, evX_s, evX_nil, evX_fn, eget_cons, eget_nil, eset_cons, eset_nil, put_some, put_none, set_st, setB_t, setB_b, res_mv, res_nchk, res_bin, res_bb, res_un, res_cv, ar_i64, ar_u64, ar_u32, ar_u16, ar_u8, ar_i32, bin_add, bin_sub, bin_mul, bin_quo, bin_rem, bin_and, bin_or, bin_xor, bin_andNot, bin_eql, bin_neq, bin_lss, bin_leq, bin_gtr, bin_geq, bin_shl64, bin_shl32, bin_shl8, bin_shli, bin_shr64, bin_shr32, bin_shr8, bin_shri, str_eql, str_neq, str_add, un_not, un_notT, un_notF, un_xor8, un_xor32, un_xor64, bool_eql, bool_neq, cv_3264, cv_32i, cv_8i, cv_832, cv_864, cv_ii, cv_i64, cv_64i, cv_6432, cv_648, cv_328, cv_i32, cv_i8, cv_3232, cv_6464, res, wres, env0, byteAt, optI, cutB, cutL, sliceR, strR, ldCells, ldR, iaR, faR, lenR, lenSR, ixR, exR, nchkR, mxR, up, ZV.av, ZV.fit, zfits, fits, fitsL, cellsOf, down, downL, downLL, stR, mkR, bsR, boxR, alR, apR, cpR, srcQ, solid, killC, killV, killE, killO, killH, hget, hset, hdel, encI_app, encB_app, encS_app, encR_app, scalE_I, scalE_B, scalE_S, true_implies, true_and, and_true, reduceIte, reduceCtorEq, Bool.false_eq_true, false_implies, forall_const, not_true_eq_false, not_false_eq_true, Nat.reduceEqDiff, Nat.reduceLT, Nat.reduceAdd, Nat.lt_irrefl, or_false, false_or, true_or, or_true, List.map_cons, List.map_nil, List.length_cons, List.length_nil, List.drop_zero, List.take_succ_cons, List.take_zero, List.drop_succ_cons, List.drop_nil, List.take_nil, Option.isNone_none, Option.isNone_some, Bool.and_true, Bool.true_and, Bool.and_false, Bool.false_and, beq_self_eq_true, Int.toNat_natCast, Int.toNat_zero, Nat.zero_add, Nat.add_zero, Nat.sub_zero, List.replicate_zero, Int.le_refl, Nat.le_refl, List.nil_append, Nat.zero_le, Int.reduceToNat, Nat.min_def, Nat.reduceLeDiff, Int.reducePow, Int.reduceLE, Int.reduceLT, List.mem_cons, List.not_mem_nil, forall_eq_or_imp, forall_eq, List.getD_cons_zero, List.getD_cons_succ, pub_run, pubd_run, pubc_run, ren_run, nil_run, gpre_pub, gst_pub, gpre_ren, gst_ren, gpre_nil, gst_nil, pubV, pubC, pubO, renV, renC, renO, Option.isSome_some, List.set_cons_zero, List.set_cons_succ, List.getElem?_cons_zero, List.getElem?_cons_succ, List.take_length, List.map_replicate, List.cons_append, List.replicate_succ, Int.natCast_zero, Int.lt_irrefl, not_false_eq_true]
  refine loop_intro (fun n st => st = ⟨[(0, .bptr 1000 0), (9, .int .i64 0)], given L⟩) 0 [(0, .bptr 1000 0), (9, .int .i64 0)] (by simp [eget]) rfl ?_
  rintro n st rfl
  simp only [given, run_op, run_opg, run_dr, run_drg, run_c, run_dr_nil, run_dr_alt, drop_run, dropc_run, run_ops_nil, run_seq, run_code_ops, run_code_dr, run_block, run_skip, run_never, run_exit, run_ret, run_blk, run_back, run_nil, popTo, runT_p, runT_w, runT_pick, runT_call, runT_callv, runT_bad, runV_fn, runP_val, runP_el, runP_bad, runW_ok, runW_ex, runW_bad, runPick_t, runPick_f, runPick_dec, runG_tt, runG_ff, runG_tf, runG_ft, runG_und, runG_dec, runC_t, runC_f, runC_dec, memb, edrop_cons, edrop_nil, evX_t, evX_i, evX_b, evX_s, evX_nil, evX_fn, eget_cons, eget_nil, eset_cons, eset_nil, put_some, put_none, set_st, setB_t, setB_b, res_mv, res_nchk, res_bin, res_bb, res_un, res_cv, ar_i64, ar_u64, ar_u32, ar_u16, ar_u8, ar_i32, bin_add, bin_sub, bin_mul, bin_quo, bin_rem, bin_and, bin_or, bin_xor, bin_andNot, bin_eql, bin_neq, bin_lss, bin_leq, bin_gtr, bin_geq, bin_shl64, bin_shl32, bin_shl8, bin_shli, bin_shr64, bin_shr32, bin_shr8, bin_shri, str_eql, str_neq, str_add, un_not, un_notT, un_notF, un_xor8, un_xor32, un_xor64, bool_eql, bool_neq, cv_3264, cv_32i, cv_8i, cv_832, cv_864, cv_ii, cv_i64, cv_64i, cv_6432, cv_648, cv_328, cv_i32, cv_i8, cv_3232, cv_6464, res, wres, env0, byteAt, optI, cutB, cutL, sliceR, strR, ldCells, ldR, iaR, faR, lenR, lenSR, ixR, exR, nchkR, mxR, up, ZV.av, ZV.fit, zfits, fits, fitsL, cellsOf, down, downL, downLL, stR, mkR, bsR, boxR, alR, apR, cpR, srcQ, solid, killC, killV, killE, killO, killH, hget, hset, hdel, encI_app, encB_app, encS_app, encR_app, scalE_I, scalE_B, scalE_S, true_implies, true_and, and_true, reduceIte, reduceCtorEq, Bool.false_eq_true, false_implies, forall_const, not_true_eq_false, not_false_eq_true, Nat.reduceEqDiff, Nat.reduceLT, Nat.reduceAdd, Nat.lt_irrefl, or_false, false_or, true_or, or_true, List.map_cons, List.map_nil, List.length_cons, List.length_nil, List.drop_zero, List.take_succ_cons, List.take_zero, List.drop_succ_cons, List.drop_nil, List.take_nil, Option.isNone_none, Option.isNone_some, Bool.and_true, Bool.true_and, Bool.and_false, Bool.false_and, beq_self_eq_true, Int.toNat_natCast, Int.toNat_zero, Nat.zero_add, Nat.add_zero, Nat.sub_zero, List.replicate_zero, Int.le_refl, Nat.le_refl, List.nil_append, Nat.zero_le, Int.reduceToNat, Nat.min_def, Nat.reduceLeDiff, Int.reducePow, Int.reduceLE, Int.reduceLT, List.mem_cons, List.not_mem_nil, forall_eq_or_imp, forall_eq, List.getD_cons_zero, List.getD_cons_succ, pub_run, pubd_run, pubc_run, ren_run, nil_run, gpre_pub, gst_pub, gpre_ren, gst_ren, gpre_nil, gst_nil, pubV, pubC, pubO, renV, renC, renO, Option.isSome_some, List.set_cons_zero, List.set_cons_succ, List.getElem?_cons_zero, List.getElem?_cons_succ, List.take_length, List.map_replicate, List.cons_append, List.replicate_succ, Int.natCast_zero, Int.lt_irrefl, not_false_eq_true]
  exact given_ret L 2 rfl

theorem Given_Intact (L : List (List Int)) (hL : L.length ≤ 281474976710656) : FSpec Try.prog 33 [.bptr 1000 0] (given L) (fun r hp' => r = .bool true ∧ hp' = given L) := by
  refine fspec_of_run k33 rfl (fun h => by cases h) ?_
  simp only [given, c33, run_op, run_opg, run_dr, run_drg, run_c, run_dr_nil, run_dr_alt, drop_run, dropc_run, run_ops_nil, run_seq, run_code_ops, run_code_dr, run_block, run_skip, run_never, run_exit, run_ret, run_blk, run_back, run_nil, popTo, runT_p, runT_w, runT_pick, runT_call, runT_callv, runT_bad, runV_fn, runP_val, runP_el, runP_bad, runW_ok, runW_ex, runW_bad, runPick_t, runPick_f, runPick_dec, runG_tt, runG_ff, runG_tf, runG_ft, runG_und, runG_dec, runC_t, runC_f, runC_dec, memb, edrop_cons, edrop_nil, evX_t, evX_i, evX_b, evX_s, evX_nil, evX_fn, eget_cons, eget_nil, eset_cons, eset_nil, put_some, put_none, set_st, setB_t, setB_b, res_mv, res_nchk, res_bin, res_bb, res_un, res_cv, ar_i64, ar_u64, ar_u32, ar_u16, ar_u8, ar_i32, bin_add, bin_sub, bin_mul, bin_quo, bin_rem, bin_and, bin_or, bin_xor, bin_andNot, bin_eql, bin_neq, bin_lss, bin_leq, bin_gtr, bin_geq, bin_shl64, bin_shl32, bin_shl8, bin_shli, bin_shr64, bin_shr32, bin_shr8, bin_shri, str_eql, str_neq, str_add, un_not, un_notT, un_notF, un_xor8, un_xor32, un_xor64, bool_eql, bool_neq, cv_3264, cv_32i, cv_8i, cv_832, cv_864, cv_ii, cv_i64, cv_64i, cv_6432, cv_648, cv_328, cv_i32, cv_i8, cv_3232, cv_6464, res, wres, env0, byteAt, optI, cutB, cutL, sliceR, strR, ldCells, ldR, iaR, faR, lenR, lenSR, ixR, exR, nchkR, mxR, up, ZV.av, ZV.fit, zfits, fits, fitsL, cellsOf, down, downL, downLL, stR, mkR, bsR, boxR, alR, apR, cpR, srcQ, solid, killC, killV, killE, killO, killH, hget, hset, hdel, encI_app, encB_app, encS_app, encR_app, scalE_I, scalE_B, scalE_S, true_implies, true_and, and_true, reduceIte, reduceCtorEq, Bool.false_eq_true, false_implies, forall_const, not_true_eq_false, not_false_eq_true, Nat.reduceEqDiff, Nat.reduceLT, Nat.reduceAdd, Nat.lt_irrefl, or_false, false_or, true_or, or_true, List.map_cons, List.map_nil, List.length_cons, List.length_nil, List.drop_zero, List.take_succ_cons, List.take_zero, List.drop_succ_cons, List.drop_nil, List.take_nil, Option.isNone_none, Option.isNone_some, Bool.and_true, Bool.true_and, Bool.and_false, Bool.false_and, beq_self_eq_true, Int.toNat_natCast, Int.toNat_zero, Nat.zero_add, Nat.add_zero, Nat.sub_zero, List.replicate_zero, Int.le_refl, Nat.le_refl, List.nil_append, Nat.zero_le, Int.reduceToNat, Nat.min_def, Nat.reduceLeDiff, Int.reducePow, Int.reduceLE, Int.reduceLT, List.mem_cons, List.not_mem_nil, forall_eq_or_imp, forall_eq, List.getD_cons_zero, List.getD_cons_succ, pub_run, pubd_run, pubc_run, ren_run, nil_run, gpre_pub, gst_pub, gpre_ren, gst_ren, gpre_nil, gst_nil, pubV, pubC, pubO, renV, renC, renO, Option.isSome_some, List.set_cons_zero, List.set_cons_succ, List.getElem?_cons_zero, List.getElem?_cons_succ, List.take_length, List.map_replicate, List.cons_append]
  refine loop_intro (fun n st => ∃ i : Nat, i ≤ L.length ∧ n = L.length - i ∧ st = ⟨[(0, .bptr 1000 0), (3, .int .i64 i)], given L⟩) L.length [(0, .bptr 1000 0), (3, .int .i64 (0 : Nat))] (by simp [eget]) ⟨0, by omega, by omega, rfl⟩ ?_
  rintro n st ⟨i, hi, rfl, rfl⟩
  simp only [given, run_op, run_opg, run_dr, run_drg, run_c, run_dr_nil, run_dr_alt, drop_run, dropc_run, run_ops_nil, run_seq, run_code_ops, run_code_dr, run_block, run_skip, run_never, run_exit, run_ret, run_blk, run_back, run_nil, popTo, runT_p, runT_w, runT_pick, runT_call, runT_callv, runT_bad, runV_fn, runP_val, runP_el, runP_bad, runW_ok, runW_ex, runW_bad, runPick_t, runPick_f, runPick_dec, runG_tt, runG_ff, runG_tf, runG_ft, runG_und, runG_dec, runC_t, runC_f, runC_dec, memb, edrop_cons, edrop_nil, evX_t, evX_i, evX_b, evX_s, evX_nil, evX_fn, eget_cons, eget_nil, eset_cons, eset_nil, put_some, put_none, set_st, setB_t, setB_b, res_mv, res_nchk, res_bin, res_bb, res_un, res_cv, ar_i64, ar_u64, ar_u32, ar_u16, ar_u8, ar_i32, bin_add, bin_sub, bin_mul, bin_quo, bin_rem, bin_and, bin_or, bin_xor, bin_andNot, bin_eql, bin_neq, bin_lss, bin_leq, bin_gtr, bin_geq, bin_shl64, bin_shl32, bin_shl8, bin_shli, bin_shr64, bin_shr32, bin_shr8, bin_shri, str_eql, str_neq, str_add, un_not, un_notT, un_notF, un_xor8, un_xor32, un_xor64, bool_eql, bool_neq, cv_3264, cv_32i, cv_8i, cv_832, cv_864, cv_ii, cv_i64, cv_64i, cv_6432, cv_648, cv_328, cv_i32, cv_i8, cv_3232, cv_6464, res, wres, env0, byteAt, optI, cutB, cutL, sliceR, strR, ldCells, ldR, iaR, faR, lenR, lenSR, ixR, exR, nchkR, mxR, up, ZV.av, ZV.fit, zfits, fits, fitsL, cellsOf, down, downL, downLL, stR, mkR, bsR, boxR, alR, apR, cpR, srcQ, solid, killC, killV, killE, killO, killH, hget, hset, hdel, encI_app, encB_app, encS_app, encR_app, scalE_I, scalE_B, scalE_S, true_implies, true_and, and_true, reduceIte, reduceCtorEq, Bool.false_eq_true, false_implies, forall_const, not_true_eq_false, not_false_eq_true, Nat.reduceEqDiff, Nat.reduceLT, Nat.reduceAdd, Nat.lt_irrefl, or_false, false_or, true_or, or_true, List.map_cons, List.map_nil, List.length_cons, List.length_nil, List.drop_zero, List.take_succ_cons, List.take_zero, List.drop_succ_cons, List.drop_nil, List.take_nil, Option.isNone_none, Option.isNone_some, Bool.and_true, Bool.true_and, Bool.and_false, Bool.false_and, beq_self_eq_true, Int.toNat_natCast, Int.toNat_zero, Nat.zero_add, Nat.add_zero, Nat.sub_zero, List.replicate_zero, Int.le_refl, Nat.le_refl, List.nil_append, Nat.zero_le, Int.reduceToNat, Nat.min_def, Nat.reduceLeDiff, Int.reducePow, Int.reduceLE, Int.reduceLT, List.mem_cons, List.not_mem_nil, forall_eq_or_imp, forall_eq, List.getD_cons_zero, List.getD_cons_succ, pub_run, pubd_run, pubc_run, ren_run, nil_run, gpre_pub, gst_pub, gpre_ren, gst_ren, gpre_nil, gst_nil, pubV, pubC, pubO, renV, renC, renO, Option.isSome_some, List.set_cons_zero, List.set_cons_succ, List.getElem?_cons_zero, List.getElem?_cons_succ, List.take_length, List.map_replicate, List.cons_append]
  intro _
  refine ⟨fun h0 => ⟨by omega, by omega, fun e he => ⟨by omega, by omega, fun e' he' => ?_⟩⟩, fun h0 => ?_⟩
  · rw [he] at he'
    obtain rfl := Option.some.inj he'
    refine callK0 (slopeplain_SameNat true true e e) (by simp only [uL, subs, subA, sub, subL, lends, lend, hget, true_and, and_true, reduceIte, reduceCtorEq, Nat.reduceEqDiff, imp_self, or_true, true_or, false_implies, Bool.false_eq_true, List.length_nil, List.map_cons, List.map_nil, encI_app, encB_app, encS_app, encR_app]) fun r hr => ?_
    rw [decide_eq_true rfl] at hr
    subst hr
    simp only [run_op, run_opg, run_dr, run_drg, run_c, run_dr_nil, run_dr_alt, drop_run, dropc_run, run_ops_nil, run_seq, run_code_ops, run_code_dr, run_block, run_skip, run_never, run_exit, run_ret, run_blk, run_back, run_nil, popTo, runT_p, runT_w, runT_pick, runT_call, runT_callv, runT_bad, runV_fn, runP_val, runP_el, runP_bad, runW_ok, runW_ex, runW_bad, runPick_t, runPick_f, runPick_dec, runG_tt, runG_ff, runG_tf, runG_ft, runG_und, runG_dec, runC_t, runC_f, runC_dec, memb, edrop_cons, edrop_nil, evX_t, evX_i, evX_b, evX_s, evX_nil, evX_fn, eget_cons, eget_nil, eset_cons, eset_nil, put_some, put_none, set_st, setB_t, setB_b, res_mv, res_nchk, res_bin, res_bb, res_un, res_cv, ar_i64, ar_u64, ar_u32, ar_u16, ar_u8, ar_i32, bin_add, bin_sub, bin_mul, bin_quo, bin_rem, bin_and, bin_or, bin_xor, bin_andNot, bin_eql, bin_neq, bin_lss, bin_leq, bin_gtr, bin_geq, bin_shl64, bin_shl32, bin_shl8, bin_shli, bin_shr64, bin_shr32, bin_shr8, bin_shri, str_eql, str_neq, str_add, un_not, un_notT, un_notF, un_xor8, un_xor32, un_xor64, bool_eql, bool_neq, cv_3264, cv_32i, cv_8i, cv_832, cv_864, cv_ii, cv_i64, cv_64i, cv_6432, cv_648, cv_328, cv_i32, cv_i8, cv_3232, cv_6464, res, wres, env0, byteAt, optI, cutB, cutL, sliceR, strR, ldCells, ldR, iaR, faR, lenR, lenSR, ixR, exR, nchkR, mxR, up, ZV.av, ZV.fit, zfits, fits, fitsL, cellsOf, down, downL, downLL, stR, mkR, bsR, boxR, alR, apR, cpR, srcQ, solid, killC, killV, killE, killO, killH, hget, hset, hdel, encI_app, encB_app, encS_app, encR_app, scalE_I, scalE_B, scalE_S, true_implies, true_and, and_true, reduceIte, reduceCtorEq, Bool.false_eq_true, false_implies, forall_const, not_true_eq_false, not_false_eq_true, Nat.reduceEqDiff, Nat.reduceLT, Nat.reduceAdd, Nat.lt_irrefl, or_false, false_or, true_or, or_true, List.map_cons, List.map_nil, List.length_cons, List.length_nil, List.drop_zero, List.take_succ_cons, List.take_zero, List.drop_succ_cons, List.drop_nil, List.take_nil, Option.isNone_none, Option.isNone_some, Bool.and_true, Bool.true_and, Bool.and_false, Bool.false_and, beq_self_eq_true, Int.toNat_natCast, Int.toNat_zero, Nat.zero_add, Nat.add_zero, Nat.sub_zero, List.replicate_zero, Int.le_refl, Nat.le_refl, List.nil_append, Nat.zero_le, Int.reduceToNat, Nat.min_def, Nat.reduceLeDiff, Int.reducePow, Int.reduceLE, Int.reduceLT, List.mem_cons, List.not_mem_nil, forall_eq_or_imp, forall_eq, List.getD_cons_zero, List.getD_cons_succ, pub_run, pubd_run, pubc_run, ren_run, nil_run, gpre_pub, gst_pub, gpre_ren, gst_ren, gpre_nil, gst_nil, pubV, pubC, pubO, renV, renC, renO, Option.isSome_some, List.set_cons_zero, List.set_cons_succ, List.getElem?_cons_zero, List.getElem?_cons_succ, List.take_length, List.map_replicate, List.cons_append]
    refine ⟨by omega, back_intro [(0, .bptr 1000 0), (3, .int .i64 ((i + 1 : Nat) : Int))] (by simp [eget]) (by omega) ⟨i + 1, by omega, rfl, rfl⟩⟩
  · skip
    refine loop_intro (fun n st => st = ⟨[(0, .bptr 1000 0), (4, .int .i64 0)], given L⟩) 0 [(0, .bptr 1000 0), (4, .int .i64 0)] (by simp [eget]) rfl ?_
    rintro n st rfl
    simp only [given, run_op, run_opg, run_dr, run_drg, run_c, run_dr_nil, run_dr_alt, drop_run, dropc_run, run_ops_nil, run_seq, run_code_ops, run_code_dr, run_block, run_skip, run_never, run_exit, run_ret, run_blk, run_back, run_nil, popTo, runT_p, runT_w, runT_pick, runT_call, runT_callv, runT_bad, runV_fn, runP_val, runP_el, runP_bad, runW_ok, runW_ex, runW_bad, runPick_t, runPick_f, runPick_dec, runG_tt, runG_ff, runG_tf, runG_ft, runG_und, runG_dec, runC_t, runC_f, runC_dec, memb, edrop_cons, edrop_nil, evX_t, evX_i, evX_b, evX_s, evX_nil, evX_fn, eget_cons, eget_nil, eset_cons, eset_nil, put_some, put_none, set_st, setB_t, setB_b, res_mv, res_nchk, res_bin, res_bb, res_un, res_cv, ar_i64, ar_u64, ar_u32, ar_u16, ar_u8, ar_i32, bin_add, bin_sub, bin_mul, bin_quo, bin_rem, bin_and, bin_or, bin_xor, bin_andNot, bin_eql, bin_neq, bin_lss, bin_leq, bin_gtr, bin_geq, bin_shl64, bin_shl32, bin_shl8, bin_shli, bin_shr64, bin_shr32, bin_shr8, bin_shri, str_eql, str_neq, str_add, un_not, un_notT, un_notF, un_xor8, un_xor32, un_xor64, bool_eql, bool_neq, cv_3264, cv_32i, cv_8i, cv_832, cv_864, cv_ii, cv_i64, cv_64i, cv_6432, cv_648, cv_328, cv_i32, cv_i8, cv_3232, cv_6464, res, wres, env0, byteAt, optI, cutB, cutL, sliceR, strR, ldCells, ldR, iaR, faR, lenR, lenSR, ixR, exR, nchkR, mxR, up, ZV.av, ZV.fit, zfits, fits, fitsL, cellsOf, down, downL, downLL, stR, mkR, bsR, boxR, alR, apR, cpR, srcQ, solid, killC, killV, killE, killO, killH, hget, hset, hdel, encI_app, encB_app, encS_app, encR_app, scalE_I, scalE_B, scalE_S, true_implies, true_and, and_true, reduceIte, reduceCtorEq, Bool.false_eq_true, false_implies, forall_const, not_true_eq_false, not_false_eq_true, Nat.reduceEqDiff, Nat.reduceLT, Nat.reduceAdd, Nat.lt_irrefl, or_false, false_or, true_or, or_true, List.map_cons, List.map_nil, List.length_cons, List.length_nil, List.drop_zero, List.take_succ_cons, List.take_zero, List.drop_succ_cons, List.drop_nil, List.take_nil, Option.isNone_none, Option.isNone_some, Bool.and_true, Bool.true_and, Bool.and_false, Bool.false_and, beq_self_eq_true, Int.toNat_natCast, Int.toNat_zero, Nat.zero_add, Nat.add_zero, Nat.sub_zero, List.replicate_zero, Int.le_refl, Nat.le_refl, List.nil_append, Nat.zero_le, Int.reduceToNat, Nat.min_def, Nat.reduceLeDiff, Int.reducePow, Int.reduceLE, Int.reduceLT, List.mem_cons, List.not_mem_nil, forall_eq_or_imp, forall_eq, List.getD_cons_zero, List.getD_cons_succ, pub_run, pubd_run, pubc_run, ren_run, nil_run, gpre_pub, gst_pub, gpre_ren, gst_ren, gpre_nil, gst_nil, pubV, pubC, pubO, renV, renC, renO, Option.isSome_some, List.set_cons_zero, List.set_cons_succ, List.getElem?_cons_zero, List.getElem?_cons_succ, List.take_length, List.map_replicate, List.cons_append, List.replicate_succ, Int.natCast_zero, Int.lt_irrefl, not_false_eq_true]
    refine loop_intro (fun n st => st = ⟨[(0, .bptr 1000 0), (5, .int .i64 0)], given L⟩) 0 [(0, .bptr 1000 0), (5, .int .i64 0)] (by simp [eget]) rfl ?_
    rintro n st rfl
    simp only [given, run_op, run_opg, run_dr, run_drg, run_c, run_dr_nil, run_dr_alt, drop_run, dropc_run, run_ops_nil, run_seq, run_code_ops, run_code_dr, run_block, run_skip, run_never, run_exit, run_ret, run_blk, run_back, run_nil, popTo, runT_p, runT_w, runT_pick, runT_call, runT_callv, runT_bad, runV_fn, runP_val, runP_el, runP_bad, runW_ok, runW_ex, runW_bad, runPick_t, runPick_f, runPick_dec, runG_tt, runG_ff, runG_tf, runG_ft, runG_und, runG_dec, runC_t, runC_f, runC_dec, memb, edrop_cons, edrop_nil, evX_t, evX_i, evX_b, evX_s, evX_nil, evX_fn, eget_cons, eget_nil, eset_cons, eset_nil, put_some, put_none, set_st, setB_t, setB_b, res_mv, res_nchk, res_bin, res_bb, res_un, res_cv, ar_i64, ar_u64, ar_u32, ar_u16, ar_u8, ar_i32, bin_add, bin_sub, bin_mul, bin_quo, bin_rem, bin_and, bin_or, bin_xor, bin_andNot, bin_eql, bin_neq, bin_lss, bin_leq, bin_gtr, bin_geq, bin_shl64, bin_shl32, bin_shl8, bin_shli, bin_shr64, bin_shr32, bin_shr8, bin_shri, str_eql, str_neq, str_add, un_not, un_notT, un_notF, un_xor8, un_xor32, un_xor64, bool_eql, bool_neq, cv_3264, cv_32i, cv_8i, cv_832, cv_864, cv_ii, cv_i64, cv_64i, cv_6432, cv_648, cv_328, cv_i32, cv_i8, cv_3232, cv_6464, res, wres, env0, byteAt, optI, cutB, cutL, sliceR, strR, ldCells, ldR, iaR, faR, lenR, lenSR, ixR, exR, nchkR, mxR, up, ZV.av, ZV.fit, zfits, fits, fitsL, cellsOf, down, downL, downLL, stR, mkR, bsR, boxR, alR, apR, cpR, srcQ, solid, killC, killV, killE, killO, killH, hget, hset, hdel, encI_app, encB_app, encS_app, encR_app, scalE_I, scalE_B, scalE_S, true_implies, true_and, and_true, reduceIte, reduceCtorEq, Bool.false_eq_true, false_implies, forall_const, not_true_eq_false, not_false_eq_true, Nat.reduceEqDiff, Nat.reduceLT, Nat.reduceAdd, Nat.lt_irrefl, or_false, false_or, true_or, or_true, List.map_cons, List.map_nil, List.length_cons, List.length_nil, List.drop_zero, List.take_succ_cons, List.take_zero, List.drop_succ_cons, List.drop_nil, List.take_nil, Option.isNone_none, Option.isNone_some, Bool.and_true, Bool.true_and, Bool.and_false, Bool.false_and, beq_self_eq_true, Int.toNat_natCast, Int.toNat_zero, Nat.zero_add, Nat.add_zero, Nat.sub_zero, List.replicate_zero, Int.le_refl, Nat.le_refl, List.nil_append, Nat.zero_le, Int.reduceToNat, Nat.min_def, Nat.reduceLeDiff, Int.reducePow, Int.reduceLE, Int.reduceLT, List.mem_cons, List.not_mem_nil, forall_eq_or_imp, forall_eq, List.getD_cons_zero, List.getD_cons_succ, pub_run, pubd_run, pubc_run, ren_run, nil_run, gpre_pub, gst_pub, gpre_ren, gst_ren, gpre_nil, gst_nil, pubV, pubC, pubO, renV, renC, renO, Option.isSome_some, List.set_cons_zero, List.set_cons_succ, List.getElem?_cons_zero, List.getElem?_cons_succ, List.take_length, List.map_replicate, List.cons_append, List.replicate_succ, Int.natCast_zero, Int.lt_irrefl, not_false_eq_true]
    refine loop_intro (fun n st => st = ⟨[(0, .bptr 1000 0), (6, .int .i64 0)], given L⟩) 0 [(0, .bptr 1000 0), (6, .int .i64 0)] (by simp [eget]) rfl ?_
    rintro n st rfl
    simp only [given, run_op, run_opg, run_dr, run_drg, run_c, run_dr_nil, run_dr_alt, drop_run, dropc_run, run_ops_nil, run_seq, run_code_ops, run_code_dr, run_block, run_skip, run_never, run_exit, run_ret, run_blk, run_back, run_nil, popTo, runT_p, runT_w, runT_pick, runT_call, runT_callv, runT_bad, runV_fn, runP_val, runP_el, runP_bad, runW_ok, runW_ex, runW_bad, runPick_t, runPick_f, runPick_dec, runG_tt, runG_ff, runG_tf, runG_ft, runG_und, runG_dec, runC_t, runC_f, runC_dec, memb, edrop_cons, edrop_nil, evX_t, evX_i, evX_b, evX_s, evX_nil, evX_fn, eget_cons, eget_nil, eset_cons, eset_nil, put_some, put_none, set_st, setB_t, setB_b, res_mv, res_nchk, res_bin, res_bb, res_un, res_cv, ar_i64, ar_u64, ar_u32, ar_u16, ar_u8, ar_i32, bin_add, bin_sub, bin_mul, bin_quo, bin_rem, bin_and, bin_or, bin_xor, bin_andNot, bin_eql, bin_neq, bin_lss, bin_leq, bin_gtr, bin_geq, bin_shl64, bin_shl32, bin_shl8, bin_shli, bin_shr64, bin_shr32, bin_shr8, bin_shri, str_eql, str_neq, str_add, un_not, un_notT, un_notF, un_xor8, un_xor32, un_xor64, bool_eql, bool_neq, cv_3264, cv_32i, cv_8i, cv_832, cv_864, cv_ii, cv_i64, cv_64i, cv_6432, cv_648, cv_328, cv_i32, cv_i8, cv_3232, cv_6464, res, wres, env0, byteAt, optI, cutB, cutL, sliceR, strR, ldCells, ldR, iaR, faR, lenR, lenSR, ixR, exR, nchkR, mxR, up, ZV.av, ZV.fit, zfits, fits, fitsL, cellsOf, down, downL, downLL, stR, mkR, bsR, boxR, alR, apR, cpR, srcQ, solid, killC, killV, killE, killO, killH, hget, hset, hdel, encI_app, encB_app, encS_app, encR_app, scalE_I, scalE_B, scalE_S, true_implies, true_and, and_true, reduceIte, reduceCtorEq, Bool.false_eq_true, false_implies, forall_const, not_true_eq_false, not_false_eq_true, Nat.reduceEqDiff, Nat.reduceLT, Nat.reduceAdd, Nat.lt_irrefl, or_false, false_or, true_or, or_true, List.map_cons, List.map_nil, List.length_cons, List.length_nil, List.drop_zero, List.take_succ_cons, List.take_zero, List.drop_succ_cons, List.drop_nil, List.take_nil, Option.isNone_none, Option.isNone_some, Bool.and_true, Bool.true_and, Bool.and_false, Bool.false_and, beq_self_eq_true, Int.toNat_natCast, Int.toNat_zero, Nat.zero_add, Nat.add_zero, Nat.sub_zero, List.replicate_zero, Int.le_refl, Nat.le_refl, List.nil_append, Nat.zero_le, Int.reduceToNat, Nat.min_def, Nat.reduceLeDiff, Int.reducePow, Int.reduceLE, Int.reduceLT, List.mem_cons, List.not_mem_nil, forall_eq_or_imp, forall_eq, List.getD_cons_zero, List.getD_cons_succ, pub_run, pubd_run, pubc_run, ren_run, nil_run, gpre_pub, gst_pub, gpre_ren, gst_ren, gpre_nil, gst_nil, pubV, pubC, pubO, renV, renC, renO, Option.isSome_some, List.set_cons_zero, List.set_cons_succ, List.getElem?_cons_zero, List.getElem?_cons_succ, List.take_length, List.map_replicate, List.cons_append, List.replicate_succ, Int.natCast_zero, Int.lt_irrefl, not_false_eq_true]
    refine loop_intro (fun n st => st = ⟨[(0, .bptr 1000 0), (7, .int .i64 0)], given L⟩) 0 [(0, .bptr 1000 0), (7, .int .i64 0)] (by simp [eget]) rfl ?_
    rintro n st rfl
    simp only [given, run_op, run_opg, run_dr, run_drg, run_c, run_dr_nil, run_dr_alt, drop_run, dropc_run, run_ops_nil, run_seq, run_code_ops, run_code_dr, run_block, run_skip, run_never, run_exit, run_ret, run_blk, run_back, run_nil, popTo, runT_p, runT_w, runT_pick, runT_call, runT_callv, runT_bad, runV_fn, runP_val, runP_el, runP_bad, runW_ok, runW_ex, runW_bad, runPick_t, runPick_f, runPick_dec, runG_tt, runG_ff, runG_tf, runG_ft, runG_und, runG_dec, runC_t, runC_f, runC_dec, memb, edrop_cons, edrop_nil, evX_t, evX_i, evX_b, evX_s, evX_nil, evX_fn, eget_cons, eget_nil, eset_cons, eset_nil, put_some, put_none, set_st, setB_t, setB_b, res_mv, res_nchk, res_bin, res_bb, res_un, res_cv, ar_i64, ar_u64, ar_u32, ar_u16, ar_u8, ar_i32, bin_add, bin_sub, bin_mul, bin_quo, bin_rem, bin_and, bin_or, bin_xor, bin_andNot, bin_eql, bin_neq, bin_lss, bin_leq, bin_gtr, bin_geq, bin_shl64, bin_shl32, bin_shl8, bin_shli, bin_shr64, bin_shr32, bin_shr8, bin_shri, str_eql, str_neq, str_add, un_not, un_notT, un_notF, un_xor8, un_xor32, un_xor64, bool_eql, bool_neq, cv_3264, cv_32i, cv_8i, cv_832, cv_864, cv_ii, cv_i64, cv_64i, cv_6432, cv_648, cv_328, cv_i32, cv_i8, cv_3232, cv_6464, res, wres, env0, byteAt, optI, cutB, cutL, sliceR, strR, ldCells, ldR, iaR, faR, lenR, lenSR, ixR, exR, nchkR, mxR, up, ZV.av, ZV.fit, zfits, fits, fitsL, cellsOf, down, downL, downLL, stR, mkR, bsR, boxR, alR, apR, cpR, srcQ, solid, killC, killV, killE, killO, killH, hget, hset, hdel, encI_app, encB_app, encS_app, encR_app, scalE_I, scalE_B, scalE_S, true_implies, true_and, and_true, reduceIte, reduceCtorEq, Bool.false_eq_true, false_implies, forall_const, not_true_eq_false, not_false_eq_true, Nat.reduceEqDiff, Nat.reduceLT, Nat.reduceAdd, Nat.lt_irrefl, or_false, false_or, true_or, or_true, List.map_cons, List.map_nil, List.length_cons, List.length_nil, List.drop_zero, List.take_succ_cons, List.take_zero, List.drop_succ_cons, List.drop_nil, List.take_nil, Option.isNone_none, Option.isNone_some, Bool.and_true, Bool.true_and, Bool.and_false, Bool.false_and, beq_self_eq_true, Int.toNat_natCast, Int.toNat_zero, Nat.zero_add, Nat.add_zero, Nat.sub_zero, List.replicate_zero, Int.le_refl, Nat.le_refl, List.nil_append, Nat.zero_le, Int.reduceToNat, Nat.min_def, Nat.reduceLeDiff, Int.reducePow, Int.reduceLE, Int.reduceLT, List.mem_cons, List.not_mem_nil, forall_eq_or_imp, forall_eq, List.getD_cons_zero, List.getD_cons_succ, pub_run, pubd_run, pubc_run, ren_run, nil_run, gpre_pub, gst_pub, gpre_ren, gst_ren, gpre_nil, gst_nil, pubV, pubC, pubO, renV, renC, renO, Option.isSome_some, List.set_cons_zero, List.set_cons_succ, List.getElem?_cons_zero, List.getElem?_cons_succ, List.take_length, List.map_replicate, List.cons_append, List.replicate_succ, Int.natCast_zero, Int.lt_irrefl, not_false_eq_true]
    refine loop_intro (fun n st => st = ⟨[(0, .bptr 1000 0), (8, .int .i64 0)], given L⟩) 0 [(0, .bptr 1000 0), (8, .int .i64 0)] (by simp [eget]) rfl ?_
    rintro n st rfl
    simp only [given, run_op, run_opg, run_dr, run_drg, run_c, run_dr_nil, run_dr_alt, drop_run, dropc_run, run_ops_nil, run_seq, run_code_ops, run_code_dr, run_block, run_skip, run_never, run_exit, run_ret, run_blk, run_back, run_nil, popTo, runT_p, runT_w, runT_pick, runT_call, runT_callv, runT_bad, runV_fn, runP_val, runP_el, runP_bad, runW_ok, runW_ex, runW_bad, runPick_t, runPick_f, runPick_dec, runG_tt, runG_ff, runG_tf, runG_ft, runG_und, runG_dec, runC_t, runC_f, runC_dec, memb, edrop_cons, edrop_nil, evX_t, evX_i, evX_b, evX_s, evX_nil, evX_fn, eget_cons, eget_nil, eset_cons, eset_nil, put_some, put_none, set_st, setB_t, setB_b, res_mv, res_nchk, res_bin, res_bb, res_un, res_cv, ar_i64, ar_u64, ar_u32, ar_u16, ar_u8, ar_i32, bin_add, bin_sub, bin_mul, bin_quo, bin_rem, bin_and, bin_or, bin_xor, bin_andNot, bin_eql, bin_neq, bin_lss, bin_leq, bin_gtr, bin_geq, bin_shl64, bin_shl32, bin_shl8, bin_shli, bin_shr64, bin_shr32, bin_shr8, bin_shri, str_eql, str_neq, str_add, un_not, un_notT, un_notF, un_xor8, un_xor32, un_xor64, bool_eql, bool_neq, cv_3264, cv_32i, cv_8i, cv_832, cv_864, cv_ii, cv_i64, cv_64i, cv_6432, cv_648, cv_328, cv_i32, cv_i8, cv_3232, cv_6464, res, wres, env0, byteAt, optI, cutB, cutL, sliceR, strR, ldCells, ldR, iaR, faR, lenR, lenSR, ixR, exR, nchkR, mxR, up, ZV.av, ZV.fit, zfits, fits, fitsL, cellsOf, down, downL, downLL, stR, mkR, bsR, boxR, alR, apR, cpR, srcQ, solid, killC, killV, killE, killO, killH, hget, hset, hdel, encI_app, encB_app, encS_app, encR_app, scalE_I, scalE_B, scalE_S, true_implies, true_and, and_true, reduceIte, reduceCtorEq, Bool.false_eq_true, false_implies, forall_const, not_true_eq_false, not_false_eq_true, Nat.reduceEqDiff, Nat.reduceLT, Nat.reduceAdd, Nat.lt_irrefl, or_false, false_or, true_or, or_true, List.map_cons, List.map_nil, List.length_cons, List.length_nil, List.drop_zero, List.take_succ_cons, List.take_zero, List.drop_succ_cons, List.drop_nil, List.take_nil, Option.isNone_none, Option.isNone_some, Bool.and_true, Bool.true_and, Bool.and_false, Bool.false_and, beq_self_eq_true, Int.toNat_natCast, Int.toNat_zero, Nat.zero_add, Nat.add_zero, Nat.sub_zero, List.replicate_zero, Int.le_refl, Nat.le_refl, List.nil_append, Nat.zero_le, Int.reduceToNat, Nat.min_def, Nat.reduceLeDiff, Int.reducePow, Int.reduceLE, Int.reduceLT, List.mem_cons, List.not_mem_nil, forall_eq_or_imp, forall_eq, List.getD_cons_zero, List.getD_cons_succ, pub_run, pubd_run, pubc_run, ren_run, nil_run, gpre_pub, gst_pub, gpre_ren, gst_ren, gpre_nil, gst_nil, pubV, pubC, pubO, renV, renC, renO, Option.isSome_some, List.set_cons_zero, List.set_cons_succ, List.getElem?_cons_zero, List.getElem?_cons_succ, List.take_length, List.map_replicate, List.cons_append, List.replicate_succ, Int.natCast_zero, Int.lt_irrefl, not_false_eq_true]
    refine callKL (Given_whole L) (by simp only [given, subs, subA, sub, subL, lends, lend, hget, true_and, and_true, reduceIte, reduceCtorEq, Nat.reduceEqDiff, imp_self, or_true, true_or, false_implies, Bool.false_eq_true, List.length_nil, List.map_cons, List.map_nil, encI_app, encB_app, encS_app, encR_app]; exact fun e => by cases e) (by simp [lends, lend, given, hget, subL, sub, List.replicate_succ]) ?_
    rintro r hp' ⟨rfl, rfl⟩
    refine ⟨fun i hi => .inl hi, ?_⟩
    simp only [given, after, killM, killMH, hupd, hset, hget, OB.fixed, killE, killH, killO, killV, killC, put_some, put_none, eset_cons, eset_nil, reduceIte, Nat.reduceEqDiff, Nat.reduceLT, Bool.not_true, Bool.not_false, Bool.false_eq_true, List.map_cons, List.map_nil, reduceCtorEq, List.replicate_succ, List.replicate_zero]
    simp only [run_op, run_opg, run_dr, run_drg, run_c, run_dr_nil, run_dr_alt, drop_run, dropc_run, run_ops_nil, run_seq, run_code_ops, run_code_dr, run_block, run_skip, run_never, run_exit, run_ret, run_blk, run_back, run_nil, popTo, runT_p, runT_w, runT_pick, runT_call, runT_callv, runT_bad, runV_fn, runP_val, runP_el, runP_bad, runW_ok, runW_ex, runW_bad, runPick_t, runPick_f, runPick_dec, runG_tt, runG_ff, runG_tf, runG_ft, runG_und, runG_dec, runC_t, runC_f, runC_dec, memb, edrop_cons, edrop_nil, evX_t, evX_i, evX_b, evX_s, evX_nil, evX_fn, eget_cons, eget_nil, eset_cons, eset_nil, put_some, put_none, set_st, setB_t, setB_b, res_mv, res_nchk, res_bin, res_bb, res_un, res_cv, ar_i64, ar_u64, ar_u32, ar_u16, ar_u8, ar_i32, bin_add, bin_sub, bin_mul, bin_quo, bin_rem, bin_and, bin_or, bin_xor, bin_andNot, bin_eql, bin_neq, bin_lss, bin_leq, bin_gtr, bin_geq, bin_shl64, bin_shl32, bin_shl8, bin_shli, bin_shr64, bin_shr32, bin_shr8, bin_shri, str_eql, str_neq, str_add, un_not, un_notT, un_notF, un_xor8, un_xor32, un_xor64, bool_eql, bool_neq, cv_3264, cv_32i, cv_8i, cv_832, cv_864, cv_ii, cv_i64, cv_64i, cv_6432, cv_648, cv_328, cv_i32, cv_i8, cv_3232, cv_6464, res, wres, env0, byteAt, optI, cutB, cutL, sliceR, strR, ldCells, ldR, iaR, faR, lenR, lenSR, ixR, exR, nchkR, mxR, up, ZV.av, ZV.fit, zfits, fits, fitsL, cellsOf, down, downL, downLL, stR, mkR, bsR, boxR, alR, apR, cpR, srcQ, solid, killC, killV, killE, killO, killH, hget, hset, hdel, encI_app, encB_app, encS_app, encR_app, scalE_I, scalE_B, scalE_S, true_implies, true_and, and_true, reduceIte, reduceCtorEq, Bool.false_eq_true, false_implies, forall_const, not_true_eq_false, not_false_eq_true, Nat.reduceEqDiff, Nat.reduceLT, Nat.reduceAdd, Nat.lt_irrefl, or_false, false_or, true_or, or_true, List.map_cons, List.map_nil, List.length_cons, List.length_nil, List.drop_zero, List.take_succ_cons, List.take_zero, List.drop_succ_cons, List.drop_nil, List.take_nil, Option.isNone_none, Option.isNone_some, Bool.and_true, Bool.true_and, Bool.and_false, Bool.false_and, beq_self_eq_true, Int.toNat_natCast, Int.toNat_zero, Nat.zero_add, Nat.add_zero, Nat.sub_zero, List.replicate_zero, Int.le_refl, Nat.le_refl, List.nil_append, Nat.zero_le, Int.reduceToNat, Nat.min_def, Nat.reduceLeDiff, Int.reducePow, Int.reduceLE, Int.reduceLT, List.mem_cons, List.not_mem_nil, forall_eq_or_imp, forall_eq, List.getD_cons_zero, List.getD_cons_succ, pub_run, pubd_run, pubc_run, ren_run, nil_run, gpre_pub, gst_pub, gpre_ren, gst_ren, gpre_nil, gst_nil, pubV, pubC, pubO, renV, renC, renO, Option.isSome_some, List.set_cons_zero, List.set_cons_succ, List.getElem?_cons_zero, List.getElem?_cons_succ, List.take_length, List.map_replicate, List.cons_append]
    exact given_ret L 2 rfl

end Go.Vc
