/-
  Sums and differences, limb by limb.
-/
import Derived.Test.YtdlddbclcmecjaaNat1
set_option linter.unusedVariables false
set_option linter.unusedSimpArgs false
namespace Go.Vc
open Go
open Go.Proofs

/- bits.Add32: arguments 3, results in [6, 7]; slots in use where its loops begin: [] -/
def c131 : MC := .seq (.ops [
  .op (some 6) none (.p (.mv (.i .u32 (0)))),
  .op (some 7) none (.p (.mv (.i .u32 (0)))),
  .gh (.drop [6, 7])])
 (.seq (.ops [
  .op (some 9) none (.p (.mv (.t 0))),
  .op (some 10) none (.p (.cv .u64 (.t 9))),
  .op (some 11) none (.p (.mv (.t 1))),
  .op (some 12) none (.p (.cv .u64 (.t 11))),
  .op (some 13) none (.p (.bin .add (.t 10) (.t 12))),
  .op (some 14) none (.p (.mv (.t 2))),
  .op (some 15) none (.p (.cv .u64 (.t 14))),
  .op (some 16) none (.p (.bin .add (.t 13) (.t 15))),
  .op (some 8) none (.p (.mv (.t 16))),
  .gh (.drop [0, 1, 2, 9, 10, 11, 12, 13, 14, 15, 16])])
 (.seq (.ops [
  .op (some 17) none (.p (.mv (.t 8))),
  .op (some 18) none (.p (.cv .u32 (.t 17))),
  .op (some 6) none (.p (.mv (.t 18))),
  .gh (.drop [17, 18])])
 (.seq (.ops [
  .op (some 19) none (.p (.mv (.t 8))),
  .op (some 20) none (.p (.bin .shr (.t 19) (.i .u64 (32)))),
  .op (some 21) none (.p (.cv .u32 (.t 20))),
  .op (some 7) none (.p (.mv (.t 21))),
  .gh (.drop [8, 19, 20, 21])])
 (.ret))))
theorem k131 : chkF Try.prog 131 3 [6, 7] c131 = true := by kernel_rfl



theorem bits_Add32 (x y c : Int) : FSpec0 Try.prog 131 [.int .u32 x, .int .u32 y, .int .u32 c] (fun r => r = .tup [.int .u32 ((x + y + c) % 4294967296), .int .u32 ((x + y + c) / 4294967296)]) := by
  refine FSpec0.of_facts fun hf => fspec0_of_run k131 ?_
  obtain ⟨hx, hy, hc, _⟩ := hf
  simp only [factV, inK] at hx hy hc
  simp only [c131, run_op, run_opg, run_dr, run_drg, run_c, run_dr_nil, run_dr_alt, drop_run, dropc_run, run_ops_nil, run_seq, run_code_ops, run_code_dr, run_block, run_skip, run_never, run_exit, run_ret, run_blk, run_back, run_nil, popTo, runT_p, runT_w, runT_pick, runT_call, runT_callv, runT_bad, runV_fn, runP_val, runP_el, runP_bad, runW_ok, runW_ex, runW_bad, runPick_t, runPick_f, runPick_dec, runG_tt, runG_ff, runG_tf, runG_ft, runG_und, runG_dec, runC_t, runC_f, runC_dec, memb, edrop_cons, edrop_nil, evX_t, evX_i, evX_b, evX_s, evX_nil, evX_fn, eget_cons, eget_nil, eset_cons, eset_nil, put_some, put_none, set_st, setB_t, setB_b, res_mv, res_nchk, res_bin, res_bb, res_un, res_cv, ar_i64, ar_u64, ar_u32, ar_u16, ar_u8, ar_i32, bin_add, bin_sub, bin_mul, bin_quo, bin_rem, bin_and, bin_or, bin_xor, bin_andNot, bin_eql, bin_neq, bin_lss, bin_leq, bin_gtr, bin_geq, bin_shl64, bin_shl32, bin_shl8, bin_shli, bin_shr64, bin_shr32, bin_shr8, bin_shri, str_eql, str_neq, str_add, un_not, un_notT, un_notF, un_xor8, un_xor32, un_xor64, bool_eql, bool_neq, cv_3264, cv_32i, cv_8i, cv_832, cv_864, cv_ii, cv_i64, cv_64i, cv_6432, cv_648, cv_328, cv_i32, cv_i8, cv_3232, cv_6464, res, wres, env0, byteAt, optI, cutB, cutL, sliceR, strR, ldCells, ldR, iaR, faR, lenR, lenSR, ixR, exR, nchkR, mxR, up, ZV.av, ZV.fit, zfits, fits, fitsL, cellsOf, down, downL, downLL, stR, mkR, bsR, boxR, alR, apR, cpR, srcQ, solid, killC, killV, killE, killO, killH, hget, hset, hdel, encI_app, encB_app, encS_app, encR_app, scalE_I, scalE_B, scalE_S, true_implies, true_and, and_true, reduceIte, reduceCtorEq, Bool.false_eq_true, false_implies, forall_const, not_true_eq_false, not_false_eq_true, Nat.reduceEqDiff, Nat.reduceLT, Nat.reduceAdd, Nat.lt_irrefl, or_false, false_or, true_or, or_true, List.map_cons, List.map_nil, List.length_cons, List.length_nil, List.drop_zero, List.take_succ_cons, List.take_zero, List.drop_succ_cons, List.drop_nil, List.take_nil, Option.isNone_none, Option.isNone_some, Bool.and_true, Bool.true_and, Bool.and_false, Bool.false_and, beq_self_eq_true, Int.toNat_natCast, Int.toNat_zero, Nat.zero_add, Nat.add_zero, Nat.sub_zero, List.replicate_zero, Int.le_refl, Nat.le_refl, List.nil_append, Nat.zero_le, Int.reduceToNat, Nat.min_def, Nat.reduceLeDiff, Int.reducePow, Int.reduceLE, Int.reduceLT, List.mem_cons, List.not_mem_nil, forall_eq_or_imp, forall_eq, List.getD_cons_zero, List.getD_cons_succ, pub_run, pubd_run, pubc_run, ren_run, nil_run, gpre_pub, gst_pub, gpre_ren, gst_ren, gpre_nil, gst_nil, pubV, pubC, pubO, renV, renC, renO, Option.isSome_some, List.set_cons_zero, List.set_cons_succ, List.getElem?_cons_zero, List.getElem?_cons_succ, List.take_length, List.map_replicate, List.cons_append]
  intro _ _ _ _
  have e1 : ((x + y) % 18446744073709551616 + c) % 18446744073709551616 % 4294967296 = (x + y + c) % 4294967296 := by omega
  have e2 : ((x + y) % 18446744073709551616 + c) % 18446744073709551616 / 4294967296 % 4294967296 = (x + y + c) / 4294967296 := by omega
  rw [e1, e2]
  exact ret0 (.tup [.int .u32 ((x + y + c) % 4294967296), .int .u32 ((x + y + c) / 4294967296)]) (by simp only [retR, retA, retL, ret1, ret1L, eget, hget, hset, St.set, eset, List.map_cons, List.map_nil, reduceIte, reduceCtorEq, Nat.reduceEqDiff, Nat.reduceLT, true_and, and_true, false_or, or_true, true_or, List.drop_zero, List.take_length, scalE_I, scalE_B, scalE_S]) rfl

end Go.Vc
