/-
  Answers as long as nothing is refused: calls.took, add, mul.
-/
import Derived.Test.YtdlddbclcmecjaaNat12
set_option linter.unusedVariables false
set_option linter.unusedSimpArgs false
namespace Go.Vc
open Go
open Go.Proofs

/- slopelaw1.calls).took: arguments 3, results in [6]; slots in use where its loops begin: [] -/
def c68 : MC := .seq (.ops [ .op (some 6) none (.p (.mv .nil)), .gh (.drop [6])]) (.seq (.seq (.ops [ .op (some 7) none (.p (.mv (.t 2))), .op (some 8) none (.call 31 [(.t 7)]), .op (some 9) none (.p (.bin .eql (.t 8) (.i .i64 (2)))), .gh (.drop [7, 8])]) (.cond (.t 9) (.ops [ .op (some 10) none (.p (.mv (.t 0))), .op (some 11) none (.p (.nchk (.t 10))), .op (some 12) none (.p (.fa 0 (.t 11))), .op none none (.w (.st 1 (.t 12) (.b true))), .gh (.drop [0, 10, 11, 12])]) (.seq (.ops [ .op (some 13) none (.p (.mv (.t 2))), .op (some 14) none (.call 31 [(.t 13)]), .op (some 15) none (.p (.bin .neq (.t 14) (.i .i64 (0)))), .op (some 16) none (.p (.mv (.t 15))), .op (some 17) (some (16, false)) (.p (.mv (.t 1))), .op (some 18) (some (16, false)) (.call 79 [(.t 17)]), .op (some 19) (some (16, false)) (.p (.un .not (.t 18))), .op (some 20) none (.pick (.t 16) (.b true) (.t 19)), .gh (.drop [2, 13, 14, 15, 16, 17, 18, 19])]) (.cond (.t 20) (.ops [ .op (some 21) none (.p (.mv (.t 0))), .op (some 22) none (.p (.nchk (.t 21))), .op (some 23) none (.p (.fa 1 (.t 22))), .op none none (.w (.st 1 (.t 23) (.b true))), .gh (.drop [0, 21, 22, 23])]) (.skip))))) (.seq (.ops [ .op (some 24) none (.p (.mv (.t 1))), .op (some 6) none (.p (.mv (.t 24))), .gh (.drop [1, 24])]) (.ret)))
theorem k68 : chkF Try.prog 68 3 [6] c68 = true := by kernel_rfl

/- slopelaw1.calls).add: arguments 3, results in [6]; slots in use where its loops begin: [] -/
def c48 : MC := .seq (.ops [ .op (some 6) none (.p (.mv .nil)), .gh (.drop [6])]) (.seq (.ops [ .op (some 7) none (.p (.mv (.t 0))), .op (some 8) none (.p (.mv (.t 1))), .op (some 9) none (.p (.mv (.t 2))), .op (some 10) none (.call 38 [(.t 8), (.t 9)]), .op (some 11) none (.p (.ex (.t 10) 0)), .op (some 12) none (.p (.ex (.t 10) 1)), .op (some 13) none (.call 68 [(.t 7), (.t 11), (.t 12)]), .op (some 6) none (.p (.mv (.t 13))), .gh (.drop [0, 1, 2, 7, 8, 9, 10, 11, 12, 13])]) (.ret))
theorem k48 : chkF Try.prog 48 3 [6] c48 = true := by kernel_rfl

/- slopelaw1.calls).mul: arguments 3, results in [6]; slots in use where its loops begin: [] -/
def c49 : MC := .seq (.ops [ .op (some 6) none (.p (.mv .nil)), .gh (.drop [6])]) (.seq (.ops [ .op (some 7) none (.p (.mv (.t 0))), .op (some 8) none (.p (.mv (.t 1))), .op (some 9) none (.p (.mv (.t 2))), .op (some 10) none (.call 44 [(.t 8), (.t 9)]), .op (some 11) none (.p (.ex (.t 10) 0)), .op (some 12) none (.p (.ex (.t 10) 1)), .op (some 13) none (.call 68 [(.t 7), (.t 11), (.t 12)]), .op (some 6) none (.p (.mv (.t 13))), .gh (.drop [0, 1, 2, 7, 8, 9, 10, 11, 12, 13])]) (.ret))
theorem k49 : chkF Try.prog 49 3 [6] c49 = true := by kernel_rfl

/- slopelaw1.may: arguments 1, results in [2]; slots in use where its loops begin: [[0, 3]] -/
def c47 : MC := .seq (.ops [ .op (some 2) none (.p (.mv (.b false))), .gh (.drop [2])]) (.seq (.seq (.ops [ .op (some 3) none (.p (.mv (.i .i64 (0))))]) (.cut (.block 0 (.loop (.seq (.seq (.ops [ .op (some 4) none (.p (.mv (.t 3))), .op (some 5) none (.p (.mv (.t 0))), .op (some 6) none (.p (.len (.t 5))), .op (some 7) none (.p (.bin .lss (.t 4) (.t 6))), .gh (.drop [4, 5, 6])]) (.cond (.t 7) (.skip) (.exit 0))) (.seq (.block 1 (.seq (.ops [ .op (some 10) none (.p (.mv (.t 0))), .op (some 11) none (.p (.mv (.t 3))), .op (some 12) none (.p (.ia 1 (.t 10) (.t 11))), .op (some 13) none (.p (.ld 1 false (.t 12))), .op (some 14) none (.call 85 [(.t 13)]), .op (some 15) none (.p (.un .not (.t 14))), .gh (.drop [10, 11, 12, 13, 14])]) (.cond (.t 15) (.seq (.ops [ .op (some 2) none (.p (.mv (.b false)))]) (.ret)) (.skip)))) (.ops [ .op (some 8) none (.p (.mv (.t 3))), .op (some 9) none (.p (.bin .add (.t 8) (.i .i64 (1)))), .op (some 3) none (.p (.mv (.t 9))), .gh (.drop [8, 9])]))))))) (.seq (.ops [ .op (some 2) none (.p (.mv (.b true)))]) (.ret)))
theorem k47 : chkF Try.prog 47 1 [2] c47 = true := by kernel_rfl



abbrev callsH (id : Nat) (B : Prop) [Decidable B] : Heap := [(id, .blk 75 [.bool (decide B), .bool false])]

theorem ret_calls {env : Env} {id : Nat} {B B' : Prop} [Decidable B] [Decidable B'] {n : List Int} (h6 : eget env 6 = uL true n) {post : AV → Heap → Prop} (h : post (uL true n) (callsH id B')) :
    Ret [6] (callsH id B) post ⟨env, callsH id B'⟩ :=
  ⟨uL true n, callsH id B', by simp only [List.map_cons, List.map_nil, h6, uL, retR, retA, retL, ret1, ret1L, eget, hget, hset, St.set, eset, List.map_cons, List.map_nil, reduceIte, reduceCtorEq, Nat.reduceEqDiff, Nat.reduceLT, true_and, and_true, false_or, or_true, true_or, List.drop_zero, List.take_length, scalE_I, scalE_B, scalE_S], by simp [callsH, retH, hget, retO, ret1L, ret1], by simp [callsH, keptH, hget, OB.fixed], h⟩

theorem calls_took (id : Nat) (hid : 1000 ≤ id) (B : Prop) [Decidable B] (n : List Int) (e : Int) (he : e = 0 ∨ e = 2) (hn : may n) :
    FSpec Try.prog 68 [.bptr id 0, uL true n, .int .i64 e] (callsH id B) (fun r hp' => r = uL true n ∧ hp' = callsH id (B ∨ e = 2)) := by
  refine fspec_of_run k68 (by simp [callsH, hid]) (fun h => by cases h) ?_
  simp only [uL, callsH, c68, W1, W2, W3, popTo, memb, res, wres, env0, byteAt, optI, cutB, cutL, sliceR, strR, ldCells, ldR, iaR, faR, lenR, lenSR, ixR, exR, nchkR, mxR, csR, up, ZV.av, ZV.fit, zfits, fits, fitsL, cellsOf, down, downL, downLL, stR, mkR, bsR, boxR, alR, apR, cpR, srcQ, solid, killC, killV, killE, killO, killH, hget, hset, hdel, pubV, pubC, pubO, renV, renC, renO, reduceIte, reduceCtorEq, Nat.reduceEqDiff, Nat.reduceLT, Nat.reduceAdd, Int.reduceToNat, Nat.reduceLeDiff, Int.reducePow, Int.reduceLE, Int.reduceLT]
  refine call1 (slopelaw1_num e) (by repeat (first | exact subs_nil | refine subs_int ?_ | refine subs_ro ?_ | refine subs_bool ?_ | refine subs_str ?_ | refine subs_nilro ?_ | refine subs_lits rfl ?_ | refine subs_all rfl rfl (by simp) ?_ | refine subs_own rfl rfl ?_ | refine subs_fn ?_)) ?_; simp only [uL, W1, W2, W3, popTo, memb, res, wres, env0, byteAt, optI, cutB, cutL, sliceR, strR, ldCells, ldR, iaR, faR, lenR, lenSR, ixR, exR, nchkR, mxR, csR, up, ZV.av, ZV.fit, zfits, fits, fitsL, cellsOf, down, downL, downLL, stR, mkR, bsR, boxR, alR, apR, cpR, srcQ, solid, killC, killV, killE, killO, killH, hget, hset, hdel, pubV, pubC, pubO, renV, renC, renO, reduceIte, reduceCtorEq, Nat.reduceEqDiff, Nat.reduceLT, Nat.reduceAdd, Int.reduceToNat, Nat.reduceLeDiff, Int.reducePow, Int.reduceLE, Int.reduceLT]
  have fin : ∀ (b : Bool) (env : Env), b = decide (B ∨ e = 2) → eget env 6 = uL true n → Ret [6] (callsH id B) (fun r hp' => r = uL true n ∧ hp' = callsH id (B ∨ e = 2)) ⟨env, [(id, .blk 75 [.bool b, .bool false])]⟩ := fun b env hb h6 => by
    subst hb; exact ret_calls h6 ⟨rfl, rfl⟩
  refine ⟨fun h2 => ?_, fun h2 => ?_⟩
  · exact fin true _ (by simp [h2]) rfl
  · have h0 : e = 0 := by omega
    subst h0
    refine call1 (slopelaw1_num 0) (by repeat (first | exact subs_nil | refine subs_int ?_ | refine subs_ro ?_ | refine subs_bool ?_ | refine subs_str ?_ | refine subs_nilro ?_ | refine subs_lits rfl ?_ | refine subs_all rfl rfl (by simp) ?_ | refine subs_own rfl rfl ?_ | refine subs_fn ?_)) ?_; simp only [uL, W1, W2, W3, popTo, memb, res, wres, env0, byteAt, optI, cutB, cutL, sliceR, strR, ldCells, ldR, iaR, faR, lenR, lenSR, ixR, exR, nchkR, mxR, csR, up, ZV.av, ZV.fit, zfits, fits, fitsL, cellsOf, down, downL, downLL, stR, mkR, bsR, boxR, alR, apR, cpR, srcQ, solid, killC, killV, killE, killO, killH, hget, hset, hdel, pubV, pubC, pubO, renV, renC, renO, reduceIte, reduceCtorEq, Nat.reduceEqDiff, Nat.reduceLT, Nat.reduceAdd, Int.reduceToNat, Nat.reduceLeDiff, Int.reducePow, Int.reduceLE, Int.reduceLT]
    refine call1 (natural_May true n) (by repeat (first | exact subs_nil | refine subs_int ?_ | refine subs_ro ?_ | refine subs_bool ?_ | refine subs_str ?_ | refine subs_nilro ?_ | refine subs_lits rfl ?_ | refine subs_all rfl rfl (by simp) ?_ | refine subs_own rfl rfl ?_ | refine subs_fn ?_)) ?_; simp only [uL, W1, W2, W3, popTo, memb, res, wres, env0, byteAt, optI, cutB, cutL, sliceR, strR, ldCells, ldR, iaR, faR, lenR, lenSR, ixR, exR, nchkR, mxR, csR, up, ZV.av, ZV.fit, zfits, fits, fitsL, cellsOf, down, downL, downLL, stR, mkR, bsR, boxR, alR, apR, cpR, srcQ, solid, killC, killV, killE, killO, killH, hget, hset, hdel, pubV, pubC, pubO, renV, renC, renO, reduceIte, reduceCtorEq, Nat.reduceEqDiff, Nat.reduceLT, Nat.reduceAdd, Int.reduceToNat, Nat.reduceLeDiff, Int.reducePow, Int.reduceLE, Int.reduceLT]
    exact ⟨fun h => absurd hn h, fun _ => fin (decide B) _ (by simp) rfl⟩

theorem fitE_or (v : Int) : fitE v = 0 ∨ fitE v = 2 := by unfold fitE; split <;> simp

theorem callTook {Q : St → Prop} {k : List It} {env : Env} {hp : Heap} {d : Nat} (id : Nat) (B : Prop) [Decidable B] (n : List Int) (e : Int) (hid : 1000 ≤ id) (hg : hget hp id = some (.blk 75 [.bool (decide B), .bool false])) (he : e = 0 ∨ e = 2) (hn : may n)
    (hk : run Try.prog Q k ⟨eset env d (uL true n), hset hp id (.blk 75 [.bool (decide (B ∨ e = 2)), .bool false])⟩) : callK Try.prog Q k (some d) ⟨env, hp⟩ 68 [.bptr id 0, uL true n, .int .i64 e] := by
  refine callL1 (calls_took id hid B n e he hn) (subs_bptr (by simp [callsH, hget]) (subs_ro (subs_int subs_nil))) ⟨by simp only [hg]; exact ⟨rfl, rfl, rfl, trivial⟩, trivial⟩ (fun i hi => .inl ?_) ?_
  · simp only [callsH, hget] at hi ⊢
    by_cases e : id = i
    · simp [e]
    · simp [e] at hi
  · simpa [after, killM, killMH, hupd, callsH, OB.fixed, put_some] using hk

theorem calls_add (id : Nat) (hid : 1000 ≤ id) (B : Prop) [Decidable B] (fr fr' : Bool) (a b : List Int) (ha : may a) (hb : may b) :
    FSpec Try.prog 48 [.bptr id 0, uL fr a, uL fr' b] (callsH id B) (fun r hp' => r = uL true (fitL (val a + val b)) ∧ hp' = callsH id (B ∨ fitE (val a + val b) = 2)) := by
  refine fspec_of_run k48 (by simp [callsH, hid]) (fun h => by cases h) ?_
  simp only [uL, callsH, c48, W1, W2, W3, popTo, memb, res, wres, env0, byteAt, optI, cutB, cutL, sliceR, strR, ldCells, ldR, iaR, faR, lenR, lenSR, ixR, exR, nchkR, mxR, csR, up, ZV.av, ZV.fit, zfits, fits, fitsL, cellsOf, down, downL, downLL, stR, mkR, bsR, boxR, alR, apR, cpR, srcQ, solid, killC, killV, killE, killO, killH, hget, hset, hdel, pubV, pubC, pubO, renV, renC, renO, reduceIte, reduceCtorEq, Nat.reduceEqDiff, Nat.reduceLT, Nat.reduceAdd, Int.reduceToNat, Nat.reduceLeDiff, Int.reducePow, Int.reduceLE, Int.reduceLT]
  refine call1 (natural_Add fr fr' a b) (by repeat (first | exact subs_nil | refine subs_int ?_ | refine subs_ro ?_ | refine subs_bool ?_ | refine subs_str ?_ | refine subs_nilro ?_ | refine subs_lits rfl ?_ | refine subs_all rfl rfl (by simp) ?_ | refine subs_own rfl rfl ?_ | refine subs_fn ?_)) ?_; simp only [uL, W1, W2, W3, popTo, memb, res, wres, env0, byteAt, optI, cutB, cutL, sliceR, strR, ldCells, ldR, iaR, faR, lenR, lenSR, ixR, exR, nchkR, mxR, csR, up, ZV.av, ZV.fit, zfits, fits, fitsL, cellsOf, down, downL, downLL, stR, mkR, bsR, boxR, alR, apR, cpR, srcQ, solid, killC, killV, killE, killO, killH, hget, hset, hdel, pubV, pubC, pubO, renV, renC, renO, reduceIte, reduceCtorEq, Nat.reduceEqDiff, Nat.reduceLT, Nat.reduceAdd, Int.reduceToNat, Nat.reduceLeDiff, Int.reducePow, Int.reduceLE, Int.reduceLT]
  rw [addL, addE, if_pos ⟨ha, hb⟩, if_pos ⟨ha, hb⟩]
  refine callTook id B (fitL (val a + val b)) (fitE (val a + val b)) hid (by simp [hget]) (fitE_or _) (fitL_may _) ?_
  simp only [uL, W1, W2, W3, popTo, memb, res, wres, env0, byteAt, optI, cutB, cutL, sliceR, strR, ldCells, ldR, iaR, faR, lenR, lenSR, ixR, exR, nchkR, mxR, csR, up, ZV.av, ZV.fit, zfits, fits, fitsL, cellsOf, down, downL, downLL, stR, mkR, bsR, boxR, alR, apR, cpR, srcQ, solid, killC, killV, killE, killO, killH, hget, hset, hdel, pubV, pubC, pubO, renV, renC, renO, reduceIte, reduceCtorEq, Nat.reduceEqDiff, Nat.reduceLT, Nat.reduceAdd, Int.reduceToNat, Nat.reduceLeDiff, Int.reducePow, Int.reduceLE, Int.reduceLT]
  exact ret_calls rfl ⟨rfl, rfl⟩

theorem calls_mul (id : Nat) (hid : 1000 ≤ id) (B : Prop) [Decidable B] (fr fr' : Bool) (a b : List Int) (ha : may a) (hb : may b) :
    FSpec Try.prog 49 [.bptr id 0, uL fr a, uL fr' b] (callsH id B) (fun r hp' => r = uL true (fitL (val a * val b)) ∧ hp' = callsH id (B ∨ fitE (val a * val b) = 2)) := by
  refine fspec_of_run k49 (by simp [callsH, hid]) (fun h => by cases h) ?_
  simp only [uL, callsH, c49, W1, W2, W3, popTo, memb, res, wres, env0, byteAt, optI, cutB, cutL, sliceR, strR, ldCells, ldR, iaR, faR, lenR, lenSR, ixR, exR, nchkR, mxR, csR, up, ZV.av, ZV.fit, zfits, fits, fitsL, cellsOf, down, downL, downLL, stR, mkR, bsR, boxR, alR, apR, cpR, srcQ, solid, killC, killV, killE, killO, killH, hget, hset, hdel, pubV, pubC, pubO, renV, renC, renO, reduceIte, reduceCtorEq, Nat.reduceEqDiff, Nat.reduceLT, Nat.reduceAdd, Int.reduceToNat, Nat.reduceLeDiff, Int.reducePow, Int.reduceLE, Int.reduceLT]
  refine call1 (natural_Mul fr fr' a b) (by repeat (first | exact subs_nil | refine subs_int ?_ | refine subs_ro ?_ | refine subs_bool ?_ | refine subs_str ?_ | refine subs_nilro ?_ | refine subs_lits rfl ?_ | refine subs_all rfl rfl (by simp) ?_ | refine subs_own rfl rfl ?_ | refine subs_fn ?_)) ?_; simp only [uL, W1, W2, W3, popTo, memb, res, wres, env0, byteAt, optI, cutB, cutL, sliceR, strR, ldCells, ldR, iaR, faR, lenR, lenSR, ixR, exR, nchkR, mxR, csR, up, ZV.av, ZV.fit, zfits, fits, fitsL, cellsOf, down, downL, downLL, stR, mkR, bsR, boxR, alR, apR, cpR, srcQ, solid, killC, killV, killE, killO, killH, hget, hset, hdel, pubV, pubC, pubO, renV, renC, renO, reduceIte, reduceCtorEq, Nat.reduceEqDiff, Nat.reduceLT, Nat.reduceAdd, Int.reduceToNat, Nat.reduceLeDiff, Int.reducePow, Int.reduceLE, Int.reduceLT]
  rw [mulL, mulE, if_pos ⟨ha, hb⟩, if_pos ⟨ha, hb⟩]
  refine callTook id B (fitL (val a * val b)) (fitE (val a * val b)) hid (by simp [hget]) (fitE_or _) (fitL_may _) ?_
  simp only [uL, W1, W2, W3, popTo, memb, res, wres, env0, byteAt, optI, cutB, cutL, sliceR, strR, ldCells, ldR, iaR, faR, lenR, lenSR, ixR, exR, nchkR, mxR, csR, up, ZV.av, ZV.fit, zfits, fits, fitsL, cellsOf, down, downL, downLL, stR, mkR, bsR, boxR, alR, apR, cpR, srcQ, solid, killC, killV, killE, killO, killH, hget, hset, hdel, pubV, pubC, pubO, renV, renC, renO, reduceIte, reduceCtorEq, Nat.reduceEqDiff, Nat.reduceLT, Nat.reduceAdd, Int.reduceToNat, Nat.reduceLeDiff, Int.reducePow, Int.reduceLE, Int.reduceLT]
  exact ret_calls rfl ⟨rfl, rfl⟩

theorem callC {f : FuncId} {Q : St → Prop} {k : List It} {env : Env} {hp : Heap} {d : Nat} {id : Nat} {B B' : Prop} [Decidable B] [Decidable B'] {fr fr' : Bool} {a b n : List Int} {va vb : AV}
    (h : FSpec Try.prog f [.bptr id 0, uL fr a, uL fr' b] (callsH id B) (fun r hp' => r = uL true n ∧ hp' = callsH id B')) (hg : hget hp id = some (.blk 75 [.bool (decide B), .bool false]))
    (hs : subs hp (callsH id B) [va, vb] [uL fr a, uL fr' b])
    (hk : run Try.prog Q k ⟨eset env d (uL true n), hset hp id (.blk 75 [.bool (decide B'), .bool false])⟩) : callK Try.prog Q k (some d) ⟨env, hp⟩ f [.bptr id 0, va, vb] := by
  refine callL1 h (subs_bptr (by simp [callsH, hget]) hs) ⟨by simp only [hg]; exact ⟨rfl, rfl, rfl, trivial⟩, trivial⟩ (fun i hi => .inl ?_) ?_
  · simp only [callsH, hget] at hi ⊢
    by_cases e : id = i
    · simp [e]
    · simp [e] at hi
  · simpa [after, killM, killMH, hupd, callsH, OB.fixed, put_some] using hk

theorem slopelaw1_may (fr : Bool) (L : List (List Int)) : FSpec0 Try.prog 47 [uLL fr L] (fun r => r = .bool (decide (∀ x, x ∈ L → may x))) := by
  refine FSpec0.of_facts fun hf => fspec0_of_run k47 ?_
  simp only [uL, c47, W1, W2, W3, popTo, memb, res, wres, env0, byteAt, optI, cutB, cutL, sliceR, strR, ldCells, ldR, iaR, faR, lenR, lenSR, ixR, exR, nchkR, mxR, csR, up, ZV.av, ZV.fit, zfits, fits, fitsL, cellsOf, down, downL, downLL, stR, mkR, bsR, boxR, alR, apR, cpR, srcQ, solid, killC, killV, killE, killO, killH, hget, hset, hdel, pubV, pubC, pubO, renV, renC, renO, reduceIte, reduceCtorEq, Nat.reduceEqDiff, Nat.reduceLT, Nat.reduceAdd, Int.reduceToNat, Nat.reduceLeDiff, Int.reducePow, Int.reduceLE, Int.reduceLT]
  refine cut_intro (fun st => (∀ x, x ∈ L → may x) ∧ st = ⟨[], []⟩) ?_ ?_
  · simp only [W1, W2, W3, popTo, memb, res, wres, env0, byteAt, optI, cutB, cutL, sliceR, strR, ldCells, ldR, iaR, faR, lenR, lenSR, ixR, exR, nchkR, mxR, csR, up, ZV.av, ZV.fit, zfits, fits, fitsL, cellsOf, down, downL, downLL, stR, mkR, bsR, boxR, alR, apR, cpR, srcQ, solid, killC, killV, killE, killO, killH, hget, hset, hdel, pubV, pubC, pubO, renV, renC, renO, reduceIte, reduceCtorEq, Nat.reduceEqDiff, Nat.reduceLT, Nat.reduceAdd, Int.reduceToNat, Nat.reduceLeDiff, Int.reducePow, Int.reduceLE, Int.reduceLT]
    refine loop_intro (fun m st => ∃ i : Nat, i ≤ L.length ∧ m = L.length - i ∧ (∀ x, x ∈ L.take i → may x) ∧ st = ⟨[(0, uLL fr L), (3, .int .i64 i)], []⟩) L.length
      [(0, uLL fr L), (3, .int .i64 (0 : Nat))] (by simp [eget]) ⟨0, by omega, by omega, by simp, rfl⟩ ?_
    rintro m st ⟨i, hi, rfl, hm, rfl⟩
    simp only [W1, W2, W3, popTo, memb, res, wres, env0, byteAt, optI, cutB, cutL, sliceR, strR, ldCells, ldR, iaR, faR, lenR, lenSR, ixR, exR, nchkR, mxR, csR, up, ZV.av, ZV.fit, zfits, fits, fitsL, cellsOf, down, downL, downLL, stR, mkR, bsR, boxR, alR, apR, cpR, srcQ, solid, killC, killV, killE, killO, killH, hget, hset, hdel, pubV, pubC, pubO, renV, renC, renO, reduceIte, reduceCtorEq, Nat.reduceEqDiff, Nat.reduceLT, Nat.reduceAdd, Int.reduceToNat, Nat.reduceLeDiff, Int.reducePow, Int.reduceLE, Int.reduceLT]
    refine fun _ => ⟨fun h0 => ⟨by omega, fun e he => ?_⟩, fun h0 => ?_⟩
    · refine call1 (sloperef1_May fr e) (by repeat (first | exact subs_nil | refine subs_int ?_ | refine subs_ro ?_ | refine subs_bool ?_ | refine subs_str ?_ | refine subs_nilro ?_ | refine subs_lits rfl ?_ | refine subs_all rfl rfl (by simp) ?_ | refine subs_own rfl rfl ?_ | refine subs_fn ?_)) ?_
      simp only [W1, W2, W3, popTo, memb, res, wres, env0, byteAt, optI, cutB, cutL, sliceR, strR, ldCells, ldR, iaR, faR, lenR, lenSR, ixR, exR, nchkR, mxR, csR, up, ZV.av, ZV.fit, zfits, fits, fitsL, cellsOf, down, downL, downLL, stR, mkR, bsR, boxR, alR, apR, cpR, srcQ, solid, killC, killV, killE, killO, killH, hget, hset, hdel, pubV, pubC, pubO, renV, renC, renO, reduceIte, reduceCtorEq, Nat.reduceEqDiff, Nat.reduceLT, Nat.reduceAdd, Int.reduceToNat, Nat.reduceLeDiff, Int.reducePow, Int.reduceLE, Int.reduceLT]
      refine ⟨fun h => ret0 (.bool false) (by simp only [retR, retA, retL, ret1, ret1L, eget, hget, hset, St.set, eset, List.map_cons, List.map_nil, reduceIte, reduceCtorEq, Nat.reduceEqDiff, Nat.reduceLT, true_and, and_true, false_or, or_true, true_or, List.drop_zero, List.take_length, scalE_I, scalE_B, scalE_S]) ?_, fun h => ⟨by omega, back_intro [(0, uLL fr L), (3, .int .i64 ((i + 1 : Nat) : Int))] (by simp [eget]) (by omega) ⟨i + 1, by omega, rfl, ?_, rfl⟩⟩⟩
      · rw [decide_eq_false]; exact fun hall => h (hall e (List.mem_of_getElem? he))
      · intro x hx
        rw [take_step he] at hx
        rcases List.mem_append.1 hx with h1 | h1
        · exact hm x h1
        · simp at h1; subst h1; exact Classical.not_not.1 h
    · refine join_intro [] (by simp) ⟨?_, rfl⟩
      rw [List.take_of_length_le (by omega)] at hm; exact hm
  · rintro st ⟨hm, rfl⟩
    simp only [W1, W2, W3, popTo, memb, res, wres, env0, byteAt, optI, cutB, cutL, sliceR, strR, ldCells, ldR, iaR, faR, lenR, lenSR, ixR, exR, nchkR, mxR, csR, up, ZV.av, ZV.fit, zfits, fits, fitsL, cellsOf, down, downL, downLL, stR, mkR, bsR, boxR, alR, apR, cpR, srcQ, solid, killC, killV, killE, killO, killH, hget, hset, hdel, pubV, pubC, pubO, renV, renC, renO, reduceIte, reduceCtorEq, Nat.reduceEqDiff, Nat.reduceLT, Nat.reduceAdd, Int.reduceToNat, Nat.reduceLeDiff, Int.reducePow, Int.reduceLE, Int.reduceLT]
    exact ret0 (.bool true) (by simp only [retR, retA, retL, ret1, ret1L, eget, hget, hset, St.set, eset, List.map_cons, List.map_nil, reduceIte, reduceCtorEq, Nat.reduceEqDiff, Nat.reduceLT, true_and, and_true, false_or, or_true, true_or, List.drop_zero, List.take_length, scalE_I, scalE_B, scalE_S]) (by rw [decide_eq_true hm])

end Go.Vc
