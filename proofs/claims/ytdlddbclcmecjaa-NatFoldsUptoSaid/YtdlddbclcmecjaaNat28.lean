/-
  Sums and products of lists: the program's and the document's; many, kept.
-/
import Derived.Test.YtdlddbclcmecjaaNat12
import Derived.Test.YtdlddbclcmecjaaGive
set_option linter.unusedVariables false
set_option linter.unusedSimpArgs false
namespace Go.Vc
open Go
open Go.Proofs

/- natural.fold: arguments 3, results in [6, 7]; slots in use where its loops begin: [[0, 1, 14, 15, 16]] -/
def c108 : MC := .seq (.ops [ .op (some 6) none (.p (.mv .nil)), .op (some 7) none (.p (.mv (.i .i64 (0)))), .gh (.drop [6, 7])]) (.seq (.seq (.ops [ .op (some 11) none (.p (.mv (.t 2))), .op (some 12) none (.call 102 [(.t 11)]), .op (some 13) none (.p (.un .not (.t 12))), .gh (.drop [11, 12])]) (.cond (.t 13) (.seq (.ops [ .op (some 6) none (.p (.mv .nil)), .op (some 7) none (.p (.mv (.i .i64 (20))))]) (.ret)) (.skip))) (.seq (.ops [ .op (some 8) none (.p (.mv (.i .i64 (0)))), .gh (.drop [8])]) (.seq (.seq (.ops [ .op (some 14) none (.p (.mv (.t 2))), .op (some 15) none (.p (.len (.t 14))), .op (some 16) none (.p (.mv (.i .i64 (0)))), .gh (.drop [2])]) (.cut (.block 0 (.loop (.seq (.ops [ .op (some 17) none (.p (.bin .lss (.t 16) (.t 15)))]) (.seq (.cond (.t 17) (.skip) (.exit 0)) (.seq (.block 1 (.seq (.ops [ .op (some 18) none (.p (.ia 1 (.t 14) (.t 16))), .op (some 19) none (.p (.ld 1 false (.t 18))), .op (some 10) none (.p (.mv (.t 19))), .gh (.drop [18, 19])]) (.seq (.ops [ .op (some 21) none (.p (.mv (.t 1))), .op (some 22) none (.p (.mv (.t 0))), .op (some 23) none (.p (.mv (.t 10))), .op (some 24) none (.callv (.t 21) [(.t 22), (.t 23)]), .op (some 25) none (.call 103 [(.t 24)]), .op (some 20) none (.p (.mv (.t 25))), .op (some 26) none (.p (.ex (.t 20) 0)), .op (some 27) none (.p (.ex (.t 20) 1)), .op (some 0) none (.p (.mv (.t 26))), .op (some 8) none (.p (.mv (.t 27))), .gh (.drop [10, 20, 21, 22, 23, 24, 25, 26, 27])]) (.seq (.ops [ .op (some 28) none (.p (.mv (.t 8))), .op (some 29) none (.p (.bin .neq (.t 28) (.i .i64 (0)))), .gh (.drop [28])]) (.cond (.t 29) (.seq (.ops [ .op (some 30) none (.p (.mv (.t 8))), .op (some 6) none (.p (.mv .nil)), .op (some 7) none (.p (.mv (.t 30))), .gh (.drop [8, 30])]) (.ret)) (.skip)))))) (.ops [ .op (some 31) none (.p (.bin .add (.t 16) (.i .i64 (1)))), .op (some 16) none (.p (.mv (.t 31))), .gh (.drop [31])])))))))) (.seq (.ops [ .op (some 32) none (.p (.mv (.t 0))), .op (some 6) none (.p (.mv (.t 32))), .op (some 7) none (.p (.mv (.i .i64 (0)))), .gh (.drop [0, 32])]) (.ret)))))
theorem k108 : chkF Try.prog 108 3 [6, 7] c108 = true := by kernel_rfl

/- natural.Sum: arguments 1, results in [2, 3]; slots in use where its loops begin: [] -/
def c51 : MC := .seq (.ops [ .op (some 2) none (.p (.mv .nil)), .op (some 3) none (.p (.mv (.i .i64 (0)))), .gh (.drop [2, 3])]) (.seq (.ops [ .op (some 4) none (.p (.mv (.t 0))), .op (some 5) none (.call 108 [.nil, (.fn 97), (.t 4)]), .op (some 6) none (.p (.ex (.t 5) 0)), .op (some 7) none (.p (.ex (.t 5) 1)), .op (some 2) none (.p (.mv (.t 6))), .op (some 3) none (.p (.mv (.t 7))), .gh (.drop [0, 4, 5, 6, 7])]) (.ret))
theorem k51 : chkF Try.prog 51 1 [2, 3] c51 = true := by kernel_rfl

/- natural.Product: arguments 1, results in [2, 3]; slots in use where its loops begin: [] -/
def c53 : MC := .seq (.ops [ .op (some 2) none (.p (.mv .nil)), .op (some 3) none (.p (.mv (.i .i64 (0)))), .gh (.drop [2, 3])]) (.seq (.ops [ .op (some 4) none (.call 22 [(.i .u64 (1))]), .op (some 5) none (.p (.mv (.t 0))), .op (some 6) none (.call 108 [(.t 4), (.fn 107), (.t 5)]), .op (some 7) none (.p (.ex (.t 6) 0)), .op (some 8) none (.p (.ex (.t 6) 1)), .op (some 2) none (.p (.mv (.t 7))), .op (some 3) none (.p (.mv (.t 8))), .gh (.drop [0, 4, 5, 6, 7, 8])]) (.ret))
theorem k53 : chkF Try.prog 53 1 [2, 3] c53 = true := by kernel_rfl

/- sloperef1.Sum: arguments 1, results in [2, 3]; slots in use where its loops begin: [[0, 4], [0, 5, 7]] -/
def c52 : MC := .seq (.ops [ .op (some 2) none (.p (.mv .nil)), .op (some 3) none (.p (.mv (.i .i64 (0)))), .gh (.drop [2, 3])]) (.seq (.seq (.ops [ .op (some 4) none (.p (.mv (.i .i64 (0))))]) (.cut (.block 0 (.loop (.seq (.seq (.ops [ .op (some 8) none (.p (.mv (.t 4))), .op (some 9) none (.p (.mv (.t 0))), .op (some 10) none (.p (.len (.t 9))), .op (some 11) none (.p (.bin .lss (.t 8) (.t 10))), .gh (.drop [8, 9, 10])]) (.cond (.t 11) (.skip) (.exit 0))) (.seq (.block 1 (.seq (.ops [ .op (some 14) none (.p (.mv (.t 0))), .op (some 15) none (.p (.mv (.t 4))), .op (some 16) none (.p (.ia 1 (.t 14) (.t 15))), .op (some 17) none (.p (.ld 1 false (.t 16))), .op (some 18) none (.call 85 [(.t 17)]), .op (some 19) none (.p (.un .not (.t 18))), .gh (.drop [14, 15, 16, 17, 18])]) (.cond (.t 19) (.seq (.ops [ .op (some 2) none (.p (.mv .nil)), .op (some 3) none (.p (.mv (.i .i64 (20))))]) (.ret)) (.skip)))) (.ops [ .op (some 12) none (.p (.mv (.t 4))), .op (some 13) none (.p (.bin .add (.t 12) (.i .i64 (1)))), .op (some 4) none (.p (.mv (.t 13))), .gh (.drop [12, 13])]))))))) (.seq (.ops [ .op (some 5) none (.p (.mv .nil))]) (.seq (.ops [ .op (some 6) none (.p (.mv (.i .i64 (0)))), .gh (.drop [6])]) (.seq (.seq (.ops [ .op (some 7) none (.p (.mv (.i .i64 (0))))]) (.cut (.block 2 (.loop (.seq (.seq (.ops [ .op (some 20) none (.p (.mv (.t 7))), .op (some 21) none (.p (.mv (.t 0))), .op (some 22) none (.p (.len (.t 21))), .op (some 23) none (.p (.bin .lss (.t 20) (.t 22))), .gh (.drop [20, 21, 22])]) (.cond (.t 23) (.skip) (.exit 2))) (.seq (.block 3 (.seq (.ops [ .op (some 27) none (.p (.mv (.t 5))), .op (some 28) none (.p (.mv (.t 0))), .op (some 29) none (.p (.mv (.t 7))), .op (some 30) none (.p (.ia 1 (.t 28) (.t 29))), .op (some 31) none (.p (.ld 1 false (.t 30))), .op (some 32) none (.call 39 [(.t 27), (.t 31)]), .op (some 26) none (.p (.mv (.t 32))), .op (some 33) none (.p (.ex (.t 26) 0)), .op (some 34) none (.p (.ex (.t 26) 1)), .op (some 5) none (.p (.mv (.t 33))), .op (some 6) none (.p (.mv (.t 34))), .gh (.drop [26, 27, 28, 29, 30, 31, 32, 33, 34])]) (.seq (.ops [ .op (some 35) none (.p (.mv (.t 6))), .op (some 36) none (.p (.bin .neq (.t 35) (.i .i64 (0)))), .gh (.drop [35])]) (.cond (.t 36) (.seq (.ops [ .op (some 37) none (.p (.mv (.t 6))), .op (some 2) none (.p (.mv .nil)), .op (some 3) none (.p (.mv (.t 37))), .gh (.drop [6, 37])]) (.ret)) (.skip))))) (.ops [ .op (some 24) none (.p (.mv (.t 7))), .op (some 25) none (.p (.bin .add (.t 24) (.i .i64 (1)))), .op (some 7) none (.p (.mv (.t 25))), .gh (.drop [24, 25])]))))))) (.seq (.ops [ .op (some 38) none (.p (.mv (.t 5))), .op (some 2) none (.p (.mv (.t 38))), .op (some 3) none (.p (.mv (.i .i64 (0)))), .gh (.drop [5, 38])]) (.ret))))))
theorem k52 : chkF Try.prog 52 1 [2, 3] c52 = true := by kernel_rfl

/- sloperef1.Product: arguments 1, results in [2, 3]; slots in use where its loops begin: [[0, 4], [0, 5, 7]] -/
def c54 : MC := .seq (.ops [ .op (some 2) none (.p (.mv .nil)), .op (some 3) none (.p (.mv (.i .i64 (0)))), .gh (.drop [2, 3])]) (.seq (.seq (.ops [ .op (some 4) none (.p (.mv (.i .i64 (0))))]) (.cut (.block 0 (.loop (.seq (.seq (.ops [ .op (some 8) none (.p (.mv (.t 4))), .op (some 9) none (.p (.mv (.t 0))), .op (some 10) none (.p (.len (.t 9))), .op (some 11) none (.p (.bin .lss (.t 8) (.t 10))), .gh (.drop [8, 9, 10])]) (.cond (.t 11) (.skip) (.exit 0))) (.seq (.block 1 (.seq (.ops [ .op (some 14) none (.p (.mv (.t 0))), .op (some 15) none (.p (.mv (.t 4))), .op (some 16) none (.p (.ia 1 (.t 14) (.t 15))), .op (some 17) none (.p (.ld 1 false (.t 16))), .op (some 18) none (.call 85 [(.t 17)]), .op (some 19) none (.p (.un .not (.t 18))), .gh (.drop [14, 15, 16, 17, 18])]) (.cond (.t 19) (.seq (.ops [ .op (some 2) none (.p (.mv .nil)), .op (some 3) none (.p (.mv (.i .i64 (20))))]) (.ret)) (.skip)))) (.ops [ .op (some 12) none (.p (.mv (.t 4))), .op (some 13) none (.p (.bin .add (.t 12) (.i .i64 (1)))), .op (some 4) none (.p (.mv (.t 13))), .gh (.drop [12, 13])]))))))) (.seq (.ops [ .op (some 20) none (.call 25 [(.i .u64 (1))]), .op (some 5) none (.p (.mv (.t 20))), .gh (.drop [20])]) (.seq (.ops [ .op (some 6) none (.p (.mv (.i .i64 (0)))), .gh (.drop [6])]) (.seq (.seq (.ops [ .op (some 7) none (.p (.mv (.i .i64 (0))))]) (.cut (.block 2 (.loop (.seq (.seq (.ops [ .op (some 21) none (.p (.mv (.t 7))), .op (some 22) none (.p (.mv (.t 0))), .op (some 23) none (.p (.len (.t 22))), .op (some 24) none (.p (.bin .lss (.t 21) (.t 23))), .gh (.drop [21, 22, 23])]) (.cond (.t 24) (.skip) (.exit 2))) (.seq (.block 3 (.seq (.ops [ .op (some 28) none (.p (.mv (.t 5))), .op (some 29) none (.p (.mv (.t 0))), .op (some 30) none (.p (.mv (.t 7))), .op (some 31) none (.p (.ia 1 (.t 29) (.t 30))), .op (some 32) none (.p (.ld 1 false (.t 31))), .op (some 33) none (.call 45 [(.t 28), (.t 32)]), .op (some 27) none (.p (.mv (.t 33))), .op (some 34) none (.p (.ex (.t 27) 0)), .op (some 35) none (.p (.ex (.t 27) 1)), .op (some 5) none (.p (.mv (.t 34))), .op (some 6) none (.p (.mv (.t 35))), .gh (.drop [27, 28, 29, 30, 31, 32, 33, 34, 35])]) (.seq (.ops [ .op (some 36) none (.p (.mv (.t 6))), .op (some 37) none (.p (.bin .neq (.t 36) (.i .i64 (0)))), .gh (.drop [36])]) (.cond (.t 37) (.seq (.ops [ .op (some 38) none (.p (.mv (.t 6))), .op (some 2) none (.p (.mv .nil)), .op (some 3) none (.p (.mv (.t 38))), .gh (.drop [6, 38])]) (.ret)) (.skip))))) (.ops [ .op (some 25) none (.p (.mv (.t 7))), .op (some 26) none (.p (.bin .add (.t 25) (.i .i64 (1)))), .op (some 7) none (.p (.mv (.t 26))), .gh (.drop [25, 26])]))))))) (.seq (.ops [ .op (some 39) none (.p (.mv (.t 5))), .op (some 2) none (.p (.mv (.t 39))), .op (some 3) none (.p (.mv (.i .i64 (0)))), .gh (.drop [5, 39])]) (.ret))))))
theorem k54 : chkF Try.prog 54 1 [2, 3] c54 = true := by kernel_rfl

/- slopelaw1.kept: arguments 2, results in [4]; slots in use where its loops begin: [[0, 1, 5]] -/
def c55 : MC := .seq (.ops [ .op (some 4) none (.p (.mv (.b false))), .gh (.drop [4])]) (.seq (.seq (.ops [ .op (some 6) none (.p (.mv (.t 0))), .op (some 7) none (.p (.len (.t 6))), .op (some 8) none (.p (.mv (.t 1))), .op (some 9) none (.p (.len (.t 8))), .op (some 10) none (.p (.bin .neq (.t 7) (.t 9))), .gh (.drop [6, 7, 8, 9])]) (.cond (.t 10) (.seq (.ops [ .op (some 4) none (.p (.mv (.b false)))]) (.ret)) (.skip))) (.seq (.seq (.ops [ .op (some 5) none (.p (.mv (.i .i64 (0))))]) (.cut (.block 0 (.loop (.seq (.seq (.ops [ .op (some 11) none (.p (.mv (.t 5))), .op (some 12) none (.p (.mv (.t 0))), .op (some 13) none (.p (.len (.t 12))), .op (some 14) none (.p (.bin .lss (.t 11) (.t 13))), .gh (.drop [11, 12, 13])]) (.cond (.t 14) (.skip) (.exit 0))) (.seq (.block 1 (.seq (.ops [ .op (some 17) none (.p (.mv (.t 0))), .op (some 18) none (.p (.mv (.t 5))), .op (some 19) none (.p (.ia 1 (.t 17) (.t 18))), .op (some 20) none (.p (.ld 1 false (.t 19))), .op (some 21) none (.p (.mv (.t 1))), .op (some 22) none (.p (.mv (.t 5))), .op (some 23) none (.p (.ia 1 (.t 21) (.t 22))), .op (some 24) none (.p (.ld 1 false (.t 23))), .op (some 25) none (.call 24 [(.t 20), (.t 24)]), .op (some 26) none (.p (.un .not (.t 25)))]) (.gh (.drop [17, 18, 19, 20, 21, 22, 23, 24, 25]) (.cond (.t 26) (.seq (.ops [ .op (some 4) none (.p (.mv (.b false)))]) (.ret)) (.skip))))) (.ops [ .op (some 15) none (.p (.mv (.t 5))), .op (some 16) none (.p (.bin .add (.t 15) (.i .i64 (1)))), .op (some 5) none (.p (.mv (.t 16))), .gh (.drop [15, 16])]))))))) (.seq (.ops [ .op (some 4) none (.p (.mv (.b true)))]) (.ret))))
theorem k55 : chkF Try.prog 55 2 [4] c55 = true := by kernel_rfl

/- slopelaw1.many: arguments 2, results in [4]; slots in use where its loops begin: [[0, 1, 5, 6]] -/
def c50 : MC := .seq (.ops [ .op (some 4) none (.p (.mv .nil)), .gh (.drop [4])]) (.seq (.ops [ .op (some 5) none (.p (.mv .nil))]) (.seq (.seq (.ops [ .op (some 6) none (.p (.mv (.i .i64 (0))))]) (.cut (.block 0 (.loop (.seq (.seq (.ops [ .op (some 7) none (.p (.mv (.t 6))), .op (some 8) none (.p (.mv (.t 1))), .op (some 9) none (.p (.len (.t 8))), .op (some 10) none (.p (.bin .lss (.t 7) (.t 9))), .gh (.drop [7, 8, 9])]) (.cond (.t 10) (.skip) (.exit 0))) (.seq (.block 1 (.ops [ .op (some 13) none (.p (.mv (.t 5))), .op (some 14) none (.p (.mv (.t 0))), .op (some 15) none (.p (.mv (.t 1))), .op (some 16) none (.p (.mv (.t 6))), .op (some 17) none (.p (.ia 1 (.t 15) (.t 16))), .op (some 18) none (.p (.ld 1 false (.t 17))), .op (some 19) none (.call 27 [(.t 14), (.t 18)]), .op (some 20) none (.w (.bs 24 1 [(.t 19)])), .op (some 21) none (.w (.ap 24 1 24 (encR 1 (encI .u32)) (.t 13) (.t 20))), .op (some 5) none (.p (.mv (.t 21))), .gh (.drop [13, 14, 15, 16, 17, 18, 19, 20, 21])])) (.ops [ .op (some 11) none (.p (.mv (.t 6))), .op (some 12) none (.p (.bin .add (.t 11) (.i .i64 (1)))), .op (some 6) none (.p (.mv (.t 12))), .gh (.drop [11, 12])]))))))) (.seq (.ops [ .op (some 22) none (.p (.mv (.t 5))), .op (some 4) none (.p (.mv (.t 22))), .gh (.drop [5, 22])]) (.ret))))
theorem k50 : chkF Try.prog 50 2 [4] c50 = true := by kernel_rfl



/-- from the left on -/
def foldG (F : Int → Int → Int) : List Int → List (List Int) → List Int × Int
  | v, [] => (v, 0)
  | v, n :: t => if fitE (F (val v) (val n)) = 0 then foldG F (fitL (F (val v) (val n))) t else ([], fitE (F (val v) (val n)))
def foldL (F : Int → Int → Int) (v : List Int) (L : List (List Int)) : List Int := if ∀ x, x ∈ L → may x then (foldG F v L).1 else []
def foldE (F : Int → Int → Int) (v : List Int) (L : List (List Int)) : Int := if ∀ x, x ∈ L → may x then (foldG F v L).2 else 20

theorem Ent.nilr0 {env : Env} {hp : Heap} {α : Type} (m : Nat) (fr : Bool) (sz : Nat) (enc : α → List DV) (hm : eget env m = .nilS) : Ent ⟨env, hp⟩ ⟨eset env m (.ro fr sz enc ([] : List α)), hp⟩ := fun B a w ρ h => by
  refine ⟨ρ, h.defers, h.size, h.ext, h.inj, h.lt, h.wr, h.hp, fun n => ?_, h.fixN, h.fix⟩
  show RepV _ (eget (eset env m _) n) _
  rw [eget_eset]
  by_cases e : m = n
  · subst e
    rw [if_pos rfl]
    have h1 := h.env m
    have h1 : RepV _ (eget env m) _ := h1
    rw [hm] at h1
    have h1 : a.tmps.getD m undef = .slice none 0 0 := h1
    rw [h1]
    exact nil_rep rfl
  · rw [if_neg e]; exact h.env n

theorem foldG_step {F : Int → Int → Int} {v : List Int} {L : List (List Int)} {i : Nat} {e : List Int} (h : L[i]? = some e) : foldG F v (L.drop i) = if fitE (F (val v) (val e)) = 0 then foldG F (fitL (F (val v) (val e))) (L.drop (i + 1)) else ([], fitE (F (val v) (val e))) := by
  obtain ⟨h1, h2⟩ := get_of_some h
  rw [List.drop_eq_getElem_cons h1, h2, foldG]

theorem natural_fold (F : Int → Int → Int) (f : FuncId) (hf : okFn Try.prog f = true)
    (hs : ∀ (fr fr' : Bool) (a b : List Int), a.length ≤ 2048 → b.length ≤ 2048 → FSpec0 Try.prog f [uL fr a, uL fr' b] (fun r => ∃ zs, r = uL true zs ∧ zs.length ≤ 1000000 ∧ val zs = F (val a) (val b)))
    (fr : Bool) (v : List Int) (L : List (List Int)) (mv : may v) : FSpec0 Try.prog 108 [uL true v, .fn f, uLL fr L] (fun r => r = lE (foldL F v L) (foldE F v L)) := by
  refine fspec0_of_run k108 ?_
  simp only [uL, c108, W1, W2, W3, popTo, memb, res, wres, env0, byteAt, optI, cutB, cutL, sliceR, strR, ldCells, ldR, iaR, faR, lenR, lenSR, ixR, exR, nchkR, mxR, csR, up, ZV.av, ZV.fit, zfits, fits, fitsL, cellsOf, down, downL, downLL, stR, mkR, bsR, boxR, alR, apR, cpR, srcQ, solid, killC, killV, killE, killO, killH, hget, hset, hdel, pubV, pubC, pubO, renV, renC, renO, reduceIte, reduceCtorEq, Nat.reduceEqDiff, Nat.reduceLT, Nat.reduceAdd, Int.reduceToNat, Nat.reduceLeDiff, Int.reducePow, Int.reduceLE, Int.reduceLT]
  refine call1 (natural_all fr L) (by repeat (first | exact subs_nil | refine subs_int ?_ | refine subs_ro ?_ | refine subs_bool ?_ | refine subs_str ?_ | refine subs_nilro ?_ | refine subs_lits rfl ?_ | refine subs_all rfl rfl (by simp) ?_ | refine subs_own rfl rfl ?_ | refine subs_fn ?_)) ?_
  simp only [uL, W1, W2, W3, popTo, memb, res, wres, env0, byteAt, optI, cutB, cutL, sliceR, strR, ldCells, ldR, iaR, faR, lenR, lenSR, ixR, exR, nchkR, mxR, csR, up, ZV.av, ZV.fit, zfits, fits, fitsL, cellsOf, down, downL, downLL, stR, mkR, bsR, boxR, alR, apR, cpR, srcQ, solid, killC, killV, killE, killO, killH, hget, hset, hdel, pubV, pubC, pubO, renV, renC, renO, reduceIte, reduceCtorEq, Nat.reduceEqDiff, Nat.reduceLT, Nat.reduceAdd, Int.reduceToNat, Nat.reduceLeDiff, Int.reducePow, Int.reduceLE, Int.reduceLT]
  refine ⟨fun h => ret1' (by rw [foldL, foldE, if_neg h, if_neg h]; simp only [uL, retR, retA, retL, ret1, ret1L, eget, hget, hset, St.set, eset, List.map_cons, List.map_nil, reduceIte, reduceCtorEq, Nat.reduceEqDiff, Nat.reduceLT, true_and, and_true, false_or, or_true, true_or, List.drop_zero, List.take_length, scalE_I, scalE_B, scalE_S]; rfl), fun h _ => ?_⟩
  have hm := Classical.not_not.1 h
  rw [foldL, foldE, if_pos hm, if_pos hm]
  refine cut_intro (fun st => (foldG F v L).2 = 0 ∧ st = ⟨[(0, uL true (foldG F v L).1)], []⟩) ?_ ?_
  · simp only [W1, W2, W3, popTo, memb, res, wres, env0, byteAt, optI, cutB, cutL, sliceR, strR, ldCells, ldR, iaR, faR, lenR, lenSR, ixR, exR, nchkR, mxR, csR, up, ZV.av, ZV.fit, zfits, fits, fitsL, cellsOf, down, downL, downLL, stR, mkR, bsR, boxR, alR, apR, cpR, srcQ, solid, killC, killV, killE, killO, killH, hget, hset, hdel, pubV, pubC, pubO, renV, renC, renO, reduceIte, reduceCtorEq, Nat.reduceEqDiff, Nat.reduceLT, Nat.reduceAdd, Int.reduceToNat, Nat.reduceLeDiff, Int.reducePow, Int.reduceLE, Int.reduceLT]
    refine loop_intro (fun m st => ∃ (i : Nat) (u : List Int), i ≤ L.length ∧ m = L.length - i ∧ may u ∧ foldG F v L = foldG F u (L.drop i) ∧ st = ⟨[(0, uL true u), (1, .fn f), (14, uLL fr L), (15, .int .i64 L.length), (16, .int .i64 i)], []⟩) L.length
      [(0, uL true v), (1, .fn f), (14, uLL fr L), (15, .int .i64 L.length), (16, .int .i64 (0 : Nat))] (by simp [eget, uL]) ⟨0, v, by omega, by omega, mv, by simp, rfl⟩ ?_
    rintro m st ⟨i, u, hi, rfl, mu, hg, rfl⟩
    simp only [uL, W1, W2, W3, popTo, memb, res, wres, env0, byteAt, optI, cutB, cutL, sliceR, strR, ldCells, ldR, iaR, faR, lenR, lenSR, ixR, exR, nchkR, mxR, csR, up, ZV.av, ZV.fit, zfits, fits, fitsL, cellsOf, down, downL, downLL, stR, mkR, bsR, boxR, alR, apR, cpR, srcQ, solid, killC, killV, killE, killO, killH, hget, hset, hdel, pubV, pubC, pubO, renV, renC, renO, reduceIte, reduceCtorEq, Nat.reduceEqDiff, Nat.reduceLT, Nat.reduceAdd, Int.reduceToNat, Nat.reduceLeDiff, Int.reducePow, Int.reduceLE, Int.reduceLT]
    refine ⟨fun h0 => ⟨by omega, fun e he => ?_⟩, fun h0 => ?_⟩
    · have me := hm e (List.mem_of_getElem? he)
      rw [foldG_step he] at hg
      refine ⟨hf, callK0 (hs true fr u e mu.1 me.1) (by repeat (first | exact subs_nil | refine subs_int ?_ | refine subs_ro ?_ | refine subs_bool ?_ | refine subs_str ?_ | refine subs_nilro ?_ | refine subs_lits rfl ?_ | refine subs_all rfl rfl (by simp) ?_ | refine subs_own rfl rfl ?_ | refine subs_fn ?_)) ?_⟩
      rintro r ⟨zs, rfl, hz, hv⟩
      simp only [uL, W1, W2, W3, popTo, memb, res, wres, env0, byteAt, optI, cutB, cutL, sliceR, strR, ldCells, ldR, iaR, faR, lenR, lenSR, ixR, exR, nchkR, mxR, csR, up, ZV.av, ZV.fit, zfits, fits, fitsL, cellsOf, down, downL, downLL, stR, mkR, bsR, boxR, alR, apR, cpR, srcQ, solid, killC, killV, killE, killO, killH, hget, hset, hdel, pubV, pubC, pubO, renV, renC, renO, reduceIte, reduceCtorEq, Nat.reduceEqDiff, Nat.reduceLT, Nat.reduceAdd, Int.reduceToNat, Nat.reduceLeDiff, Int.reducePow, Int.reduceLE, Int.reduceLT]
      refine call1 (natural_fit true zs (by omega)) (by repeat (first | exact subs_nil | refine subs_int ?_ | refine subs_ro ?_ | refine subs_bool ?_ | refine subs_str ?_ | refine subs_nilro ?_ | refine subs_lits rfl ?_ | refine subs_all rfl rfl (by simp) ?_ | refine subs_own rfl rfl ?_ | refine subs_fn ?_)) ?_
      rw [hv]
      simp only [uL, W1, W2, W3, popTo, memb, res, wres, env0, byteAt, optI, cutB, cutL, sliceR, strR, ldCells, ldR, iaR, faR, lenR, lenSR, ixR, exR, nchkR, mxR, csR, up, ZV.av, ZV.fit, zfits, fits, fitsL, cellsOf, down, downL, downLL, stR, mkR, bsR, boxR, alR, apR, cpR, srcQ, solid, killC, killV, killE, killO, killH, hget, hset, hdel, pubV, pubC, pubO, renV, renC, renO, reduceIte, reduceCtorEq, Nat.reduceEqDiff, Nat.reduceLT, Nat.reduceAdd, Int.reduceToNat, Nat.reduceLeDiff, Int.reducePow, Int.reduceLE, Int.reduceLT]
      refine ⟨fun h1 => ret1' ?_, fun h1 => ⟨by omega, ?_⟩⟩
      · rw [if_neg h1] at hg
        rw [hg]
        simp only [uL, retR, retA, retL, ret1, ret1L, eget, hget, hset, St.set, eset, List.map_cons, List.map_nil, reduceIte, reduceCtorEq, Nat.reduceEqDiff, Nat.reduceLT, true_and, and_true, false_or, or_true, true_or, List.drop_zero, List.take_length, scalE_I, scalE_B, scalE_S]; rfl
      · rw [if_pos (Classical.not_not.1 h1)] at hg
        exact back_intro [(0, uL true (fitL (F (val u) (val e)))), (1, .fn f), (14, uLL fr L), (15, .int .i64 L.length), (16, .int .i64 ((i + 1 : Nat) : Int))] (by simp [eget, uL]) (by omega) ⟨i + 1, _, by omega, rfl, fitL_may _, hg, rfl⟩
    · rw [List.drop_of_length_le (by omega), foldG] at hg
      exact join_intro [(0, uL true (foldG F v L).1)] (by rw [hg]; simp [eget, uL]) ⟨by rw [hg], rfl⟩
  rintro st ⟨h0, rfl⟩
  simp only [uL, W1, W2, W3, popTo, memb, res, wres, env0, byteAt, optI, cutB, cutL, sliceR, strR, ldCells, ldR, iaR, faR, lenR, lenSR, ixR, exR, nchkR, mxR, csR, up, ZV.av, ZV.fit, zfits, fits, fitsL, cellsOf, down, downL, downLL, stR, mkR, bsR, boxR, alR, apR, cpR, srcQ, solid, killC, killV, killE, killO, killH, hget, hset, hdel, pubV, pubC, pubO, renV, renC, renO, reduceIte, reduceCtorEq, Nat.reduceEqDiff, Nat.reduceLT, Nat.reduceAdd, Int.reduceToNat, Nat.reduceLeDiff, Int.reducePow, Int.reduceLE, Int.reduceLT]
  exact ret1' (by rw [h0]; simp only [uL, retR, retA, retL, ret1, ret1L, eget, hget, hset, St.set, eset, List.map_cons, List.map_nil, reduceIte, reduceCtorEq, Nat.reduceEqDiff, Nat.reduceLT, true_and, and_true, false_or, or_true, true_or, List.drop_zero, List.take_length, scalE_I, scalE_B, scalE_S])

theorem from_one' : fromL 1 = [1] := by
  unfold fromL
  rw [trimL_limbs (by intro x hx; simp at hx; omega)]
  exact limbs_cons (by simp [val]) (by intro x hx; simp at hx; omega) (by simp [top])

theorem natural_Sum (fr : Bool) (L : List (List Int)) : FSpec0 Try.prog 51 [uLL fr L] (fun r => r = lE (foldL (· + ·) [] L) (foldE (· + ·) [] L)) := by
  refine fspec0_of_run k51 ?_
  simp only [uL, c51, W1, W2, W3, popTo, memb, res, wres, env0, byteAt, optI, cutB, cutL, sliceR, strR, ldCells, ldR, iaR, faR, lenR, lenSR, ixR, exR, nchkR, mxR, csR, up, ZV.av, ZV.fit, zfits, fits, fitsL, cellsOf, down, downL, downLL, stR, mkR, bsR, boxR, alR, apR, cpR, srcQ, solid, killC, killV, killE, killO, killH, hget, hset, hdel, pubV, pubC, pubO, renV, renC, renO, reduceIte, reduceCtorEq, Nat.reduceEqDiff, Nat.reduceLT, Nat.reduceAdd, Int.reduceToNat, Nat.reduceLeDiff, Int.reducePow, Int.reduceLE, Int.reduceLT]
  refine call1 (natural_fold (· + ·) 97 (by kernel_rfl) (fun fr fr' a b ha hb => FSpec0.mono (natural_plus fr fr' a b (by omega) (by omega)) fun r ⟨zs, h1, h2, h3, h4⟩ => ⟨zs, h1, by omega, h4⟩) fr [] L (by simp [may])) (by repeat (first | exact subs_nil | refine subs_int ?_ | refine subs_ro ?_ | refine subs_bool ?_ | refine subs_str ?_ | refine subs_nilro ?_ | refine subs_lits rfl ?_ | refine subs_all rfl rfl (by simp) ?_ | refine subs_own rfl rfl ?_ | refine subs_fn ?_)) ?_
  simp only [uL, W1, W2, W3, popTo, memb, res, wres, env0, byteAt, optI, cutB, cutL, sliceR, strR, ldCells, ldR, iaR, faR, lenR, lenSR, ixR, exR, nchkR, mxR, csR, up, ZV.av, ZV.fit, zfits, fits, fitsL, cellsOf, down, downL, downLL, stR, mkR, bsR, boxR, alR, apR, cpR, srcQ, solid, killC, killV, killE, killO, killH, hget, hset, hdel, pubV, pubC, pubO, renV, renC, renO, reduceIte, reduceCtorEq, Nat.reduceEqDiff, Nat.reduceLT, Nat.reduceAdd, Int.reduceToNat, Nat.reduceLeDiff, Int.reducePow, Int.reduceLE, Int.reduceLT]
  exact ret1' (by simp only [uL, retR, retA, retL, ret1, ret1L, eget, hget, hset, St.set, eset, List.map_cons, List.map_nil, reduceIte, reduceCtorEq, Nat.reduceEqDiff, Nat.reduceLT, true_and, and_true, false_or, or_true, true_or, List.drop_zero, List.take_length, scalE_I, scalE_B, scalE_S])

theorem natural_Product (fr : Bool) (L : List (List Int)) : FSpec0 Try.prog 53 [uLL fr L] (fun r => r = lE (foldL (· * ·) [1] L) (foldE (· * ·) [1] L)) := by
  refine fspec0_of_run k53 ?_
  simp only [uL, c53, W1, W2, W3, popTo, memb, res, wres, env0, byteAt, optI, cutB, cutL, sliceR, strR, ldCells, ldR, iaR, faR, lenR, lenSR, ixR, exR, nchkR, mxR, csR, up, ZV.av, ZV.fit, zfits, fits, fitsL, cellsOf, down, downL, downLL, stR, mkR, bsR, boxR, alR, apR, cpR, srcQ, solid, killC, killV, killE, killO, killH, hget, hset, hdel, pubV, pubC, pubO, renV, renC, renO, reduceIte, reduceCtorEq, Nat.reduceEqDiff, Nat.reduceLT, Nat.reduceAdd, Int.reduceToNat, Nat.reduceLeDiff, Int.reducePow, Int.reduceLE, Int.reduceLT]
  refine call1 (natural_From 1) (by repeat (first | exact subs_nil | refine subs_int ?_ | refine subs_ro ?_ | refine subs_bool ?_ | refine subs_str ?_ | refine subs_nilro ?_ | refine subs_lits rfl ?_ | refine subs_all rfl rfl (by simp) ?_ | refine subs_own rfl rfl ?_ | refine subs_fn ?_)) ?_
  rw [from_one']
  simp only [uL, W1, W2, W3, popTo, memb, res, wres, env0, byteAt, optI, cutB, cutL, sliceR, strR, ldCells, ldR, iaR, faR, lenR, lenSR, ixR, exR, nchkR, mxR, csR, up, ZV.av, ZV.fit, zfits, fits, fitsL, cellsOf, down, downL, downLL, stR, mkR, bsR, boxR, alR, apR, cpR, srcQ, solid, killC, killV, killE, killO, killH, hget, hset, hdel, pubV, pubC, pubO, renV, renC, renO, reduceIte, reduceCtorEq, Nat.reduceEqDiff, Nat.reduceLT, Nat.reduceAdd, Int.reduceToNat, Nat.reduceLeDiff, Int.reducePow, Int.reduceLE, Int.reduceLT]
  refine call1 (natural_fold (· * ·) 107 (by kernel_rfl) (fun fr fr' a b ha hb => FSpec0.mono (natural_times fr fr' a b (by omega)) fun r ⟨zs, h1, h2, h3, h4⟩ => ⟨zs, h1, by omega, h4⟩) fr [1] L (by simp [may])) (by repeat (first | exact subs_nil | refine subs_int ?_ | refine subs_ro ?_ | refine subs_bool ?_ | refine subs_str ?_ | refine subs_nilro ?_ | refine subs_lits rfl ?_ | refine subs_all rfl rfl (by simp) ?_ | refine subs_own rfl rfl ?_ | refine subs_fn ?_)) ?_
  simp only [uL, W1, W2, W3, popTo, memb, res, wres, env0, byteAt, optI, cutB, cutL, sliceR, strR, ldCells, ldR, iaR, faR, lenR, lenSR, ixR, exR, nchkR, mxR, csR, up, ZV.av, ZV.fit, zfits, fits, fitsL, cellsOf, down, downL, downLL, stR, mkR, bsR, boxR, alR, apR, cpR, srcQ, solid, killC, killV, killE, killO, killH, hget, hset, hdel, pubV, pubC, pubO, renV, renC, renO, reduceIte, reduceCtorEq, Nat.reduceEqDiff, Nat.reduceLT, Nat.reduceAdd, Int.reduceToNat, Nat.reduceLeDiff, Int.reducePow, Int.reduceLE, Int.reduceLT]
  exact ret1' (by simp only [uL, retR, retA, retL, ret1, ret1L, eget, hget, hset, St.set, eset, List.map_cons, List.map_nil, reduceIte, reduceCtorEq, Nat.reduceEqDiff, Nat.reduceLT, true_and, and_true, false_or, or_true, true_or, List.drop_zero, List.take_length, scalE_I, scalE_B, scalE_S])

theorem mayL_of {L : List (List Int)} {i : Nat} (hi : i ≤ L.length) (h : ∀ x, x ∈ L.take i → may x) {e : List Int} (he : L[i]? = some e) (me : may e) : ∀ x, x ∈ L.take (i + 1) → may x := fun x hx => by
  rw [take_step he] at hx
  rcases List.mem_append.1 hx with h1 | h1
  · exact h x h1
  · rw [List.mem_singleton.1 h1]; exact me

theorem sloperef1_Sum (fr : Bool) (L : List (List Int)) : FSpec0 Try.prog 52 [uLL fr L] (fun r => r = lE (foldL (· + ·) [] L) (foldE (· + ·) [] L)) := by
  refine fspec0_of_run k52 ?_
  simp only [uL, c52, W1, W2, W3, popTo, memb, res, wres, env0, byteAt, optI, cutB, cutL, sliceR, strR, ldCells, ldR, iaR, faR, lenR, lenSR, ixR, exR, nchkR, mxR, csR, up, ZV.av, ZV.fit, zfits, fits, fitsL, cellsOf, down, downL, downLL, stR, mkR, bsR, boxR, alR, apR, cpR, srcQ, solid, killC, killV, killE, killO, killH, hget, hset, hdel, pubV, pubC, pubO, renV, renC, renO, reduceIte, reduceCtorEq, Nat.reduceEqDiff, Nat.reduceLT, Nat.reduceAdd, Int.reduceToNat, Nat.reduceLeDiff, Int.reducePow, Int.reduceLE, Int.reduceLT]
  refine cut_intro (fun st => (∀ x, x ∈ L → may x) ∧ st = ⟨[(0, uLL fr L)], []⟩) ?_ ?_
  · simp only [W1, W2, W3, popTo, memb, res, wres, env0, byteAt, optI, cutB, cutL, sliceR, strR, ldCells, ldR, iaR, faR, lenR, lenSR, ixR, exR, nchkR, mxR, csR, up, ZV.av, ZV.fit, zfits, fits, fitsL, cellsOf, down, downL, downLL, stR, mkR, bsR, boxR, alR, apR, cpR, srcQ, solid, killC, killV, killE, killO, killH, hget, hset, hdel, pubV, pubC, pubO, renV, renC, renO, reduceIte, reduceCtorEq, Nat.reduceEqDiff, Nat.reduceLT, Nat.reduceAdd, Int.reduceToNat, Nat.reduceLeDiff, Int.reducePow, Int.reduceLE, Int.reduceLT]
    refine loop_intro (fun m st => ∃ i : Nat, i ≤ L.length ∧ m = L.length - i ∧ (∀ x, x ∈ L.take i → may x) ∧ st = ⟨[(0, uLL fr L), (4, .int .i64 i)], []⟩) L.length
      [(0, uLL fr L), (4, .int .i64 (0 : Nat))] (by simp [eget]) ⟨0, by omega, by omega, by simp, rfl⟩ ?_
    rintro m st ⟨i, hi, rfl, hm, rfl⟩
    simp only [uL, W1, W2, W3, popTo, memb, res, wres, env0, byteAt, optI, cutB, cutL, sliceR, strR, ldCells, ldR, iaR, faR, lenR, lenSR, ixR, exR, nchkR, mxR, csR, up, ZV.av, ZV.fit, zfits, fits, fitsL, cellsOf, down, downL, downLL, stR, mkR, bsR, boxR, alR, apR, cpR, srcQ, solid, killC, killV, killE, killO, killH, hget, hset, hdel, pubV, pubC, pubO, renV, renC, renO, reduceIte, reduceCtorEq, Nat.reduceEqDiff, Nat.reduceLT, Nat.reduceAdd, Int.reduceToNat, Nat.reduceLeDiff, Int.reducePow, Int.reduceLE, Int.reduceLT]
    refine fun _ => ⟨fun h0 => ⟨by omega, fun e he => ?_⟩, fun h0 => join_intro _ (by simp [eget]) ⟨by rw [List.take_of_length_le (by omega)] at hm; exact hm, rfl⟩⟩
    refine call1 (sloperef1_May fr e) (by repeat (first | exact subs_nil | refine subs_int ?_ | refine subs_ro ?_ | refine subs_bool ?_ | refine subs_str ?_ | refine subs_nilro ?_ | refine subs_lits rfl ?_ | refine subs_all rfl rfl (by simp) ?_ | refine subs_own rfl rfl ?_ | refine subs_fn ?_)) ?_
    simp only [uL, W1, W2, W3, popTo, memb, res, wres, env0, byteAt, optI, cutB, cutL, sliceR, strR, ldCells, ldR, iaR, faR, lenR, lenSR, ixR, exR, nchkR, mxR, csR, up, ZV.av, ZV.fit, zfits, fits, fitsL, cellsOf, down, downL, downLL, stR, mkR, bsR, boxR, alR, apR, cpR, srcQ, solid, killC, killV, killE, killO, killH, hget, hset, hdel, pubV, pubC, pubO, renV, renC, renO, reduceIte, reduceCtorEq, Nat.reduceEqDiff, Nat.reduceLT, Nat.reduceAdd, Int.reduceToNat, Nat.reduceLeDiff, Int.reducePow, Int.reduceLE, Int.reduceLT]
    refine ⟨fun h1 => ret1' ?_, fun h1 => ⟨by omega, back_intro [(0, uLL fr L), (4, .int .i64 ((i + 1 : Nat) : Int))] (by simp [eget]) (by omega) ⟨i + 1, by omega, rfl, mayL_of hi hm he (Classical.not_not.1 h1), rfl⟩⟩⟩
    have hn : ¬ ∀ x, x ∈ L → may x := fun h => h1 (h e (List.mem_of_getElem? he))
    rw [foldL, foldE, if_neg hn, if_neg hn]
    simp only [uL, retR, retA, retL, ret1, ret1L, eget, hget, hset, St.set, eset, List.map_cons, List.map_nil, reduceIte, reduceCtorEq, Nat.reduceEqDiff, Nat.reduceLT, true_and, and_true, false_or, or_true, true_or, List.drop_zero, List.take_length, scalE_I, scalE_B, scalE_S]; rfl
  rintro st ⟨hm, rfl⟩
  rw [foldL, foldE, if_pos hm, if_pos hm]
  simp only [uL, W1, W2, W3, popTo, memb, res, wres, env0, byteAt, optI, cutB, cutL, sliceR, strR, ldCells, ldR, iaR, faR, lenR, lenSR, ixR, exR, nchkR, mxR, csR, up, ZV.av, ZV.fit, zfits, fits, fitsL, cellsOf, down, downL, downLL, stR, mkR, bsR, boxR, alR, apR, cpR, srcQ, solid, killC, killV, killE, killO, killH, hget, hset, hdel, pubV, pubC, pubO, renV, renC, renO, reduceIte, reduceCtorEq, Nat.reduceEqDiff, Nat.reduceLT, Nat.reduceAdd, Int.reduceToNat, Nat.reduceLeDiff, Int.reducePow, Int.reduceLE, Int.reduceLT]
  refine cut_intro (fun st => (foldG (· + ·) [] L).2 = 0 ∧ ∃ v, v = (foldG (· + ·) [] L).1 ∧ st = ⟨[(5, uL true v)], []⟩) ?_ ?_
  · simp only [W1, W2, W3, popTo, memb, res, wres, env0, byteAt, optI, cutB, cutL, sliceR, strR, ldCells, ldR, iaR, faR, lenR, lenSR, ixR, exR, nchkR, mxR, csR, up, ZV.av, ZV.fit, zfits, fits, fitsL, cellsOf, down, downL, downLL, stR, mkR, bsR, boxR, alR, apR, cpR, srcQ, solid, killC, killV, killE, killO, killH, hget, hset, hdel, pubV, pubC, pubO, renV, renC, renO, reduceIte, reduceCtorEq, Nat.reduceEqDiff, Nat.reduceLT, Nat.reduceAdd, Int.reduceToNat, Nat.reduceLeDiff, Int.reducePow, Int.reduceLE, Int.reduceLT]
    refine loop_introE (fun m st => ∃ (i : Nat) (u : List Int), i ≤ L.length ∧ m = L.length - i ∧ may u ∧ foldG (· + ·) [] L = foldG (· + ·) u (L.drop i) ∧ st = ⟨[(0, uLL fr L), (5, uL true u), (7, .int .i64 i)], []⟩) L.length (st' := ⟨[(0, uLL fr L), (5, uL true []), (7, .int .i64 (0 : Nat))], []⟩) ?_ ⟨0, [], by omega, by omega, by simp [may], by simp, rfl⟩ ?_
    · exact Ent.trans (Ent.nilr0 5 true 1 (encI .u32) rfl) (Ent.of_env (by simp [eget, eset, uL]))
    rintro m st ⟨i, u, hi, rfl, mu, hg, rfl⟩
    simp only [uL, W1, W2, W3, popTo, memb, res, wres, env0, byteAt, optI, cutB, cutL, sliceR, strR, ldCells, ldR, iaR, faR, lenR, lenSR, ixR, exR, nchkR, mxR, csR, up, ZV.av, ZV.fit, zfits, fits, fitsL, cellsOf, down, downL, downLL, stR, mkR, bsR, boxR, alR, apR, cpR, srcQ, solid, killC, killV, killE, killO, killH, hget, hset, hdel, pubV, pubC, pubO, renV, renC, renO, reduceIte, reduceCtorEq, Nat.reduceEqDiff, Nat.reduceLT, Nat.reduceAdd, Int.reduceToNat, Nat.reduceLeDiff, Int.reducePow, Int.reduceLE, Int.reduceLT]
    refine fun _ => ⟨fun h0 => ⟨by omega, fun e he => ?_⟩, fun h0 => ?_⟩
    · have me := hm e (List.mem_of_getElem? he)
      rw [foldG_step he] at hg
      refine call1 (sloperef1_Add true fr u e) (by repeat (first | exact subs_nil | refine subs_int ?_ | refine subs_ro ?_ | refine subs_bool ?_ | refine subs_str ?_ | refine subs_nilro ?_ | refine subs_lits rfl ?_ | refine subs_all rfl rfl (by simp) ?_ | refine subs_own rfl rfl ?_ | refine subs_fn ?_)) ?_
      rw [addL, addE, if_pos ⟨mu, me⟩, if_pos ⟨mu, me⟩]
      simp only [uL, W1, W2, W3, popTo, memb, res, wres, env0, byteAt, optI, cutB, cutL, sliceR, strR, ldCells, ldR, iaR, faR, lenR, lenSR, ixR, exR, nchkR, mxR, csR, up, ZV.av, ZV.fit, zfits, fits, fitsL, cellsOf, down, downL, downLL, stR, mkR, bsR, boxR, alR, apR, cpR, srcQ, solid, killC, killV, killE, killO, killH, hget, hset, hdel, pubV, pubC, pubO, renV, renC, renO, reduceIte, reduceCtorEq, Nat.reduceEqDiff, Nat.reduceLT, Nat.reduceAdd, Int.reduceToNat, Nat.reduceLeDiff, Int.reducePow, Int.reduceLE, Int.reduceLT]
      refine ⟨fun h1 => ret1' ?_, fun h1 => ⟨by omega, ?_⟩⟩
      · rw [if_neg h1] at hg
        rw [hg]
        simp only [uL, retR, retA, retL, ret1, ret1L, eget, hget, hset, St.set, eset, List.map_cons, List.map_nil, reduceIte, reduceCtorEq, Nat.reduceEqDiff, Nat.reduceLT, true_and, and_true, false_or, or_true, true_or, List.drop_zero, List.take_length, scalE_I, scalE_B, scalE_S]; rfl
      · rw [if_pos (Classical.not_not.1 h1)] at hg
        exact back_intro [(0, uLL fr L), (5, uL true (fitL (val u + val e))), (7, .int .i64 ((i + 1 : Nat) : Int))] (by simp [eget, uL]) (by omega) ⟨i + 1, _, by omega, rfl, fitL_may _, hg, rfl⟩
    · rw [List.drop_of_length_le (by omega), foldG] at hg
      exact join_intro [(5, uL true (foldG (· + ·) [] L).1)] (by rw [hg]; simp [eget, uL]) ⟨by rw [hg], _, rfl, rfl⟩
  rintro st ⟨h0, v, rfl, rfl⟩
  simp only [uL, W1, W2, W3, popTo, memb, res, wres, env0, byteAt, optI, cutB, cutL, sliceR, strR, ldCells, ldR, iaR, faR, lenR, lenSR, ixR, exR, nchkR, mxR, csR, up, ZV.av, ZV.fit, zfits, fits, fitsL, cellsOf, down, downL, downLL, stR, mkR, bsR, boxR, alR, apR, cpR, srcQ, solid, killC, killV, killE, killO, killH, hget, hset, hdel, pubV, pubC, pubO, renV, renC, renO, reduceIte, reduceCtorEq, Nat.reduceEqDiff, Nat.reduceLT, Nat.reduceAdd, Int.reduceToNat, Nat.reduceLeDiff, Int.reducePow, Int.reduceLE, Int.reduceLT]
  exact ret1' (by rw [h0]; simp only [uL, retR, retA, retL, ret1, ret1L, eget, hget, hset, St.set, eset, List.map_cons, List.map_nil, reduceIte, reduceCtorEq, Nat.reduceEqDiff, Nat.reduceLT, true_and, and_true, false_or, or_true, true_or, List.drop_zero, List.take_length, scalE_I, scalE_B, scalE_S])

theorem sloperef1_Product (fr : Bool) (L : List (List Int)) : FSpec0 Try.prog 54 [uLL fr L] (fun r => r = lE (foldL (· * ·) [1] L) (foldE (· * ·) [1] L)) := by
  refine fspec0_of_run k54 ?_
  simp only [uL, c54, W1, W2, W3, popTo, memb, res, wres, env0, byteAt, optI, cutB, cutL, sliceR, strR, ldCells, ldR, iaR, faR, lenR, lenSR, ixR, exR, nchkR, mxR, csR, up, ZV.av, ZV.fit, zfits, fits, fitsL, cellsOf, down, downL, downLL, stR, mkR, bsR, boxR, alR, apR, cpR, srcQ, solid, killC, killV, killE, killO, killH, hget, hset, hdel, pubV, pubC, pubO, renV, renC, renO, reduceIte, reduceCtorEq, Nat.reduceEqDiff, Nat.reduceLT, Nat.reduceAdd, Int.reduceToNat, Nat.reduceLeDiff, Int.reducePow, Int.reduceLE, Int.reduceLT]
  refine cut_intro (fun st => (∀ x, x ∈ L → may x) ∧ st = ⟨[(0, uLL fr L)], []⟩) ?_ ?_
  · simp only [W1, W2, W3, popTo, memb, res, wres, env0, byteAt, optI, cutB, cutL, sliceR, strR, ldCells, ldR, iaR, faR, lenR, lenSR, ixR, exR, nchkR, mxR, csR, up, ZV.av, ZV.fit, zfits, fits, fitsL, cellsOf, down, downL, downLL, stR, mkR, bsR, boxR, alR, apR, cpR, srcQ, solid, killC, killV, killE, killO, killH, hget, hset, hdel, pubV, pubC, pubO, renV, renC, renO, reduceIte, reduceCtorEq, Nat.reduceEqDiff, Nat.reduceLT, Nat.reduceAdd, Int.reduceToNat, Nat.reduceLeDiff, Int.reducePow, Int.reduceLE, Int.reduceLT]
    refine loop_intro (fun m st => ∃ i : Nat, i ≤ L.length ∧ m = L.length - i ∧ (∀ x, x ∈ L.take i → may x) ∧ st = ⟨[(0, uLL fr L), (4, .int .i64 i)], []⟩) L.length
      [(0, uLL fr L), (4, .int .i64 (0 : Nat))] (by simp [eget]) ⟨0, by omega, by omega, by simp, rfl⟩ ?_
    rintro m st ⟨i, hi, rfl, hm, rfl⟩
    simp only [uL, W1, W2, W3, popTo, memb, res, wres, env0, byteAt, optI, cutB, cutL, sliceR, strR, ldCells, ldR, iaR, faR, lenR, lenSR, ixR, exR, nchkR, mxR, csR, up, ZV.av, ZV.fit, zfits, fits, fitsL, cellsOf, down, downL, downLL, stR, mkR, bsR, boxR, alR, apR, cpR, srcQ, solid, killC, killV, killE, killO, killH, hget, hset, hdel, pubV, pubC, pubO, renV, renC, renO, reduceIte, reduceCtorEq, Nat.reduceEqDiff, Nat.reduceLT, Nat.reduceAdd, Int.reduceToNat, Nat.reduceLeDiff, Int.reducePow, Int.reduceLE, Int.reduceLT]
    refine fun _ => ⟨fun h0 => ⟨by omega, fun e he => ?_⟩, fun h0 => join_intro _ (by simp [eget]) ⟨by rw [List.take_of_length_le (by omega)] at hm; exact hm, rfl⟩⟩
    refine call1 (sloperef1_May fr e) (by repeat (first | exact subs_nil | refine subs_int ?_ | refine subs_ro ?_ | refine subs_bool ?_ | refine subs_str ?_ | refine subs_nilro ?_ | refine subs_lits rfl ?_ | refine subs_all rfl rfl (by simp) ?_ | refine subs_own rfl rfl ?_ | refine subs_fn ?_)) ?_
    simp only [uL, W1, W2, W3, popTo, memb, res, wres, env0, byteAt, optI, cutB, cutL, sliceR, strR, ldCells, ldR, iaR, faR, lenR, lenSR, ixR, exR, nchkR, mxR, csR, up, ZV.av, ZV.fit, zfits, fits, fitsL, cellsOf, down, downL, downLL, stR, mkR, bsR, boxR, alR, apR, cpR, srcQ, solid, killC, killV, killE, killO, killH, hget, hset, hdel, pubV, pubC, pubO, renV, renC, renO, reduceIte, reduceCtorEq, Nat.reduceEqDiff, Nat.reduceLT, Nat.reduceAdd, Int.reduceToNat, Nat.reduceLeDiff, Int.reducePow, Int.reduceLE, Int.reduceLT]
    refine ⟨fun h1 => ret1' ?_, fun h1 => ⟨by omega, back_intro [(0, uLL fr L), (4, .int .i64 ((i + 1 : Nat) : Int))] (by simp [eget]) (by omega) ⟨i + 1, by omega, rfl, mayL_of hi hm he (Classical.not_not.1 h1), rfl⟩⟩⟩
    have hn : ¬ ∀ x, x ∈ L → may x := fun h => h1 (h e (List.mem_of_getElem? he))
    rw [foldL, foldE, if_neg hn, if_neg hn]
    simp only [uL, retR, retA, retL, ret1, ret1L, eget, hget, hset, St.set, eset, List.map_cons, List.map_nil, reduceIte, reduceCtorEq, Nat.reduceEqDiff, Nat.reduceLT, true_and, and_true, false_or, or_true, true_or, List.drop_zero, List.take_length, scalE_I, scalE_B, scalE_S]; rfl
  rintro st ⟨hm, rfl⟩
  rw [foldL, foldE, if_pos hm, if_pos hm]
  simp only [uL, W1, W2, W3, popTo, memb, res, wres, env0, byteAt, optI, cutB, cutL, sliceR, strR, ldCells, ldR, iaR, faR, lenR, lenSR, ixR, exR, nchkR, mxR, csR, up, ZV.av, ZV.fit, zfits, fits, fitsL, cellsOf, down, downL, downLL, stR, mkR, bsR, boxR, alR, apR, cpR, srcQ, solid, killC, killV, killE, killO, killH, hget, hset, hdel, pubV, pubC, pubO, renV, renC, renO, reduceIte, reduceCtorEq, Nat.reduceEqDiff, Nat.reduceLT, Nat.reduceAdd, Int.reduceToNat, Nat.reduceLeDiff, Int.reducePow, Int.reduceLE, Int.reduceLT]
  refine call1 (sloperef1_From 1) (by repeat (first | exact subs_nil | refine subs_int ?_ | refine subs_ro ?_ | refine subs_bool ?_ | refine subs_str ?_ | refine subs_nilro ?_ | refine subs_lits rfl ?_ | refine subs_all rfl rfl (by simp) ?_ | refine subs_own rfl rfl ?_ | refine subs_fn ?_)) ?_
  rw [from_one']
  simp only [uL, W1, W2, W3, popTo, memb, res, wres, env0, byteAt, optI, cutB, cutL, sliceR, strR, ldCells, ldR, iaR, faR, lenR, lenSR, ixR, exR, nchkR, mxR, csR, up, ZV.av, ZV.fit, zfits, fits, fitsL, cellsOf, down, downL, downLL, stR, mkR, bsR, boxR, alR, apR, cpR, srcQ, solid, killC, killV, killE, killO, killH, hget, hset, hdel, pubV, pubC, pubO, renV, renC, renO, reduceIte, reduceCtorEq, Nat.reduceEqDiff, Nat.reduceLT, Nat.reduceAdd, Int.reduceToNat, Nat.reduceLeDiff, Int.reducePow, Int.reduceLE, Int.reduceLT]
  refine cut_intro (fun st => (foldG (· * ·) [1] L).2 = 0 ∧ ∃ v, v = (foldG (· * ·) [1] L).1 ∧ st = ⟨[(5, uL true v)], []⟩) ?_ ?_
  · simp only [W1, W2, W3, popTo, memb, res, wres, env0, byteAt, optI, cutB, cutL, sliceR, strR, ldCells, ldR, iaR, faR, lenR, lenSR, ixR, exR, nchkR, mxR, csR, up, ZV.av, ZV.fit, zfits, fits, fitsL, cellsOf, down, downL, downLL, stR, mkR, bsR, boxR, alR, apR, cpR, srcQ, solid, killC, killV, killE, killO, killH, hget, hset, hdel, pubV, pubC, pubO, renV, renC, renO, reduceIte, reduceCtorEq, Nat.reduceEqDiff, Nat.reduceLT, Nat.reduceAdd, Int.reduceToNat, Nat.reduceLeDiff, Int.reducePow, Int.reduceLE, Int.reduceLT]
    refine loop_introE (fun m st => ∃ (i : Nat) (u : List Int), i ≤ L.length ∧ m = L.length - i ∧ may u ∧ foldG (· * ·) [1] L = foldG (· * ·) u (L.drop i) ∧ st = ⟨[(0, uLL fr L), (5, uL true u), (7, .int .i64 i)], []⟩) L.length (st' := ⟨[(0, uLL fr L), (5, uL true [1]), (7, .int .i64 (0 : Nat))], []⟩) ?_ ⟨0, [1], by omega, by omega, by simp [may], by simp, rfl⟩ ?_
    · exact Ent.of_env (by simp [eget, eset, uL])
    rintro m st ⟨i, u, hi, rfl, mu, hg, rfl⟩
    simp only [uL, W1, W2, W3, popTo, memb, res, wres, env0, byteAt, optI, cutB, cutL, sliceR, strR, ldCells, ldR, iaR, faR, lenR, lenSR, ixR, exR, nchkR, mxR, csR, up, ZV.av, ZV.fit, zfits, fits, fitsL, cellsOf, down, downL, downLL, stR, mkR, bsR, boxR, alR, apR, cpR, srcQ, solid, killC, killV, killE, killO, killH, hget, hset, hdel, pubV, pubC, pubO, renV, renC, renO, reduceIte, reduceCtorEq, Nat.reduceEqDiff, Nat.reduceLT, Nat.reduceAdd, Int.reduceToNat, Nat.reduceLeDiff, Int.reducePow, Int.reduceLE, Int.reduceLT]
    refine fun _ => ⟨fun h0 => ⟨by omega, fun e he => ?_⟩, fun h0 => ?_⟩
    · have me := hm e (List.mem_of_getElem? he)
      rw [foldG_step he] at hg
      refine call1 (sloperef1_Mul true fr u e) (by repeat (first | exact subs_nil | refine subs_int ?_ | refine subs_ro ?_ | refine subs_bool ?_ | refine subs_str ?_ | refine subs_nilro ?_ | refine subs_lits rfl ?_ | refine subs_all rfl rfl (by simp) ?_ | refine subs_own rfl rfl ?_ | refine subs_fn ?_)) ?_
      rw [mulL, mulE, if_pos ⟨mu, me⟩, if_pos ⟨mu, me⟩]
      simp only [uL, W1, W2, W3, popTo, memb, res, wres, env0, byteAt, optI, cutB, cutL, sliceR, strR, ldCells, ldR, iaR, faR, lenR, lenSR, ixR, exR, nchkR, mxR, csR, up, ZV.av, ZV.fit, zfits, fits, fitsL, cellsOf, down, downL, downLL, stR, mkR, bsR, boxR, alR, apR, cpR, srcQ, solid, killC, killV, killE, killO, killH, hget, hset, hdel, pubV, pubC, pubO, renV, renC, renO, reduceIte, reduceCtorEq, Nat.reduceEqDiff, Nat.reduceLT, Nat.reduceAdd, Int.reduceToNat, Nat.reduceLeDiff, Int.reducePow, Int.reduceLE, Int.reduceLT]
      refine ⟨fun h1 => ret1' ?_, fun h1 => ⟨by omega, ?_⟩⟩
      · rw [if_neg h1] at hg
        rw [hg]
        simp only [uL, retR, retA, retL, ret1, ret1L, eget, hget, hset, St.set, eset, List.map_cons, List.map_nil, reduceIte, reduceCtorEq, Nat.reduceEqDiff, Nat.reduceLT, true_and, and_true, false_or, or_true, true_or, List.drop_zero, List.take_length, scalE_I, scalE_B, scalE_S]; rfl
      · rw [if_pos (Classical.not_not.1 h1)] at hg
        exact back_intro [(0, uLL fr L), (5, uL true (fitL (val u * val e))), (7, .int .i64 ((i + 1 : Nat) : Int))] (by simp [eget, uL]) (by omega) ⟨i + 1, _, by omega, rfl, fitL_may _, hg, rfl⟩
    · rw [List.drop_of_length_le (by omega), foldG] at hg
      exact join_intro [(5, uL true (foldG (· * ·) [1] L).1)] (by rw [hg]; simp [eget, uL]) ⟨by rw [hg], _, rfl, rfl⟩
  rintro st ⟨h0, v, rfl, rfl⟩
  simp only [uL, W1, W2, W3, popTo, memb, res, wres, env0, byteAt, optI, cutB, cutL, sliceR, strR, ldCells, ldR, iaR, faR, lenR, lenSR, ixR, exR, nchkR, mxR, csR, up, ZV.av, ZV.fit, zfits, fits, fitsL, cellsOf, down, downL, downLL, stR, mkR, bsR, boxR, alR, apR, cpR, srcQ, solid, killC, killV, killE, killO, killH, hget, hset, hdel, pubV, pubC, pubO, renV, renC, renO, reduceIte, reduceCtorEq, Nat.reduceEqDiff, Nat.reduceLT, Nat.reduceAdd, Int.reduceToNat, Nat.reduceLeDiff, Int.reducePow, Int.reduceLE, Int.reduceLT]
  exact ret1' (by rw [h0]; simp only [uL, retR, retA, retL, ret1, ret1L, eget, hget, hset, St.set, eset, List.map_cons, List.map_nil, reduceIte, reduceCtorEq, Nat.reduceEqDiff, Nat.reduceLT, true_and, and_true, false_or, or_true, true_or, List.drop_zero, List.take_length, scalE_I, scalE_B, scalE_S])

theorem slopelaw1_kept (fr fr' : Bool) (A B : List (List Int)) : FSpec0 Try.prog 55 [uLL fr A, uLL fr' B] (fun r => r = .bool (decide (A = B))) := by
  refine fspec0_of_run k55 ?_
  simp only [uL, c55, W1, W2, W3, popTo, memb, res, wres, env0, byteAt, optI, cutB, cutL, sliceR, strR, ldCells, ldR, iaR, faR, lenR, lenSR, ixR, exR, nchkR, mxR, csR, up, ZV.av, ZV.fit, zfits, fits, fitsL, cellsOf, down, downL, downLL, stR, mkR, bsR, boxR, alR, apR, cpR, srcQ, solid, killC, killV, killE, killO, killH, hget, hset, hdel, pubV, pubC, pubO, renV, renC, renO, reduceIte, reduceCtorEq, Nat.reduceEqDiff, Nat.reduceLT, Nat.reduceAdd, Int.reduceToNat, Nat.reduceLeDiff, Int.reducePow, Int.reduceLE, Int.reduceLT]
  refine fun _ _ => ⟨fun h => ret1' (by rw [decide_eq_false (fun e => h (by rw [e]))]; simp only [retR, retA, retL, ret1, ret1L, eget, hget, hset, St.set, eset, List.map_cons, List.map_nil, reduceIte, reduceCtorEq, Nat.reduceEqDiff, Nat.reduceLT, true_and, and_true, false_or, or_true, true_or, List.drop_zero, List.take_length, scalE_I, scalE_B, scalE_S]), fun h => ?_⟩
  have hl : A.length = B.length := by omega
  clear h
  refine cut_intro (fun st => A = B ∧ st = ⟨[], []⟩) ?_ ?_
  · simp only [W1, W2, W3, popTo, memb, res, wres, env0, byteAt, optI, cutB, cutL, sliceR, strR, ldCells, ldR, iaR, faR, lenR, lenSR, ixR, exR, nchkR, mxR, csR, up, ZV.av, ZV.fit, zfits, fits, fitsL, cellsOf, down, downL, downLL, stR, mkR, bsR, boxR, alR, apR, cpR, srcQ, solid, killC, killV, killE, killO, killH, hget, hset, hdel, pubV, pubC, pubO, renV, renC, renO, reduceIte, reduceCtorEq, Nat.reduceEqDiff, Nat.reduceLT, Nat.reduceAdd, Int.reduceToNat, Nat.reduceLeDiff, Int.reducePow, Int.reduceLE, Int.reduceLT]
    refine loop_intro (fun m st => ∃ i : Nat, i ≤ A.length ∧ m = A.length - i ∧ A.take i = B.take i ∧ st = ⟨[(0, uLL fr A), (1, uLL fr' B), (5, .int .i64 i)], []⟩) A.length
      [(0, uLL fr A), (1, uLL fr' B), (5, .int .i64 (0 : Nat))] (by simp [eget]) ⟨0, by omega, by omega, by simp, rfl⟩ ?_
    rintro m st ⟨i, hi, rfl, ht, rfl⟩
    simp only [uL, W1, W2, W3, popTo, memb, res, wres, env0, byteAt, optI, cutB, cutL, sliceR, strR, ldCells, ldR, iaR, faR, lenR, lenSR, ixR, exR, nchkR, mxR, csR, up, ZV.av, ZV.fit, zfits, fits, fitsL, cellsOf, down, downL, downLL, stR, mkR, bsR, boxR, alR, apR, cpR, srcQ, solid, killC, killV, killE, killO, killH, hget, hset, hdel, pubV, pubC, pubO, renV, renC, renO, reduceIte, reduceCtorEq, Nat.reduceEqDiff, Nat.reduceLT, Nat.reduceAdd, Int.reduceToNat, Nat.reduceLeDiff, Int.reducePow, Int.reduceLE, Int.reduceLT]
    refine fun _ => ⟨fun h0 => ?_, fun h0 => ?_⟩
    rotate_left
    · exact join_intro _ (by simp) ⟨by rwa [List.take_of_length_le (by omega), List.take_of_length_le (by omega)] at ht, rfl⟩
    obtain ⟨x, hx⟩ : ∃ x, A[i]? = some x := ⟨_, List.getElem?_eq_getElem (by omega)⟩
    obtain ⟨y, hy⟩ : ∃ y, B[i]? = some y := ⟨_, List.getElem?_eq_getElem (by omega)⟩
    simp only [hx, hy, Option.some.injEq]
    refine ⟨by omega, fun e he => ⟨by omega, fun e' he' => ?_⟩⟩
    subst he he'
    refine call1 (slopelaw1_same fr fr' x y) (by repeat (first | exact subs_nil | refine subs_int ?_ | refine subs_ro ?_ | refine subs_bool ?_ | refine subs_str ?_ | refine subs_nilro ?_ | refine subs_lits rfl ?_ | refine subs_all rfl rfl (by simp) ?_ | refine subs_own rfl rfl ?_ | refine subs_fn ?_)) ?_
    simp only [uL, W1, W2, W3, popTo, memb, res, wres, env0, byteAt, optI, cutB, cutL, sliceR, strR, ldCells, ldR, iaR, faR, lenR, lenSR, ixR, exR, nchkR, mxR, csR, up, ZV.av, ZV.fit, zfits, fits, fitsL, cellsOf, down, downL, downLL, stR, mkR, bsR, boxR, alR, apR, cpR, srcQ, solid, killC, killV, killE, killO, killH, hget, hset, hdel, pubV, pubC, pubO, renV, renC, renO, reduceIte, reduceCtorEq, Nat.reduceEqDiff, Nat.reduceLT, Nat.reduceAdd, Int.reduceToNat, Nat.reduceLeDiff, Int.reducePow, Int.reduceLE, Int.reduceLT]
    refine ⟨fun h1 => ret1' (by rw [decide_eq_false (fun e => h1 (by subst e; rw [hx] at hy; exact Option.some.inj hy))]; simp only [retR, retA, retL, ret1, ret1L, eget, hget, hset, St.set, eset, List.map_cons, List.map_nil, reduceIte, reduceCtorEq, Nat.reduceEqDiff, Nat.reduceLT, true_and, and_true, false_or, or_true, true_or, List.drop_zero, List.take_length, scalE_I, scalE_B, scalE_S]), fun h1 => ⟨by omega, back_intro [(0, uLL fr A), (1, uLL fr' B), (5, .int .i64 ((i + 1 : Nat) : Int))] (by simp [eget]) (by omega) ⟨i + 1, by omega, rfl, by rw [take_step hx, take_step hy, ht, Classical.not_not.1 h1], rfl⟩⟩⟩
  rintro st ⟨e, rfl⟩
  simp only [W1, W2, W3, popTo, memb, res, wres, env0, byteAt, optI, cutB, cutL, sliceR, strR, ldCells, ldR, iaR, faR, lenR, lenSR, ixR, exR, nchkR, mxR, csR, up, ZV.av, ZV.fit, zfits, fits, fitsL, cellsOf, down, downL, downLL, stR, mkR, bsR, boxR, alR, apR, cpR, srcQ, solid, killC, killV, killE, killO, killH, hget, hset, hdel, pubV, pubC, pubO, renV, renC, renO, reduceIte, reduceCtorEq, Nat.reduceEqDiff, Nat.reduceLT, Nat.reduceAdd, Int.reduceToNat, Nat.reduceLeDiff, Int.reducePow, Int.reduceLE, Int.reduceLT]
  exact ret1' (by rw [decide_eq_true e]; simp only [retR, retA, retL, ret1, ret1L, eget, hget, hset, St.set, eset, List.map_cons, List.map_nil, reduceIte, reduceCtorEq, Nat.reduceEqDiff, Nat.reduceLT, true_and, and_true, false_or, or_true, true_or, List.drop_zero, List.take_length, scalE_I, scalE_B, scalE_S])

theorem slopelaw1_many (fr : Bool) (G L : List (List Int)) (hL : L.length ≤ 1048576) (hG : G.length ≤ 1048576) (hl : ∀ x, x ∈ L → x.length ≤ 1048576) :
    FSpec Try.prog 50 [.bptr 1000 0, uLL fr L] (given G) (fun r hp' => r = uLL true L ∧ hp' = given (G ++ L.map (· ++ marks))) := by
  refine fspec_of_run k50 (by simp [given]) (fun h => by cases h) ?_
  simp only [uL, c50, W1, W2, W3, popTo, memb, res, wres, env0, byteAt, optI, cutB, cutL, sliceR, strR, ldCells, ldR, iaR, faR, lenR, lenSR, ixR, exR, nchkR, mxR, csR, up, ZV.av, ZV.fit, zfits, fits, fitsL, cellsOf, down, downL, downLL, stR, mkR, bsR, boxR, alR, apR, cpR, srcQ, solid, killC, killV, killE, killO, killH, hget, hset, hdel, pubV, pubC, pubO, renV, renC, renO, reduceIte, reduceCtorEq, Nat.reduceEqDiff, Nat.reduceLT, Nat.reduceAdd, Int.reduceToNat, Nat.reduceLeDiff, Int.reducePow, Int.reduceLE, Int.reduceLT]
  refine cut_intro (fun st => st = ⟨[(5, .own 21 0 L.length true)], given (G ++ L.map (· ++ marks)) ++ [(21, .arr 24 true true 1 (encR 1 (encI .u32)) L)]⟩) ?_ ?_
  · simp only [W1, W2, W3, popTo, memb, res, wres, env0, byteAt, optI, cutB, cutL, sliceR, strR, ldCells, ldR, iaR, faR, lenR, lenSR, ixR, exR, nchkR, mxR, csR, up, ZV.av, ZV.fit, zfits, fits, fitsL, cellsOf, down, downL, downLL, stR, mkR, bsR, boxR, alR, apR, cpR, srcQ, solid, killC, killV, killE, killO, killH, hget, hset, hdel, pubV, pubC, pubO, renV, renC, renO, reduceIte, reduceCtorEq, Nat.reduceEqDiff, Nat.reduceLT, Nat.reduceAdd, Int.reduceToNat, Nat.reduceLeDiff, Int.reducePow, Int.reduceLE, Int.reduceLT]
    refine loop_introE (fun m st => ∃ i : Nat, i ≤ L.length ∧ m = L.length - i ∧ st = ⟨[(0, .bptr 1000 0), (1, uLL fr L), (5, .own 21 0 i true), (6, .int .i64 i)], given (G ++ (L.take i).map (· ++ marks)) ++ [(21, .arr 24 true true 1 (encR 1 (encI .u32)) (L.take i))]⟩) L.length
      (st' := ⟨[(0, .bptr 1000 0), (1, uLL fr L), (5, .own 21 0 0 true), (6, .int .i64 (0 : Nat))], given G ++ [(21, .arr 24 true true 1 (encR 1 (encI .u32)) [])]⟩) ?_ ⟨0, by omega, by omega, by simp⟩ ?_
    · have h := Ent.nilv (env := [(0, .bptr 1000 0), (1, uLL fr L), (5, .nilS), (6, .int .i64 0)]) (hp0 := given G) 5 21 24 1 (encR 1 (encI .u32)) rfl (given_none G (by omega)) (by omega) (by omega)
      rw [given_set0 G _ (by omega)] at h
      exact Ent.trans h (Ent.of_env (by simp [eget, eset, uL]))
    rintro m st ⟨i, hi, rfl, rfl⟩
    simp only [uL, W1, W2, W3, popTo, memb, res, wres, env0, byteAt, optI, cutB, cutL, sliceR, strR, ldCells, ldR, iaR, faR, lenR, lenSR, ixR, exR, nchkR, mxR, csR, up, ZV.av, ZV.fit, zfits, fits, fitsL, cellsOf, down, downL, downLL, stR, mkR, bsR, boxR, alR, apR, cpR, srcQ, solid, killC, killV, killE, killO, killH, hget, hset, hdel, pubV, pubC, pubO, renV, renC, renO, reduceIte, reduceCtorEq, Nat.reduceEqDiff, Nat.reduceLT, Nat.reduceAdd, Int.reduceToNat, Nat.reduceLeDiff, Int.reducePow, Int.reduceLE, Int.reduceLT]
    refine fun _ => ⟨fun h0 => ⟨by omega, fun e he => ?_⟩, fun h0 => ?_⟩
    · have hel := hl e (List.mem_of_getElem? he)
      refine callGiveX (G ++ (L.take i).map (· ++ marks)) _ (by omega) (by simp; omega) ?_
      simp only [killE, killV, killC, killO, uL, given_set0, given_get, given_set, given_kill, killH_nil, killH_cons, W1, W2, W3, popTo, memb, res, wres, env0, byteAt, optI, cutB, cutL, sliceR, strR, ldCells, ldR, iaR, faR, lenR, lenSR, ixR, exR, nchkR, mxR, csR, up, ZV.av, ZV.fit, zfits, fits, fitsL, cellsOf, down, downL, downLL, stR, mkR, bsR, boxR, alR, apR, cpR, srcQ, solid, killC, killV, killE, killO, hget, hset, hdel, pubV, pubC, pubO, renV, renC, renO, reduceIte, reduceCtorEq, Nat.reduceEqDiff, Nat.reduceLT, Nat.reduceAdd, Int.reduceToNat, Nat.reduceLeDiff, Int.reducePow, Int.reduceLE, Int.reduceLT]
      have hl2 : (L.take i).length = i := by rw [List.length_take]; omega
      refine fun _ => ⟨[e], ⟨rfl, by simp; omega⟩, by omega, ?_⟩
      rw [List.take_take, Nat.min_self, ← take_step he, show G ++ (L.take i).map (· ++ marks) ++ [e ++ marks] = G ++ (L.take (i + 1)).map (· ++ marks) by rw [take_step he]; simp]
      exact back_intro [(0, .bptr 1000 0), (1, uLL fr L), (5, .own 21 0 (i + 1) true), (6, .int .i64 ((i + 1 : Nat) : Int))] (by simp [eget]) (by omega) ⟨i + 1, by omega, rfl, rfl⟩
    · obtain rfl : i = L.length := by omega
      rw [List.take_length]
      exact join_intro [(5, .own 21 0 L.length true)] (by simp [eget]) rfl
  rintro st rfl
  simp only [W1, W2, W3, popTo, memb, res, wres, env0, byteAt, optI, cutB, cutL, sliceR, strR, ldCells, ldR, iaR, faR, lenR, lenSR, ixR, exR, nchkR, mxR, csR, up, ZV.av, ZV.fit, zfits, fits, fitsL, cellsOf, down, downL, downLL, stR, mkR, bsR, boxR, alR, apR, cpR, srcQ, solid, killC, killV, killE, killO, killH, hget, hset, hdel, pubV, pubC, pubO, renV, renC, renO, reduceIte, reduceCtorEq, Nat.reduceEqDiff, Nat.reduceLT, Nat.reduceAdd, Int.reduceToNat, Nat.reduceLeDiff, Int.reducePow, Int.reduceLE, Int.reduceLT]
  refine ⟨uLL true L, given (G ++ L.map (· ++ marks)), ?_, ?_, ?_, rfl, rfl⟩
  · simp only [List.map_cons, List.map_nil, eget, retR, retA, ret1, given_none _ (show 21 < 1000 by omega), given_get _ _ (show 21 < 1000 by omega), hget, reduceIte]
    exact ⟨by omega, trivial, .inl trivial, by simp⟩
  · simp [given, retH, hget, retO, ret1L, ret1, List.replicate_succ]
  · simp [given, keptH, hget, OB.fixed]

end Go.Vc
