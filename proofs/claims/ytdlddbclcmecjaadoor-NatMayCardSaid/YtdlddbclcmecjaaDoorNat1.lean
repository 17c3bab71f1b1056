/-
  Lists of limbs: trim, May, From, Uint, same: what each hands back.
-/
import Derived.Test.YtdlddbclcmecjaaDoorVc25
import Derived.Test.YtdlddbclcmecjaaDoorProg
import Derived.KernelRfl
set_option linter.unusedVariables false
set_option linter.unusedSimpArgs false
namespace Go.Vc
open Go
open Go.Proofs

/- natural.May: arguments 1, results in [2]; slots in use where its loops begin: [] -/
def c7 : MC := .seq (.ops [ .op (some 2) none (.p (.mv (.b false))), .gh (.drop [2])]) (.seq (.ops [ .op (some 3) none (.p (.mv (.t 0))), .op (some 4) none (.p (.len (.t 3))), .op (some 5) none (.p (.bin .leq (.t 4) (.i .i64 (2048)))), .op (some 6) none (.p (.mv (.t 5))), .op (some 7) (some (6, true)) (.p (.mv (.t 0))), .op (some 8) (some (6, true)) (.p (.len (.t 7))), .op (some 9) (some (6, true)) (.p (.bin .eql (.t 8) (.i .i64 (0)))), .op (some 10) (some (6, true)) (.p (.mv (.t 9))), .op (some 11) (some (10, false)) (.p (.mv (.t 0))), .op (some 12) (some (10, false)) (.p (.mv (.t 0))), .op (some 13) (some (10, false)) (.p (.len (.t 12))), .op (some 14) (some (10, false)) (.p (.bin .sub (.t 13) (.i .i64 (1)))), .op (some 15) (some (10, false)) (.p (.ia 1 (.t 11) (.t 14))), .op (some 16) (some (10, false)) (.p (.ld 1 false (.t 15))), .op (some 17) (some (10, false)) (.p (.bin .neq (.t 16) (.i .u32 (0)))), .op (some 18) (some (6, true)) (.pick (.t 10) (.b true) (.t 17)), .op (some 19) none (.pick (.t 6) (.t 18) (.b false)), .op (some 2) none (.p (.mv (.t 19))), .gh (.drop [0, 3, 4, 5, 6, 7, 8, 9, 10, 11, 12, 13, 14, 15, 16, 17, 18, 19])]) (.ret))
theorem k7 : chkF Tryd.prog 7 1 [2] c7 = true := by kernel_rfl

/- sloperef1.May: arguments 1, results in [2]; slots in use where its loops begin: [] -/
def c8 : MC := .seq (.ops [ .op (some 2) none (.p (.mv (.b false))), .gh (.drop [2])]) (.seq (.seq (.ops [ .op (some 3) none (.p (.mv (.t 0))), .op (some 4) none (.p (.len (.t 3))), .op (some 5) none (.p (.bin .gtr (.t 4) (.i .i64 (2048)))), .gh (.drop [3, 4])]) (.cond (.t 5) (.seq (.ops [ .op (some 2) none (.p (.mv (.b false)))]) (.ret)) (.skip))) (.seq (.ops [ .op (some 6) none (.p (.mv (.t 0))), .op (some 7) none (.p (.len (.t 6))), .op (some 8) none (.p (.bin .eql (.t 7) (.i .i64 (0)))), .op (some 9) none (.p (.mv (.t 8))), .op (some 10) (some (9, false)) (.p (.mv (.t 0))), .op (some 11) (some (9, false)) (.p (.mv (.t 0))), .op (some 12) (some (9, false)) (.p (.len (.t 11))), .op (some 13) (some (9, false)) (.p (.bin .sub (.t 12) (.i .i64 (1)))), .op (some 14) (some (9, false)) (.p (.ia 1 (.t 10) (.t 13))), .op (some 15) (some (9, false)) (.p (.ld 1 false (.t 14))), .op (some 16) (some (9, false)) (.p (.bin .neq (.t 15) (.i .u32 (0)))), .op (some 17) none (.pick (.t 9) (.b true) (.t 16)), .op (some 2) none (.p (.mv (.t 17))), .gh (.drop [0, 6, 7, 8, 9, 10, 11, 12, 13, 14, 15, 16, 17])]) (.ret)))
theorem k8 : chkF Tryd.prog 8 1 [2] c8 = true := by kernel_rfl

/- slopeplain.SameNat: arguments 2, results in [4]; slots in use where its loops begin: [[0, 1, 5]] -/
def c22 : MC := .seq (.ops [ .op (some 4) none (.p (.mv (.b false))), .gh (.drop [4])]) (.seq (.seq (.ops [ .op (some 6) none (.p (.mv (.t 0))), .op (some 7) none (.p (.len (.t 6))), .op (some 8) none (.p (.mv (.t 1))), .op (some 9) none (.p (.len (.t 8))), .op (some 10) none (.p (.bin .neq (.t 7) (.t 9))), .gh (.drop [6, 7, 8, 9])]) (.cond (.t 10) (.seq (.ops [ .op (some 4) none (.p (.mv (.b false)))]) (.ret)) (.skip))) (.seq (.seq (.ops [ .op (some 5) none (.p (.mv (.i .i64 (0))))]) (.cut (.block 0 (.loop (.seq (.seq (.ops [ .op (some 11) none (.p (.mv (.t 5))), .op (some 12) none (.p (.mv (.t 0))), .op (some 13) none (.p (.len (.t 12))), .op (some 14) none (.p (.bin .lss (.t 11) (.t 13))), .gh (.drop [11, 12, 13])]) (.cond (.t 14) (.skip) (.exit 0))) (.seq (.block 1 (.seq (.ops [ .op (some 17) none (.p (.mv (.t 0))), .op (some 18) none (.p (.mv (.t 5))), .op (some 19) none (.p (.ia 1 (.t 17) (.t 18))), .op (some 20) none (.p (.ld 1 false (.t 19))), .op (some 21) none (.p (.mv (.t 1))), .op (some 22) none (.p (.mv (.t 5))), .op (some 23) none (.p (.ia 1 (.t 21) (.t 22))), .op (some 24) none (.p (.ld 1 false (.t 23))), .op (some 25) none (.p (.bin .neq (.t 20) (.t 24)))]) (.gh (.drop [17, 18, 19, 20, 21, 22, 23, 24]) (.cond (.t 25) (.seq (.ops [ .op (some 4) none (.p (.mv (.b false)))]) (.ret)) (.skip))))) (.ops [ .op (some 15) none (.p (.mv (.t 5))), .op (some 16) none (.p (.bin .add (.t 15) (.i .i64 (1)))), .op (some 5) none (.p (.mv (.t 16))), .gh (.drop [15, 16])]))))))) (.seq (.ops [ .op (some 4) none (.p (.mv (.b true)))]) (.ret))))
theorem k22 : chkF Tryd.prog 22 2 [4] c22 = true := by kernel_rfl

/- natural.Uint: arguments 1, results in [2, 3]; slots in use where its loops begin: [[0, 4, 5]] -/
def c4 : MC := .seq (.ops [ .op (some 2) none (.p (.mv (.i .u64 (0)))), .op (some 3) none (.p (.mv (.b false))), .gh (.drop [2, 3])]) (.seq (.seq (.ops [ .op (some 6) none (.p (.mv (.t 0))), .op (some 7) none (.call 7 [(.t 6)]), .op (some 8) none (.p (.un .not (.t 7))), .op (some 9) none (.p (.mv (.t 8))), .op (some 10) (some (9, false)) (.p (.mv (.t 0))), .op (some 11) (some (9, false)) (.p (.len (.t 10))), .op (some 12) (some (9, false)) (.p (.bin .gtr (.t 11) (.i .i64 (2)))), .op (some 13) none (.pick (.t 9) (.b true) (.t 12)), .gh (.drop [6, 7, 8, 9, 10, 11, 12])]) (.cond (.t 13) (.seq (.ops [ .op (some 2) none (.p (.mv (.i .u64 (0)))), .op (some 3) none (.p (.mv (.b false)))]) (.ret)) (.skip))) (.seq (.ops [ .op (some 4) none (.p (.mv (.i .u64 (0))))]) (.seq (.seq (.ops [ .op (some 14) none (.p (.mv (.t 0))), .op (some 15) none (.p (.len (.t 14))), .op (some 16) none (.p (.bin .sub (.t 15) (.i .i64 (1)))), .op (some 5) none (.p (.mv (.t 16))), .gh (.drop [14, 15, 16])]) (.block 0 (.loop (.seq (.seq (.ops [ .op (some 17) none (.p (.mv (.t 5))), .op (some 18) none (.p (.bin .geq (.t 17) (.i .i64 (0)))), .gh (.drop [17])]) (.cond (.t 18) (.skip) (.exit 0))) (.seq (.block 1 (.ops [ .op (some 21) none (.p (.mv (.t 4))), .op (some 22) none (.p (.bin .shl (.t 21) (.i .u64 (32)))), .op (some 23) none (.p (.mv (.t 0))), .op (some 24) none (.p (.mv (.t 5))), .op (some 25) none (.p (.ia 1 (.t 23) (.t 24))), .op (some 26) none (.p (.ld 1 false (.t 25))), .op (some 27) none (.p (.cv .u64 (.t 26))), .op (some 28) none (.p (.bin .or (.t 22) (.t 27))), .op (some 4) none (.p (.mv (.t 28))), .gh (.drop [21, 22, 23, 24, 25, 26, 27, 28])])) (.ops [ .op (some 19) none (.p (.mv (.t 5))), .op (some 20) none (.p (.bin .sub (.t 19) (.i .i64 (1)))), .op (some 5) none (.p (.mv (.t 20))), .gh (.drop [19, 20])])))))) (.seq (.ops [ .op (some 29) none (.p (.mv (.t 4))), .op (some 2) none (.p (.mv (.t 29))), .op (some 3) none (.p (.mv (.b true))), .gh (.drop [4, 29])]) (.ret)))))
theorem k4 : chkF Tryd.prog 4 1 [2, 3] c4 = true := by kernel_rfl



/-! ### plain -/
/-- without the zeros on top -/
def trimL (xs : List Int) : List Int := (xs.reverse.dropWhile (· == 0)).reverse

theorem trimL_take {xs : List Int} {n : Nat} (hn : n ≤ xs.length) (hz : ∀ x, x ∈ xs.drop n → x = 0) (ht : 0 < n → xs[n-1]? ≠ some 0) : trimL xs = xs.take n := by
  unfold trimL
  conv => lhs; rw [← List.take_append_drop n xs, List.reverse_append]
  have h1 : ∀ l : List Int, (∀ x, x ∈ l → x = 0) → ∀ m : List Int, (l ++ m).dropWhile (· == 0) = m.dropWhile (· == 0) := by
    intro l
    induction l with
    | nil => intro _ m; rfl
    | cons a t ih =>
      intro h m
      obtain rfl := h a (by simp)
      simp only [List.cons_append, List.dropWhile_cons, beq_self_eq_true, if_true]
      exact ih (fun x hx => h x (by simp [hx])) m
  rw [h1 _ (fun x hx => hz x (by simpa using hx))]
  cases n with
  | zero => simp
  | succ n =>
    have hlt : n < xs.length := by omega
    have e : xs.take (n + 1) = xs.take n ++ [xs[n]] := by rw [List.take_succ_eq_append_getElem hlt]
    have hne : xs[n] ≠ 0 := by
      intro e0
      exact ht (by omega) (by simp [List.getElem?_eq_getElem hlt, e0])
    rw [e, List.reverse_append]
    simp [List.dropWhile_cons, hne]

/-- may it be a natural? -/
def may (xs : List Int) : Prop := xs.length ≤ 2048 ∧ xs[xs.length - 1]? ≠ some 0
instance (xs : List Int) : Decidable (may xs) := inferInstanceAs (Decidable (_ ∧ _))

theorem take_step {α : Type} {xs : List α} {i : Nat} {e : α} (h : xs[i]? = some e) : xs.take (i + 1) = xs.take i ++ [e] := by
  obtain ⟨h1, rfl⟩ := get_of_some h
  exact List.take_succ_eq_append_getElem h1

theorem set_fill {xs : List Int} {n i : Nat} {e : Int} (h : xs[i]? = some e) (hi : i < n) : (xs.take i ++ List.replicate (n - i) 0).set i e = xs.take (i + 1) ++ List.replicate (n - (i + 1)) 0 := by
  obtain ⟨h1, _⟩ := get_of_some h
  have hl : (xs.take i).length = i := by rw [List.length_take]; omega
  rw [take_step h, List.set_append, if_neg (by omega), hl, Nat.sub_self, show n - i = (n - (i + 1)) + 1 by omega, List.replicate_succ, List.set_cons_zero, List.append_assoc, List.singleton_append]

theorem trimL_spec (xs : List Int) : ∃ n, n ≤ xs.length ∧ (∀ x, x ∈ xs.drop n → x = 0) ∧ (0 < n → xs[n-1]? ≠ some 0) ∧ trimL xs = xs.take n := by
  have key : ∀ n, n ≤ xs.length → (∀ x, x ∈ xs.drop n → x = 0) → ∃ n, n ≤ xs.length ∧ (∀ x, x ∈ xs.drop n → x = 0) ∧ (0 < n → xs[n-1]? ≠ some 0) := by
    intro n
    induction n with
    | zero => intro h1 h2; exact ⟨0, h1, h2, fun h => by omega⟩
    | succ n ih =>
      intro h1 h2
      by_cases h : xs[n]? = some 0
      · refine ih (by omega) fun x hx => ?_
        rw [List.drop_eq_getElem_cons (by omega)] at hx
        rcases List.mem_cons.1 hx with rfl | hx
        · exact (get_of_some h).2
        · exact h2 x hx
      · exact ⟨n + 1, h1, h2, fun _ => h⟩
  obtain ⟨n, h1, h2, h3⟩ := key xs.length (Nat.le_refl _) (by simp)
  exact ⟨n, h1, h2, h3, trimL_take h1 h2 h3⟩

theorem trimL_len (xs : List Int) : (trimL xs).length ≤ xs.length := by
  obtain ⟨n, h1, _, _, e⟩ := trimL_spec xs
  rw [e, List.length_take]; omega

theorem trimL_may {xs : List Int} (h : (trimL xs).length ≤ 2048) : may (trimL xs) := by
  obtain ⟨n, h1, h2, h3, e⟩ := trimL_spec xs
  refine ⟨h, ?_⟩
  rw [e, List.length_take, Nat.min_eq_left h1]
  cases n with
  | zero => simp
  | succ n =>
    rw [Nat.add_sub_cancel, List.getElem?_take, if_pos (by omega)]
    exact h3 (by omega)

/-! ### trim -/
theorem natural_May (fr : Bool) (xs : List Int) : FSpec0 Tryd.prog 7 [uL fr xs] (fun r => r = .bool (decide (may xs))) := by
  refine fspec0_of_run k7 ?_
  simp only [uL, c7, W1, W2, W3, popTo, memb, res, wres, env0, byteAt, optI, cutB, cutL, sliceR, strR, ldCells, ldR, iaR, faR, lenR, lenSR, ixR, exR, nchkR, mxR, csR, up, ZV.av, ZV.fit, zfits, fits, fitsL, cellsOf, down, downL, downLL, stR, mkR, bsR, boxR, alR, apR, cpR, srcQ, solid, killC, killV, killE, killO, killH, hget, hset, hdel, pubV, pubC, pubO, renV, renC, renO, reduceIte, reduceCtorEq, Nat.reduceEqDiff, Nat.reduceLT, Nat.reduceAdd, Int.reduceToNat, Nat.reduceLeDiff, Int.reducePow, Int.reduceLE, Int.reduceLT]
  intro hlen
  have key : ∀ b : Prop, [Decidable b] → (b ↔ may xs) → AV.bool (decide b) = AV.bool (decide (may xs)) := fun b _ h => by congr 1; simp [h]
  refine ⟨fun h1 => fun _ => ⟨fun h2 => ?_, fun h2 => fun _ => ⟨by omega, by omega, fun e he => ?_⟩⟩, fun h1 => ?_⟩
  · refine ret0 (.bool true) (by simp only [retR, retA, retL, ret1, ret1L, eget, hget, hset, St.set, eset, List.map_cons, List.map_nil, reduceIte, reduceCtorEq, Nat.reduceEqDiff, Nat.reduceLT, true_and, and_true, false_or, or_true, true_or, List.drop_zero, List.take_length, scalE_I, scalE_B, scalE_S]) ?_
    have : xs = [] := List.eq_nil_of_length_eq_zero (by omega)
    subst this; simp [may]
  · rw [show (↑xs.length - 1 : Int).toNat = xs.length - 1 by omega] at he
    refine ret0 (.bool (decide ¬ e = 0)) (by simp only [retR, retA, retL, ret1, ret1L, eget, hget, hset, St.set, eset, List.map_cons, List.map_nil, reduceIte, reduceCtorEq, Nat.reduceEqDiff, Nat.reduceLT, true_and, and_true, false_or, or_true, true_or, List.drop_zero, List.take_length, scalE_I, scalE_B, scalE_S]) (key _ ?_)
    unfold may
    rw [he]; simp; omega
  · refine ret0 (.bool false) (by simp only [retR, retA, retL, ret1, ret1L, eget, hget, hset, St.set, eset, List.map_cons, List.map_nil, reduceIte, reduceCtorEq, Nat.reduceEqDiff, Nat.reduceLT, true_and, and_true, false_or, or_true, true_or, List.drop_zero, List.take_length, scalE_I, scalE_B, scalE_S]) ?_
    have : ¬ may xs := fun h => h1 (by have := h.1; omega)
    simp [this]

theorem sloperef1_May (fr : Bool) (xs : List Int) : FSpec0 Tryd.prog 8 [uL fr xs] (fun r => r = .bool (decide (may xs))) := by
  refine fspec0_of_run k8 ?_
  simp only [uL, c8, W1, W2, W3, popTo, memb, res, wres, env0, byteAt, optI, cutB, cutL, sliceR, strR, ldCells, ldR, iaR, faR, lenR, lenSR, ixR, exR, nchkR, mxR, csR, up, ZV.av, ZV.fit, zfits, fits, fitsL, cellsOf, down, downL, downLL, stR, mkR, bsR, boxR, alR, apR, cpR, srcQ, solid, killC, killV, killE, killO, killH, hget, hset, hdel, pubV, pubC, pubO, renV, renC, renO, reduceIte, reduceCtorEq, Nat.reduceEqDiff, Nat.reduceLT, Nat.reduceAdd, Int.reduceToNat, Nat.reduceLeDiff, Int.reducePow, Int.reduceLE, Int.reduceLT]
  intro hlen
  have key : ∀ b : Prop, [Decidable b] → (b ↔ may xs) → AV.bool (decide b) = AV.bool (decide (may xs)) := fun b _ h => by congr 1; simp [h]
  refine ⟨fun h1 => ?_, fun h1 => fun _ => ⟨fun h2 => ?_, fun h2 => fun _ => ⟨by omega, by omega, fun e he => ?_⟩⟩⟩
  · refine ret0 (.bool false) (by simp only [retR, retA, retL, ret1, ret1L, eget, hget, hset, St.set, eset, List.map_cons, List.map_nil, reduceIte, reduceCtorEq, Nat.reduceEqDiff, Nat.reduceLT, true_and, and_true, false_or, or_true, true_or, List.drop_zero, List.take_length, scalE_I, scalE_B, scalE_S]) ?_
    have : ¬ may xs := fun h => by have := h.1; omega
    simp [this]
  · refine ret0 (.bool true) (by simp only [retR, retA, retL, ret1, ret1L, eget, hget, hset, St.set, eset, List.map_cons, List.map_nil, reduceIte, reduceCtorEq, Nat.reduceEqDiff, Nat.reduceLT, true_and, and_true, false_or, or_true, true_or, List.drop_zero, List.take_length, scalE_I, scalE_B, scalE_S]) ?_
    have : xs = [] := List.eq_nil_of_length_eq_zero (by omega)
    subst this; simp [may]
  · rw [show (↑xs.length - 1 : Int).toNat = xs.length - 1 by omega] at he
    refine ret0 (.bool (decide ¬ e = 0)) (by simp only [retR, retA, retL, ret1, ret1L, eget, hget, hset, St.set, eset, List.map_cons, List.map_nil, reduceIte, reduceCtorEq, Nat.reduceEqDiff, Nat.reduceLT, true_and, and_true, false_or, or_true, true_or, List.drop_zero, List.take_length, scalE_I, scalE_B, scalE_S]) (key _ ?_)
    unfold may
    rw [he]; simp; omega

theorem slopeplain_SameNat (fr fr' : Bool) (xs ys : List Int) : FSpec0 Tryd.prog 22 [uL fr xs, uL fr' ys] (fun r => r = .bool (decide (xs = ys))) := by
  refine fspec0_of_run k22 ?_
  simp only [uL, c22, W1, W2, W3, popTo, memb, res, wres, env0, byteAt, optI, cutB, cutL, sliceR, strR, ldCells, ldR, iaR, faR, lenR, lenSR, ixR, exR, nchkR, mxR, csR, up, ZV.av, ZV.fit, zfits, fits, fitsL, cellsOf, down, downL, downLL, stR, mkR, bsR, boxR, alR, apR, cpR, srcQ, solid, killC, killV, killE, killO, killH, hget, hset, hdel, pubV, pubC, pubO, renV, renC, renO, reduceIte, reduceCtorEq, Nat.reduceEqDiff, Nat.reduceLT, Nat.reduceAdd, Int.reduceToNat, Nat.reduceLeDiff, Int.reducePow, Int.reduceLE, Int.reduceLT]
  intro hlx hly
  refine ⟨fun h1 => ?_, fun h1 => ?_⟩
  · refine ret0 (.bool false) (by simp only [retR, retA, retL, ret1, ret1L, eget, hget, hset, St.set, eset, List.map_cons, List.map_nil, reduceIte, reduceCtorEq, Nat.reduceEqDiff, Nat.reduceLT, true_and, and_true, false_or, or_true, true_or, List.drop_zero, List.take_length, scalE_I, scalE_B, scalE_S]) ?_
    have : ¬ xs = ys := fun h => h1 (by rw [h])
    simp [this]
  have hl : xs.length = ys.length := by omega
  refine cut_intro (fun st => xs = ys ∧ st = ⟨[], []⟩) ?_ ?_
  · simp only [W1, W2, W3, popTo, memb, res, wres, env0, byteAt, optI, cutB, cutL, sliceR, strR, ldCells, ldR, iaR, faR, lenR, lenSR, ixR, exR, nchkR, mxR, csR, up, ZV.av, ZV.fit, zfits, fits, fitsL, cellsOf, down, downL, downLL, stR, mkR, bsR, boxR, alR, apR, cpR, srcQ, solid, killC, killV, killE, killO, killH, hget, hset, hdel, pubV, pubC, pubO, renV, renC, renO, reduceIte, reduceCtorEq, Nat.reduceEqDiff, Nat.reduceLT, Nat.reduceAdd, Int.reduceToNat, Nat.reduceLeDiff, Int.reducePow, Int.reduceLE, Int.reduceLT]
    refine loop_intro (fun m st => ∃ i : Nat, i ≤ xs.length ∧ m = xs.length - i ∧ xs.take i = ys.take i ∧ st = ⟨[(0, .ro fr 1 (encI .u32) xs), (1, .ro fr' 1 (encI .u32) ys), (5, .int .i64 i)], []⟩) xs.length
      [(0, .ro fr 1 (encI .u32) xs), (1, .ro fr' 1 (encI .u32) ys), (5, .int .i64 (0 : Nat))] (by simp [eget]) ⟨0, by omega, by omega, by simp, rfl⟩ ?_
    rintro m st ⟨i, hi, rfl, he, rfl⟩
    simp only [W1, W2, W3, popTo, memb, res, wres, env0, byteAt, optI, cutB, cutL, sliceR, strR, ldCells, ldR, iaR, faR, lenR, lenSR, ixR, exR, nchkR, mxR, csR, up, ZV.av, ZV.fit, zfits, fits, fitsL, cellsOf, down, downL, downLL, stR, mkR, bsR, boxR, alR, apR, cpR, srcQ, solid, killC, killV, killE, killO, killH, hget, hset, hdel, pubV, pubC, pubO, renV, renC, renO, reduceIte, reduceCtorEq, Nat.reduceEqDiff, Nat.reduceLT, Nat.reduceAdd, Int.reduceToNat, Nat.reduceLeDiff, Int.reducePow, Int.reduceLE, Int.reduceLT]
    intro _
    refine ⟨fun h0 => ⟨by omega, fun e hx => ⟨by omega, fun e' hy => ⟨fun hne => ?_, fun heq => ⟨by omega, ?_⟩⟩⟩⟩, fun h0 => ?_⟩
    · refine ret0 (.bool false) (by simp only [retR, retA, retL, ret1, ret1L, eget, hget, hset, St.set, eset, List.map_cons, List.map_nil, reduceIte, reduceCtorEq, Nat.reduceEqDiff, Nat.reduceLT, true_and, and_true, false_or, or_true, true_or, List.drop_zero, List.take_length, scalE_I, scalE_B, scalE_S]) ?_
      have : ¬ xs = ys := fun h => hne (by subst h; rw [hx] at hy; simpa using hy)
      simp [this]
    · refine back_intro [(0, .ro fr 1 (encI .u32) xs), (1, .ro fr' 1 (encI .u32) ys), (5, .int .i64 ((i + 1 : Nat) : Int))] (by simp [eget]) (by omega) ⟨i + 1, by omega, rfl, ?_, rfl⟩
      rw [take_step hx, take_step hy, he, Classical.not_not.1 heq]
    · refine join_intro [] (by simp) ⟨?_, rfl⟩
      rw [List.take_of_length_le (by omega), List.take_of_length_le (by omega)] at he
      exact he
  · rintro st ⟨rfl, rfl⟩
    simp only [W1, W2, W3, popTo, memb, res, wres, env0, byteAt, optI, cutB, cutL, sliceR, strR, ldCells, ldR, iaR, faR, lenR, lenSR, ixR, exR, nchkR, mxR, csR, up, ZV.av, ZV.fit, zfits, fits, fitsL, cellsOf, down, downL, downLL, stR, mkR, bsR, boxR, alR, apR, cpR, srcQ, solid, killC, killV, killE, killO, killH, hget, hset, hdel, pubV, pubC, pubO, renV, renC, renO, reduceIte, reduceCtorEq, Nat.reduceEqDiff, Nat.reduceLT, Nat.reduceAdd, Int.reduceToNat, Nat.reduceLeDiff, Int.reducePow, Int.reduceLE, Int.reduceLT]
    exact ret0 (.bool true) (by simp only [retR, retA, retL, ret1, ret1L, eget, hget, hset, St.set, eset, List.map_cons, List.map_nil, reduceIte, reduceCtorEq, Nat.reduceEqDiff, Nat.reduceLT, true_and, and_true, false_or, or_true, true_or, List.drop_zero, List.take_length, scalE_I, scalE_B, scalE_S]) (by simp)

/-! ### From, Uint -/
def fromL (v : Int) : List Int := trimL [v % 4294967296, v / 4294967296]

def uintV (xs : List Int) : Int := xs.getD 0 0 + xs.getD 1 0 * 4294967296

/-- the limbs from place i on, as a number -/
def val : List Int → Int
  | [] => 0
  | x :: xs => x + 4294967296 * val xs

theorem lim.tail {x : Int} {xs : List Int} (h : lim (x :: xs)) : lim xs := fun y hy => h y (List.mem_cons_of_mem _ hy)
theorem lim.head {x : Int} {xs : List Int} (h : lim (x :: xs)) : 0 ≤ x ∧ x < 4294967296 := h x List.mem_cons_self
theorem lim.drop {xs : List Int} (h : lim xs) (n : Nat) : lim (xs.drop n) := fun y hy => h y (List.mem_of_mem_drop hy)
theorem lim.take {xs : List Int} (h : lim xs) (n : Nat) : lim (xs.take n) := fun y hy => h y (List.mem_of_mem_take hy)
theorem lim.get {xs : List Int} (h : lim xs) {i : Nat} {e : Int} (he : xs[i]? = some e) : 0 ≤ e ∧ e < 4294967296 := h e (List.mem_of_getElem? he)

theorem val_bound : ∀ {xs : List Int}, lim xs → 0 ≤ val xs ∧ val xs < 4294967296 ^ xs.length
  | [], _ => by simp [val]
  | x :: xs, h => by
    obtain ⟨h1, h2⟩ := val_bound h.tail
    have h3 := h.head
    simp only [val, List.length_cons, Int.pow_succ]
    refine ⟨by omega, ?_⟩
    generalize (4294967296 : Int) ^ xs.length = p at *
    omega

theorem val_drop {xs : List Int} {i : Nat} {e : Int} (h : xs[i]? = some e) : val (xs.drop i) = e + 4294967296 * val (xs.drop (i + 1)) := by
  obtain ⟨h1, rfl⟩ := get_of_some h
  rw [List.drop_eq_getElem_cons h1]; rfl

theorem val_zero : ∀ {xs : List Int}, (∀ x, x ∈ xs → x = 0) → val xs = 0
  | [], _ => rfl
  | x :: xs, h => by
    have h1 := h x List.mem_cons_self
    have h2 := val_zero fun y hy => h y (List.mem_cons_of_mem x hy)
    simp [val, h1, h2]

theorem val_append : ∀ (xs ys : List Int), val (xs ++ ys) = val xs + 4294967296 ^ xs.length * val ys
  | [], ys => by simp [val]
  | x :: xs, ys => by
    simp only [List.cons_append, val, val_append xs ys, List.length_cons, Int.pow_succ]
    rw [Int.mul_add, Int.add_assoc, ← Int.mul_assoc, Int.mul_comm (4294967296 ^ xs.length) 4294967296]

theorem val_trimL (xs : List Int) : val (trimL xs) = val xs := by
  obtain ⟨n, h1, h2, h3, e⟩ := trimL_spec xs
  conv => rhs; rw [← List.take_append_drop n xs, val_append, val_zero h2]
  rw [e]; simp

theorem trimL_lim {xs : List Int} (h : lim xs) : lim (trimL xs) := by
  obtain ⟨n, h1, h2, h3, e⟩ := trimL_spec xs
  rw [e]; exact h.take n

theorem or_add (a e : Int) (ha : 0 ≤ a) (h0 : 0 ≤ e) (he : e < 4294967296) : (((a * 4294967296).toNat ||| e.toNat : Nat) : Int) = e + 4294967296 * a := by
  obtain ⟨a, rfl⟩ := Int.eq_ofNat_of_zero_le ha
  obtain ⟨e, rfl⟩ := Int.eq_ofNat_of_zero_le h0
  have h1 : ((a : Int) * 4294967296).toNat = a <<< 32 := by rw [Nat.shiftLeft_eq]; omega
  have h2 : ((e : Int)).toNat = e := Int.toNat_natCast e
  rw [h1, h2, ← Nat.shiftLeft_add_eq_or_of_lt (by omega) a, Nat.shiftLeft_eq]
  omega

theorem natural_Uint (fr : Bool) (xs : List Int) : FSpec0 Tryd.prog 4 [uL fr xs] (fun r => r = if may xs ∧ xs.length ≤ 2 then .tup [.int .u64 (val xs), .bool true] else .tup [.int .u64 0, .bool false]) := by
  refine FSpec0.of_facts fun hf => fspec0_of_run k4 ?_
  have hl : lim xs := lim_of_factL hf.1
  simp only [uL, c4, W1, W2, W3, popTo, memb, res, wres, env0, byteAt, optI, cutB, cutL, sliceR, strR, ldCells, ldR, iaR, faR, lenR, lenSR, ixR, exR, nchkR, mxR, csR, up, ZV.av, ZV.fit, zfits, fits, fitsL, cellsOf, down, downL, downLL, stR, mkR, bsR, boxR, alR, apR, cpR, srcQ, solid, killC, killV, killE, killO, killH, hget, hset, hdel, pubV, pubC, pubO, renV, renC, renO, reduceIte, reduceCtorEq, Nat.reduceEqDiff, Nat.reduceLT, Nat.reduceAdd, Int.reduceToNat, Nat.reduceLeDiff, Int.reducePow, Int.reduceLE, Int.reduceLT]
  refine callK0 (natural_May fr xs) (by simp only [uL, subs, subA, sub, subL, lends, lend, hget, true_and, and_true, reduceIte, reduceCtorEq, Nat.reduceEqDiff, imp_self, or_true, true_or, false_implies, Bool.false_eq_true, List.length_nil, List.map_cons, List.map_nil, encI_app, encB_app, encS_app, encR_app]) fun r hr => ?_
  subst hr
  simp only [W1, W2, W3, popTo, memb, res, wres, env0, byteAt, optI, cutB, cutL, sliceR, strR, ldCells, ldR, iaR, faR, lenR, lenSR, ixR, exR, nchkR, mxR, csR, up, ZV.av, ZV.fit, zfits, fits, fitsL, cellsOf, down, downL, downLL, stR, mkR, bsR, boxR, alR, apR, cpR, srcQ, solid, killC, killV, killE, killO, killH, hget, hset, hdel, pubV, pubC, pubO, renV, renC, renO, reduceIte, reduceCtorEq, Nat.reduceEqDiff, Nat.reduceLT, Nat.reduceAdd, Int.reduceToNat, Nat.reduceLeDiff, Int.reducePow, Int.reduceLE, Int.reduceLT]
  have bad : ¬ (may xs ∧ xs.length ≤ 2) → ∀ env, eget env 2 = .int .u64 0 → eget env 3 = .bool false → Ret0 [2, 3] (fun r => r = if may xs ∧ xs.length ≤ 2 then .tup [.int .u64 (val xs), .bool true] else .tup [.int .u64 0, .bool false]) ⟨env, []⟩ := fun hn env h2 h3 =>
    ret0 (.tup [.int .u64 0, .bool false]) (by simp only [h2, h3, retR, retA, retL, ret1, ret1L, eget, hget, hset, St.set, eset, List.map_cons, List.map_nil, reduceIte, reduceCtorEq, Nat.reduceEqDiff, Nat.reduceLT, true_and, and_true, false_or, or_true, true_or, List.drop_zero, List.take_length, scalE_I, scalE_B, scalE_S]) (by rw [if_neg hn])
  refine ⟨fun hm => bad (fun h => hm h.1) _ rfl rfl, fun hm => fun _ => ⟨fun h2 => bad (fun h => by omega) _ rfl rfl, fun h2 => fun _ => ⟨by omega, ?_⟩⟩⟩
  have hm : may xs := Classical.not_not.1 hm
  refine loop_intro (fun m st => ∃ i : Nat, i ≤ xs.length ∧ m = i ∧ st = ⟨[(0, .ro fr 1 (encI .u32) xs), (4, .int .u64 (val (xs.drop i))), (5, .int .i64 ((i : Int) - 1))], []⟩) xs.length
    [(0, .ro fr 1 (encI .u32) xs), (4, .int .u64 0), (5, .int .i64 ((xs.length : Int) - 1))] (by simp [eget]) ⟨xs.length, by omega, rfl, by simp [val]⟩ ?_
  rintro m st ⟨i, hi, rfl, rfl⟩
  simp only [W1, W2, W3, popTo, memb, res, wres, env0, byteAt, optI, cutB, cutL, sliceR, strR, ldCells, ldR, iaR, faR, lenR, lenSR, ixR, exR, nchkR, mxR, csR, up, ZV.av, ZV.fit, zfits, fits, fitsL, cellsOf, down, downL, downLL, stR, mkR, bsR, boxR, alR, apR, cpR, srcQ, solid, killC, killV, killE, killO, killH, hget, hset, hdel, pubV, pubC, pubO, renV, renC, renO, reduceIte, reduceCtorEq, Nat.reduceEqDiff, Nat.reduceLT, Nat.reduceAdd, Int.reduceToNat, Nat.reduceLeDiff, Int.reducePow, Int.reduceLE, Int.reduceLT]
  refine ⟨fun h0 => ⟨by omega, fun e he => ?_⟩, fun h0 => ?_⟩
  · intro _ _
    have hb := val_bound (hl.drop m)
    have hlt : val (xs.drop m) < 4294967296 := by
      have : (xs.drop m).length ≤ 1 := by rw [List.length_drop]; omega
      generalize hq : (xs.drop m).length = q at *
      match q, this with
      | 0, _ => omega
      | 1, _ => omega
    have hle := hl.get he
    have e1 : val (xs.drop m) * 4294967296 % 18446744073709551616 = val (xs.drop m) * 4294967296 := by omega
    rw [e1, or_add _ _ hb.1 hle.1 hle.2]
    refine ⟨by omega, by omega, ?_⟩
    rw [show (↑m - 1 : Int).toNat = m - 1 by omega] at he
    refine back_intro [(0, .ro fr 1 (encI .u32) xs), (4, .int .u64 (val (xs.drop (m - 1)))), (5, .int .i64 (((m - 1 : Nat) : Int) - 1))] ?_ (by omega) ⟨m - 1, by omega, rfl, rfl⟩
    rw [val_drop he, show m - 1 + 1 = m by omega]
    simp [eget]; omega
  · obtain rfl : m = 0 := by omega
    refine ret0 (.tup [.int .u64 (val xs), .bool true]) (by simp only [retR, retA, retL, ret1, ret1L, eget, hget, hset, St.set, eset, List.map_cons, List.map_nil, reduceIte, reduceCtorEq, Nat.reduceEqDiff, Nat.reduceLT, true_and, and_true, false_or, or_true, true_or, List.drop_zero, List.take_length, scalE_I, scalE_B, scalE_S]) (by rw [if_pos ⟨hm, by omega⟩])

end Go.Vc
