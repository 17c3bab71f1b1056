/-
  Comparisons.
-/
import Derived.Test.YtdlddbclcmecjaaNat4
set_option linter.unusedVariables false
set_option linter.unusedSimpArgs false
namespace Go.Vc
open Go
open Go.Proofs

/- natural.compare: arguments 2, results in [4]; slots in use where its loops begin: [[0, 1, 5]] -/
def c104 : MC := .seq (.ops [ .op (some 4) none (.p (.mv (.i .i64 (0)))), .gh (.drop [4])]) (.seq (.seq (.ops [ .op (some 6) none (.p (.mv (.t 0))), .op (some 7) none (.p (.len (.t 6))), .op (some 8) none (.p (.mv (.t 1))), .op (some 9) none (.p (.len (.t 8))), .op (some 10) none (.p (.bin .neq (.t 7) (.t 9))), .gh (.drop [6, 7, 8, 9])]) (.cond (.t 10) (.seq (.seq (.ops [ .op (some 11) none (.p (.mv (.t 0))), .op (some 12) none (.p (.len (.t 11))), .op (some 13) none (.p (.mv (.t 1))), .op (some 14) none (.p (.len (.t 13))), .op (some 15) none (.p (.bin .lss (.t 12) (.t 14))), .gh (.drop [0, 1, 11, 12, 13, 14])]) (.cond (.t 15) (.seq (.ops [ .op (some 4) none (.p (.mv (.i .i64 (-1))))]) (.ret)) (.skip))) (.seq (.ops [ .op (some 4) none (.p (.mv (.i .i64 (1))))]) (.ret))) (.skip))) (.seq (.seq (.ops [ .op (some 16) none (.p (.mv (.t 0))), .op (some 17) none (.p (.len (.t 16))), .op (some 18) none (.p (.bin .sub (.t 17) (.i .i64 (1)))), .op (some 5) none (.p (.mv (.t 18))), .gh (.drop [16, 17, 18])]) (.block 0 (.loop (.seq (.seq (.ops [ .op (some 19) none (.p (.mv (.t 5))), .op (some 20) none (.p (.bin .geq (.t 19) (.i .i64 (0)))), .gh (.drop [19])]) (.cond (.t 20) (.skip) (.exit 0))) (.seq (.block 1 (.seq (.ops [ .op (some 23) none (.p (.mv (.t 0))), .op (some 24) none (.p (.mv (.t 5))), .op (some 25) none (.p (.ia 1 (.t 23) (.t 24))), .op (some 26) none (.p (.ld 1 false (.t 25))), .op (some 27) none (.p (.mv (.t 1))), .op (some 28) none (.p (.mv (.t 5))), .op (some 29) none (.p (.ia 1 (.t 27) (.t 28))), .op (some 30) none (.p (.ld 1 false (.t 29))), .op (some 31) none (.p (.bin .neq (.t 26) (.t 30)))]) (.gh (.drop [23, 24, 25, 26, 27, 28, 29, 30]) (.cond (.t 31) (.seq (.seq (.ops [ .op (some 32) none (.p (.mv (.t 0))), .op (some 33) none (.p (.mv (.t 5))), .op (some 34) none (.p (.ia 1 (.t 32) (.t 33))), .op (some 35) none (.p (.ld 1 false (.t 34))), .op (some 36) none (.p (.mv (.t 1))), .op (some 37) none (.p (.mv (.t 5))), .op (some 38) none (.p (.ia 1 (.t 36) (.t 37))), .op (some 39) none (.p (.ld 1 false (.t 38))), .op (some 40) none (.p (.bin .lss (.t 35) (.t 39)))]) (.gh (.drop [0, 1, 5, 32, 33, 34, 35, 36, 37, 38, 39]) (.cond (.t 40) (.seq (.ops [ .op (some 4) none (.p (.mv (.i .i64 (-1))))]) (.ret)) (.skip)))) (.seq (.ops [ .op (some 4) none (.p (.mv (.i .i64 (1))))]) (.ret))) (.skip))))) (.ops [ .op (some 21) none (.p (.mv (.t 5))), .op (some 22) none (.p (.bin .sub (.t 21) (.i .i64 (1)))), .op (some 5) none (.p (.mv (.t 22))), .gh (.drop [21, 22])])))))) (.seq (.ops [ .op (some 4) none (.p (.mv (.i .i64 (0))))]) (.ret))))
theorem k104 : chkF Try.prog 104 2 [4] c104 = true := by kernel_rfl

/- natural.Cmp: arguments 2, results in [4]; slots in use where its loops begin: [] -/
def c56 : MC := .seq (.ops [ .op (some 4) none (.p (.mv (.i .i64 (0)))), .gh (.drop [4])]) (.seq (.seq (.ops [ .op (some 5) none (.p (.mv (.t 0))), .op (some 6) none (.p (.mv (.t 1))), .op (some 7) none (.w (.bs 24 1 [(.t 5), (.t 6)])), .op (some 8) none (.call 102 [(.t 7)]), .op (some 9) none (.p (.un .not (.t 8))), .gh (.drop [5, 6, 7, 8])]) (.cond (.t 9) (.seq (.ops [ .op (some 4) none (.p (.mv (.i .i64 (0))))]) (.ret)) (.skip))) (.seq (.ops [ .op (some 10) none (.p (.mv (.t 0))), .op (some 11) none (.p (.mv (.t 1))), .op (some 12) none (.call 104 [(.t 10), (.t 11)]), .op (some 4) none (.p (.mv (.t 12))), .gh (.drop [0, 1, 10, 11, 12])]) (.ret)))
theorem k56 : chkF Try.prog 56 2 [4] c56 = true := by kernel_rfl

/- sloperef1.Cmp: arguments 2, results in [4]; slots in use where its loops begin: [[0, 1, 5]] -/
def c57 : MC := .seq (.ops [ .op (some 4) none (.p (.mv (.i .i64 (0)))), .gh (.drop [4])]) (.seq (.seq (.ops [ .op (some 6) none (.p (.mv (.t 0))), .op (some 7) none (.call 85 [(.t 6)]), .op (some 8) none (.p (.un .not (.t 7))), .op (some 9) none (.p (.mv (.t 8))), .op (some 10) (some (9, false)) (.p (.mv (.t 1))), .op (some 11) (some (9, false)) (.call 85 [(.t 10)]), .op (some 12) (some (9, false)) (.p (.un .not (.t 11))), .op (some 13) none (.pick (.t 9) (.b true) (.t 12)), .gh (.drop [6, 7, 8, 9, 10, 11, 12])]) (.cond (.t 13) (.seq (.ops [ .op (some 4) none (.p (.mv (.i .i64 (0))))]) (.ret)) (.skip))) (.seq (.seq (.ops [ .op (some 14) none (.p (.mv (.t 0))), .op (some 15) none (.p (.len (.t 14))), .op (some 16) none (.p (.mv (.t 1))), .op (some 17) none (.p (.len (.t 16))), .op (some 18) none (.p (.bin .neq (.t 15) (.t 17))), .gh (.drop [14, 15, 16, 17])]) (.cond (.t 18) (.seq (.seq (.ops [ .op (some 19) none (.p (.mv (.t 0))), .op (some 20) none (.p (.len (.t 19))), .op (some 21) none (.p (.mv (.t 1))), .op (some 22) none (.p (.len (.t 21))), .op (some 23) none (.p (.bin .lss (.t 20) (.t 22))), .gh (.drop [0, 1, 19, 20, 21, 22])]) (.cond (.t 23) (.seq (.ops [ .op (some 4) none (.p (.mv (.i .i64 (-1))))]) (.ret)) (.skip))) (.seq (.ops [ .op (some 4) none (.p (.mv (.i .i64 (1))))]) (.ret))) (.skip))) (.seq (.seq (.ops [ .op (some 24) none (.p (.mv (.t 0))), .op (some 25) none (.p (.len (.t 24))), .op (some 26) none (.p (.bin .sub (.t 25) (.i .i64 (1)))), .op (some 5) none (.p (.mv (.t 26))), .gh (.drop [24, 25, 26])]) (.block 0 (.loop (.seq (.seq (.ops [ .op (some 27) none (.p (.mv (.t 5))), .op (some 28) none (.p (.bin .geq (.t 27) (.i .i64 (0)))), .gh (.drop [27])]) (.cond (.t 28) (.skip) (.exit 0))) (.seq (.block 1 (.seq (.seq (.ops [ .op (some 31) none (.p (.mv (.t 0))), .op (some 32) none (.p (.mv (.t 5))), .op (some 33) none (.p (.ia 1 (.t 31) (.t 32))), .op (some 34) none (.p (.ld 1 false (.t 33))), .op (some 35) none (.p (.mv (.t 1))), .op (some 36) none (.p (.mv (.t 5))), .op (some 37) none (.p (.ia 1 (.t 35) (.t 36))), .op (some 38) none (.p (.ld 1 false (.t 37))), .op (some 39) none (.p (.bin .lss (.t 34) (.t 38)))]) (.gh (.drop [31, 32, 33, 34, 35, 36, 37, 38]) (.cond (.t 39) (.seq (.ops [ .op (some 4) none (.p (.mv (.i .i64 (-1))))]) (.ret)) (.skip)))) (.seq (.ops [ .op (some 40) none (.p (.mv (.t 0))), .op (some 41) none (.p (.mv (.t 5))), .op (some 42) none (.p (.ia 1 (.t 40) (.t 41))), .op (some 43) none (.p (.ld 1 false (.t 42))), .op (some 44) none (.p (.mv (.t 1))), .op (some 45) none (.p (.mv (.t 5))), .op (some 46) none (.p (.ia 1 (.t 44) (.t 45))), .op (some 47) none (.p (.ld 1 false (.t 46))), .op (some 48) none (.p (.bin .gtr (.t 43) (.t 47)))]) (.gh (.drop [40, 41, 42, 43, 44, 45, 46, 47]) (.cond (.t 48) (.seq (.ops [ .op (some 4) none (.p (.mv (.i .i64 (1))))]) (.ret)) (.skip)))))) (.ops [ .op (some 29) none (.p (.mv (.t 5))), .op (some 30) none (.p (.bin .sub (.t 29) (.i .i64 (1)))), .op (some 5) none (.p (.mv (.t 30))), .gh (.drop [29, 30])])))))) (.seq (.ops [ .op (some 4) none (.p (.mv (.i .i64 (0))))]) (.ret)))))
theorem k57 : chkF Try.prog 57 2 [4] c57 = true := by kernel_rfl



def cmpI (a b : Int) : Int := if a < b then -1 else if b < a then 1 else 0
def top (xs : List Int) : Prop := xs[xs.length - 1]? ≠ some 0
theorem top_may {xs : List Int} (h : may xs) : top xs := h.2
theorem top_limbs (v : Int) : top (limbs v) := limbs_top v

theorem val_top : ∀ {xs : List Int}, lim xs → top xs → xs ≠ [] → (4294967296 : Int) ^ (xs.length - 1) ≤ val xs
  | [], _, _, h => absurd rfl h
  | [x], hl, ht, _ => by
    have hx := hl.head
    simp [top, val] at ht ⊢; omega
  | x :: y :: ys, hl, ht, _ => by
    have hx := hl.head
    have := val_top (xs := y :: ys) hl.tail (by simpa [top] using ht) (by simp)
    simp only [List.length_cons, Nat.add_sub_cancel, val] at this ⊢
    rw [pow_s]
    omega

theorem val_lt_len {xs ys : List Int} (hx : lim xs) (hy : lim ys) (ty : top ys) (h : xs.length < ys.length) : val xs < val ys := by
  have h1 := (val_bound hx).2
  have h2 := val_top hy ty (by intro e; subst e; simp at h)
  have h3 : (4294967296 : Int) ^ xs.length ≤ 4294967296 ^ (ys.length - 1) := pow_mono (by omega)
  omega

theorem val_split (xs : List Int) (i : Nat) (hi : i ≤ xs.length) : val xs = val (xs.take i) + 4294967296 ^ i * val (xs.drop i) := by
  conv => lhs; rw [← List.take_append_drop i xs, val_append, List.length_take, Nat.min_eq_left hi]

theorem val_lt_at {xs ys : List Int} (hx : lim xs) (hy : lim ys) {i : Nat} {a b : Int} (ha : xs[i]? = some a) (hb : ys[i]? = some b) (hd : xs.drop (i + 1) = ys.drop (i + 1)) (h : a < b) : val xs < val ys := by
  obtain ⟨h1, _⟩ := get_of_some ha
  obtain ⟨h2, _⟩ := get_of_some hb
  rw [val_split xs i (by omega), val_split ys i (by omega), val_drop ha, val_drop hb, hd]
  have b1 := (val_bound (hx.take i)).2
  have b2 := (val_bound (hy.take i)).1
  rw [List.length_take, Nat.min_eq_left (by omega)] at b1
  have hp := pow_pos' i
  have : (4294967296 : Int) ^ i * (a + 1) ≤ 4294967296 ^ i * b := Int.mul_le_mul_of_nonneg_left (by omega) (by omega)
  rw [Int.mul_add] at this ⊢
  rw [Int.mul_add]
  omega

theorem cmp_lt {a b : Int} (h : a < b) : cmpI a b = -1 := by simp [cmpI, h]
theorem cmp_gt {a b : Int} (h : b < a) : cmpI a b = 1 := by unfold cmpI; rw [if_neg (by omega), if_pos h]
theorem cmp_eq {a b : Int} (h : a = b) : cmpI a b = 0 := by subst h; simp [cmpI]

theorem drop_step {α : Type} {xs ys : List α} {i : Nat} {e : α} (h : xs[i]? = some e) (h' : ys[i]? = some e) (hd : xs.drop (i + 1) = ys.drop (i + 1)) : xs.drop i = ys.drop i := by
  obtain ⟨h1, rfl⟩ := get_of_some h
  obtain ⟨h2, e2⟩ := get_of_some h'
  rw [List.drop_eq_getElem_cons h1, List.drop_eq_getElem_cons h2, hd, e2]

theorem natural_compare (fr fr' : Bool) (xs ys : List Int) (tx : top xs) (ty : top ys) :
    FSpec0 Try.prog 104 [uL fr xs, uL fr' ys] (fun r => r = .int .i64 (cmpI (val xs) (val ys))) := by
  refine FSpec0.of_facts fun hf => fspec0_of_run k104 ?_
  have lx : lim xs := lim_of_factL hf.1
  have ly : lim ys := lim_of_factL hf.2.1
  simp only [uL, c104, W1, W2, W3, popTo, memb, res, wres, env0, byteAt, optI, cutB, cutL, sliceR, strR, ldCells, ldR, iaR, faR, lenR, lenSR, ixR, exR, nchkR, mxR, csR, up, ZV.av, ZV.fit, zfits, fits, fitsL, cellsOf, down, downL, downLL, stR, mkR, bsR, boxR, alR, apR, cpR, srcQ, solid, killC, killV, killE, killO, killH, hget, hset, hdel, pubV, pubC, pubO, renV, renC, renO, reduceIte, reduceCtorEq, Nat.reduceEqDiff, Nat.reduceLT, Nat.reduceAdd, Int.reduceToNat, Nat.reduceLeDiff, Int.reducePow, Int.reduceLE, Int.reduceLT]
  intro hlx hly
  refine ⟨fun h _ _ => ⟨fun h1 => ?_, fun h1 => ?_⟩, fun h _ => ⟨by omega, ?_⟩⟩
  · rw [cmp_lt (val_lt_len lx ly ty (by omega))]; exact ret1' (by simp only [retR, retA, retL, ret1, ret1L, eget, hget, hset, St.set, eset, List.map_cons, List.map_nil, reduceIte, reduceCtorEq, Nat.reduceEqDiff, Nat.reduceLT, true_and, and_true, false_or, or_true, true_or, List.drop_zero, List.take_length, scalE_I, scalE_B, scalE_S])
  · rw [cmp_gt (val_lt_len ly lx tx (by omega))]; exact ret1' (by simp only [retR, retA, retL, ret1, ret1L, eget, hget, hset, St.set, eset, List.map_cons, List.map_nil, reduceIte, reduceCtorEq, Nat.reduceEqDiff, Nat.reduceLT, true_and, and_true, false_or, or_true, true_or, List.drop_zero, List.take_length, scalE_I, scalE_B, scalE_S])
  · have hl : xs.length = ys.length := by omega
    refine loop_intro (fun m st => ∃ i : Nat, i ≤ xs.length ∧ m = i ∧ xs.drop i = ys.drop i ∧ st = ⟨[(0, .ro fr 1 (encI .u32) xs), (1, .ro fr' 1 (encI .u32) ys), (5, .int .i64 ((i : Int) - 1))], []⟩) xs.length
      [(0, .ro fr 1 (encI .u32) xs), (1, .ro fr' 1 (encI .u32) ys), (5, .int .i64 ((xs.length : Int) - 1))] (by simp [eget]) ⟨xs.length, by omega, rfl, by simp [hl], rfl⟩ ?_
    rintro m st ⟨i, hi, rfl, hd, rfl⟩
    simp only [W1, W2, W3, popTo, memb, res, wres, env0, byteAt, optI, cutB, cutL, sliceR, strR, ldCells, ldR, iaR, faR, lenR, lenSR, ixR, exR, nchkR, mxR, csR, up, ZV.av, ZV.fit, zfits, fits, fitsL, cellsOf, down, downL, downLL, stR, mkR, bsR, boxR, alR, apR, cpR, srcQ, solid, killC, killV, killE, killO, killH, hget, hset, hdel, pubV, pubC, pubO, renV, renC, renO, reduceIte, reduceCtorEq, Nat.reduceEqDiff, Nat.reduceLT, Nat.reduceAdd, Int.reduceToNat, Nat.reduceLeDiff, Int.reducePow, Int.reduceLE, Int.reduceLT]
    have fin : ∀ (a b : Int), xs[(↑m - 1 : Int).toNat]? = some a → ys[(↑m - 1 : Int).toNat]? = some b → (m : Int) - 1 ≥ 0 → ¬ a = b → (a < b → cmpI (val xs) (val ys) = -1) ∧ (¬ a < b → cmpI (val xs) (val ys) = 1) := fun a b ha hb h0 hne => by
      rw [show (↑m - 1 : Int).toNat = m - 1 by omega] at ha hb
      have hd' : xs.drop (m - 1 + 1) = ys.drop (m - 1 + 1) := by rw [show m - 1 + 1 = m by omega]; exact hd
      exact ⟨fun h => cmp_lt (val_lt_at lx ly ha hb hd' h), fun h => cmp_gt (val_lt_at ly lx hb ha hd'.symm (by omega))⟩
    refine ⟨fun h0 => ⟨by omega, fun a ha => ⟨by omega, fun b hb => ⟨fun hne => ⟨by omega, fun a' ha' => ⟨by omega, fun b' hb' => ?_⟩⟩, fun heq => ⟨by omega, ?_⟩⟩⟩⟩, fun h0 => ?_⟩
    · rw [ha] at ha'; rw [hb] at hb'
      obtain rfl := Option.some.inj ha'
      obtain rfl := Option.some.inj hb'
      obtain ⟨f1, f2⟩ := fin a b ha hb h0 hne
      exact ⟨fun h => ret1' (by rw [f1 h]; simp only [retR, retA, retL, ret1, ret1L, eget, hget, hset, St.set, eset, List.map_cons, List.map_nil, reduceIte, reduceCtorEq, Nat.reduceEqDiff, Nat.reduceLT, true_and, and_true, false_or, or_true, true_or, List.drop_zero, List.take_length, scalE_I, scalE_B, scalE_S]), fun h => ret1' (by rw [f2 h]; simp only [retR, retA, retL, ret1, ret1L, eget, hget, hset, St.set, eset, List.map_cons, List.map_nil, reduceIte, reduceCtorEq, Nat.reduceEqDiff, Nat.reduceLT, true_and, and_true, false_or, or_true, true_or, List.drop_zero, List.take_length, scalE_I, scalE_B, scalE_S])⟩
    · have heq := Classical.not_not.1 heq
      subst heq
      rw [show (↑m - 1 : Int).toNat = m - 1 by omega] at ha hb
      refine back_intro [(0, .ro fr 1 (encI .u32) xs), (1, .ro fr' 1 (encI .u32) ys), (5, .int .i64 (((m - 1 : Nat) : Int) - 1))] (by simp [eget]; omega) (by omega) ⟨m - 1, by omega, rfl, ?_, rfl⟩
      exact drop_step ha hb (by rw [show m - 1 + 1 = m by omega]; exact hd)
    · have : m = 0 := by omega
      subst this
      rw [List.drop_zero, List.drop_zero] at hd
      exact ret1' (by rw [cmp_eq (by rw [hd])]; simp only [retR, retA, retL, ret1, ret1L, eget, hget, hset, St.set, eset, List.map_cons, List.map_nil, reduceIte, reduceCtorEq, Nat.reduceEqDiff, Nat.reduceLT, true_and, and_true, false_or, or_true, true_or, List.drop_zero, List.take_length, scalE_I, scalE_B, scalE_S])

def cmpR (a b : List Int) : Int := if may a ∧ may b then cmpI (val a) (val b) else 0

theorem all_two (a b : List Int) : (∀ x, x ∈ [a, b] → may x) = (may a ∧ may b) := by simp

theorem natural_Cmp (fr fr' : Bool) (a b : List Int) : FSpec0 Try.prog 56 [uL fr a, uL fr' b] (fun r => r = .int .i64 (cmpR a b)) := by
  refine fspec0_of_run k56 ?_
  simp only [uL, c56, W1, W2, W3, popTo, memb, res, wres, env0, byteAt, optI, cutB, cutL, sliceR, strR, ldCells, ldR, iaR, faR, lenR, lenSR, ixR, exR, nchkR, mxR, csR, up, ZV.av, ZV.fit, zfits, fits, fitsL, cellsOf, down, downL, downLL, stR, mkR, bsR, boxR, alR, apR, cpR, srcQ, solid, killC, killV, killE, killO, killH, hget, hset, hdel, pubV, pubC, pubO, renV, renC, renO, reduceIte, reduceCtorEq, Nat.reduceEqDiff, Nat.reduceLT, Nat.reduceAdd, Int.reduceToNat, Nat.reduceLeDiff, Int.reducePow, Int.reduceLE, Int.reduceLT]
  refine call1 (natural_all false [a, b]) (by repeat (first | exact subs_nil | refine subs_int ?_ | refine subs_ro ?_ | refine subs_bool ?_ | refine subs_str ?_ | refine subs_nilro ?_ | refine subs_lits rfl ?_ | refine subs_all rfl rfl (by simp) ?_ | refine subs_own rfl rfl ?_ | refine subs_fn ?_)) ?_
  simp only [W1, W2, W3, popTo, memb, res, wres, env0, byteAt, optI, cutB, cutL, sliceR, strR, ldCells, ldR, iaR, faR, lenR, lenSR, ixR, exR, nchkR, mxR, csR, up, ZV.av, ZV.fit, zfits, fits, fitsL, cellsOf, down, downL, downLL, stR, mkR, bsR, boxR, alR, apR, cpR, srcQ, solid, killC, killV, killE, killO, killH, hget, hset, hdel, pubV, pubC, pubO, renV, renC, renO, reduceIte, reduceCtorEq, Nat.reduceEqDiff, Nat.reduceLT, Nat.reduceAdd, Int.reduceToNat, Nat.reduceLeDiff, Int.reducePow, Int.reduceLE, Int.reduceLT]
  refine ⟨fun h => ret1' (by rw [cmpR, if_neg (by simpa using h)]; simp only [retR, retA, retL, ret1, ret1L, eget, hget, hset, St.set, eset, List.map_cons, List.map_nil, reduceIte, reduceCtorEq, Nat.reduceEqDiff, Nat.reduceLT, true_and, and_true, false_or, or_true, true_or, List.drop_zero, List.take_length, scalE_I, scalE_B, scalE_S]), fun h => ?_⟩
  have h : may a ∧ may b := by simpa using h
  refine call1 (natural_compare fr fr' a b h.1.2 h.2.2) (by repeat (first | exact subs_nil | refine subs_int ?_ | refine subs_ro ?_ | refine subs_bool ?_ | refine subs_str ?_ | refine subs_nilro ?_ | refine subs_lits rfl ?_ | refine subs_all rfl rfl (by simp) ?_ | refine subs_own rfl rfl ?_ | refine subs_fn ?_)) ?_
  simp only [W1, W2, W3, popTo, memb, res, wres, env0, byteAt, optI, cutB, cutL, sliceR, strR, ldCells, ldR, iaR, faR, lenR, lenSR, ixR, exR, nchkR, mxR, csR, up, ZV.av, ZV.fit, zfits, fits, fitsL, cellsOf, down, downL, downLL, stR, mkR, bsR, boxR, alR, apR, cpR, srcQ, solid, killC, killV, killE, killO, killH, hget, hset, hdel, pubV, pubC, pubO, renV, renC, renO, reduceIte, reduceCtorEq, Nat.reduceEqDiff, Nat.reduceLT, Nat.reduceAdd, Int.reduceToNat, Nat.reduceLeDiff, Int.reducePow, Int.reduceLE, Int.reduceLT]
  exact ret1' (by rw [cmpR, if_pos h]; simp only [retR, retA, retL, ret1, ret1L, eget, hget, hset, St.set, eset, List.map_cons, List.map_nil, reduceIte, reduceCtorEq, Nat.reduceEqDiff, Nat.reduceLT, true_and, and_true, false_or, or_true, true_or, List.drop_zero, List.take_length, scalE_I, scalE_B, scalE_S])

theorem sloperef1_Cmp (fr fr' : Bool) (xs ys : List Int) : FSpec0 Try.prog 57 [uL fr xs, uL fr' ys] (fun r => r = .int .i64 (cmpR xs ys)) := by
  refine FSpec0.of_facts fun hf => fspec0_of_run k57 ?_
  have lx : lim xs := lim_of_factL hf.1
  have ly : lim ys := lim_of_factL hf.2.1
  simp only [uL, c57, W1, W2, W3, popTo, memb, res, wres, env0, byteAt, optI, cutB, cutL, sliceR, strR, ldCells, ldR, iaR, faR, lenR, lenSR, ixR, exR, nchkR, mxR, csR, up, ZV.av, ZV.fit, zfits, fits, fitsL, cellsOf, down, downL, downLL, stR, mkR, bsR, boxR, alR, apR, cpR, srcQ, solid, killC, killV, killE, killO, killH, hget, hset, hdel, pubV, pubC, pubO, renV, renC, renO, reduceIte, reduceCtorEq, Nat.reduceEqDiff, Nat.reduceLT, Nat.reduceAdd, Int.reduceToNat, Nat.reduceLeDiff, Int.reducePow, Int.reduceLE, Int.reduceLT]
  refine call1 (sloperef1_May fr xs) (by repeat (first | exact subs_nil | refine subs_int ?_ | refine subs_ro ?_ | refine subs_bool ?_ | refine subs_str ?_ | refine subs_nilro ?_ | refine subs_lits rfl ?_ | refine subs_all rfl rfl (by simp) ?_ | refine subs_own rfl rfl ?_ | refine subs_fn ?_)) ?_
  simp only [W1, W2, W3, popTo, memb, res, wres, env0, byteAt, optI, cutB, cutL, sliceR, strR, ldCells, ldR, iaR, faR, lenR, lenSR, ixR, exR, nchkR, mxR, csR, up, ZV.av, ZV.fit, zfits, fits, fitsL, cellsOf, down, downL, downLL, stR, mkR, bsR, boxR, alR, apR, cpR, srcQ, solid, killC, killV, killE, killO, killH, hget, hset, hdel, pubV, pubC, pubO, renV, renC, renO, reduceIte, reduceCtorEq, Nat.reduceEqDiff, Nat.reduceLT, Nat.reduceAdd, Int.reduceToNat, Nat.reduceLeDiff, Int.reducePow, Int.reduceLE, Int.reduceLT]
  refine ⟨fun h => ret1' (by rw [cmpR, if_neg (fun h' => h h'.1)]; simp only [retR, retA, retL, ret1, ret1L, eget, hget, hset, St.set, eset, List.map_cons, List.map_nil, reduceIte, reduceCtorEq, Nat.reduceEqDiff, Nat.reduceLT, true_and, and_true, false_or, or_true, true_or, List.drop_zero, List.take_length, scalE_I, scalE_B, scalE_S]), fun h => ?_⟩
  refine call1 (sloperef1_May fr' ys) (by repeat (first | exact subs_nil | refine subs_int ?_ | refine subs_ro ?_ | refine subs_bool ?_ | refine subs_str ?_ | refine subs_nilro ?_ | refine subs_lits rfl ?_ | refine subs_all rfl rfl (by simp) ?_ | refine subs_own rfl rfl ?_ | refine subs_fn ?_)) ?_
  simp only [W1, W2, W3, popTo, memb, res, wres, env0, byteAt, optI, cutB, cutL, sliceR, strR, ldCells, ldR, iaR, faR, lenR, lenSR, ixR, exR, nchkR, mxR, csR, up, ZV.av, ZV.fit, zfits, fits, fitsL, cellsOf, down, downL, downLL, stR, mkR, bsR, boxR, alR, apR, cpR, srcQ, solid, killC, killV, killE, killO, killH, hget, hset, hdel, pubV, pubC, pubO, renV, renC, renO, reduceIte, reduceCtorEq, Nat.reduceEqDiff, Nat.reduceLT, Nat.reduceAdd, Int.reduceToNat, Nat.reduceLeDiff, Int.reducePow, Int.reduceLE, Int.reduceLT]
  refine ⟨fun h' => ret1' (by rw [cmpR, if_neg (fun h'' => h' h''.2)]; simp only [retR, retA, retL, ret1, ret1L, eget, hget, hset, St.set, eset, List.map_cons, List.map_nil, reduceIte, reduceCtorEq, Nat.reduceEqDiff, Nat.reduceLT, true_and, and_true, false_or, or_true, true_or, List.drop_zero, List.take_length, scalE_I, scalE_B, scalE_S]), fun h' _ _ => ?_⟩
  have hm : may xs ∧ may ys := ⟨Classical.not_not.1 h, Classical.not_not.1 h'⟩
  have tx := hm.1.2
  have ty := hm.2.2
  rw [cmpR, if_pos hm]
  refine ⟨fun h _ _ => ⟨fun h1 => ?_, fun h1 => ?_⟩, fun h _ => ⟨by omega, ?_⟩⟩
  · rw [cmp_lt (val_lt_len lx ly ty (by omega))]; exact ret1' (by simp only [retR, retA, retL, ret1, ret1L, eget, hget, hset, St.set, eset, List.map_cons, List.map_nil, reduceIte, reduceCtorEq, Nat.reduceEqDiff, Nat.reduceLT, true_and, and_true, false_or, or_true, true_or, List.drop_zero, List.take_length, scalE_I, scalE_B, scalE_S])
  · rw [cmp_gt (val_lt_len ly lx tx (by omega))]; exact ret1' (by simp only [retR, retA, retL, ret1, ret1L, eget, hget, hset, St.set, eset, List.map_cons, List.map_nil, reduceIte, reduceCtorEq, Nat.reduceEqDiff, Nat.reduceLT, true_and, and_true, false_or, or_true, true_or, List.drop_zero, List.take_length, scalE_I, scalE_B, scalE_S])
  · have hl : xs.length = ys.length := by omega
    refine loop_intro (fun m st => ∃ i : Nat, i ≤ xs.length ∧ m = i ∧ xs.drop i = ys.drop i ∧ st = ⟨[(0, .ro fr 1 (encI .u32) xs), (1, .ro fr' 1 (encI .u32) ys), (5, .int .i64 ((i : Int) - 1))], []⟩) xs.length
      [(0, .ro fr 1 (encI .u32) xs), (1, .ro fr' 1 (encI .u32) ys), (5, .int .i64 ((xs.length : Int) - 1))] (by simp [eget]) ⟨xs.length, by omega, rfl, by simp [hl], rfl⟩ ?_
    rintro m st ⟨i, hi, rfl, hd, rfl⟩
    simp only [W1, W2, W3, popTo, memb, res, wres, env0, byteAt, optI, cutB, cutL, sliceR, strR, ldCells, ldR, iaR, faR, lenR, lenSR, ixR, exR, nchkR, mxR, csR, up, ZV.av, ZV.fit, zfits, fits, fitsL, cellsOf, down, downL, downLL, stR, mkR, bsR, boxR, alR, apR, cpR, srcQ, solid, killC, killV, killE, killO, killH, hget, hset, hdel, pubV, pubC, pubO, renV, renC, renO, reduceIte, reduceCtorEq, Nat.reduceEqDiff, Nat.reduceLT, Nat.reduceAdd, Int.reduceToNat, Nat.reduceLeDiff, Int.reducePow, Int.reduceLE, Int.reduceLT]
    have fin : ∀ (a b : Int), xs[(↑m - 1 : Int).toNat]? = some a → ys[(↑m - 1 : Int).toNat]? = some b → 0 ≤ (m : Int) - 1 → (a < b → cmpI (val xs) (val ys) = -1) ∧ (b < a → cmpI (val xs) (val ys) = 1) := fun a b ha hb h0 => by
      rw [show (↑m - 1 : Int).toNat = m - 1 by omega] at ha hb
      have hd' : xs.drop (m - 1 + 1) = ys.drop (m - 1 + 1) := by rw [show m - 1 + 1 = m by omega]; exact hd
      exact ⟨fun h => cmp_lt (val_lt_at lx ly ha hb hd' h), fun h => cmp_gt (val_lt_at ly lx hb ha hd'.symm h)⟩
    refine ⟨fun h0 => ⟨by omega, fun a ha => ⟨by omega, fun b hb => ⟨fun hlt => ret1' (by rw [(fin a b ha hb h0).1 hlt]; simp only [retR, retA, retL, ret1, ret1L, eget, hget, hset, St.set, eset, List.map_cons, List.map_nil, reduceIte, reduceCtorEq, Nat.reduceEqDiff, Nat.reduceLT, true_and, and_true, false_or, or_true, true_or, List.drop_zero, List.take_length, scalE_I, scalE_B, scalE_S]), fun hge => ⟨by omega, fun a' ha' => ⟨by omega, fun b' hb' => ?_⟩⟩⟩⟩⟩, fun h0 => ?_⟩
    · rw [ha] at ha'; rw [hb] at hb'
      obtain rfl := Option.some.inj ha'
      obtain rfl := Option.some.inj hb'
      refine ⟨fun hlt => ret1' (by rw [(fin a b ha hb h0).2 hlt]; simp only [retR, retA, retL, ret1, ret1L, eget, hget, hset, St.set, eset, List.map_cons, List.map_nil, reduceIte, reduceCtorEq, Nat.reduceEqDiff, Nat.reduceLT, true_and, and_true, false_or, or_true, true_or, List.drop_zero, List.take_length, scalE_I, scalE_B, scalE_S]), fun hle => ⟨by omega, ?_⟩⟩
      obtain rfl : a = b := by omega
      rw [show (↑m - 1 : Int).toNat = m - 1 by omega] at ha hb
      refine back_intro [(0, .ro fr 1 (encI .u32) xs), (1, .ro fr' 1 (encI .u32) ys), (5, .int .i64 (((m - 1 : Nat) : Int) - 1))] (by simp [eget]; omega) (by omega) ⟨m - 1, by omega, rfl, ?_, rfl⟩
      exact drop_step ha hb (by rw [show m - 1 + 1 = m by omega]; exact hd)
    · have : m = 0 := by omega
      subst this
      rw [List.drop_zero, List.drop_zero] at hd
      exact ret1' (by rw [cmp_eq (by rw [hd])]; simp only [retR, retA, retL, ret1, ret1L, eget, hget, hset, St.set, eset, List.map_cons, List.map_nil, reduceIte, reduceCtorEq, Nat.reduceEqDiff, Nat.reduceLT, true_and, and_true, false_or, or_true, true_or, List.drop_zero, List.take_length, scalE_I, scalE_B, scalE_S])

end Go.Vc
