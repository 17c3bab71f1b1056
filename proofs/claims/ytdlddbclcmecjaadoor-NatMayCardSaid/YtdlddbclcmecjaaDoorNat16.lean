/-
  How many binary digits are 1; the four ways to join digits, as numbers.
-/
import Derived.Test.YtdlddbclcmecjaaDoorNat13
set_option linter.unusedVariables false
set_option linter.unusedSimpArgs false
namespace Go.Vc
open Go
open Go.Proofs

/- bits.OnesCount32: arguments 1, results in [2]; slots in use where its loops begin: [] -/
def tb20_0 : ByteArray := ⟨#[0, 1, 1, 2, 1, 2, 2, 3, 1, 2, 2, 3, 2, 3, 3, 4, 1, 2, 2, 3, 2, 3, 3, 4, 2, 3, 3, 4, 3, 4, 4, 5, 1, 2, 2, 3, 2, 3, 3, 4, 2, 3, 3, 4, 3, 4, 4, 5, 2, 3, 3, 4, 3, 4, 4, 5, 3, 4, 4, 5, 4, 5, 5, 6, 1, 2, 2, 3, 2, 3, 3, 4, 2, 3, 3, 4, 3, 4, 4, 5, 2, 3, 3, 4, 3, 4, 4, 5, 3, 4, 4, 5, 4, 5, 5, 6, 2, 3, 3, 4, 3, 4, 4, 5, 3, 4, 4, 5, 4, 5, 5, 6, 3, 4, 4, 5, 4, 5, 5, 6, 4, 5, 5, 6, 5, 6, 6, 7, 1, 2, 2, 3, 2, 3, 3, 4, 2, 3, 3, 4, 3, 4, 4, 5, 2, 3, 3, 4, 3, 4, 4, 5, 3, 4, 4, 5, 4, 5, 5, 6, 2, 3, 3, 4, 3, 4, 4, 5, 3, 4, 4, 5, 4, 5, 5, 6, 3, 4, 4, 5, 4, 5, 5, 6, 4, 5, 5, 6, 5, 6, 6, 7, 2, 3, 3, 4, 3, 4, 4, 5, 3, 4, 4, 5, 4, 5, 5, 6, 3, 4, 4, 5, 4, 5, 5, 6, 4, 5, 5, 6, 5, 6, 6, 7, 3, 4, 4, 5, 4, 5, 5, 6, 4, 5, 5, 6, 5, 6, 6, 7, 4, 5, 5, 6, 5, 6, 6, 7, 5, 6, 6, 7, 6, 7, 7, 8]⟩
def c20 : MC := .seq (.ops [ .op (some 2) none (.p (.mv (.i .i64 (0)))), .gh (.drop [2])]) (.seq (.ops [ .op (some 3) none (.p (.mv (.t 0))), .op (some 4) none (.p (.bin .shr (.t 3) (.i .u64 (24)))), .op (some 5) none (.p (.ix (.s tb20_0) (.t 4))), .op (some 6) none (.p (.mv (.t 0))), .op (some 7) none (.p (.bin .shr (.t 6) (.i .u64 (16)))), .op (some 8) none (.p (.bin .and (.t 7) (.i .u32 (255)))), .op (some 9) none (.p (.ix (.s tb20_0) (.t 8))), .op (some 10) none (.p (.bin .add (.t 5) (.t 9))), .op (some 11) none (.p (.mv (.t 0))), .op (some 12) none (.p (.bin .shr (.t 11) (.i .u64 (8)))), .op (some 13) none (.p (.bin .and (.t 12) (.i .u32 (255)))), .op (some 14) none (.p (.ix (.s tb20_0) (.t 13))), .op (some 15) none (.p (.bin .add (.t 10) (.t 14))), .op (some 16) none (.p (.mv (.t 0))), .op (some 17) none (.p (.bin .and (.t 16) (.i .u32 (255)))), .op (some 18) none (.p (.ix (.s tb20_0) (.t 17))), .op (some 19) none (.p (.bin .add (.t 15) (.t 18))), .op (some 20) none (.p (.cv .i64 (.t 19))), .op (some 2) none (.p (.mv (.t 20)))]) (.gh (.drop [0, 3, 4, 5, 6, 7, 8, 9, 10, 11, 12, 13, 14, 15, 16, 17, 18, 19, 20]) (.ret)))
theorem k20 : chkF Tryd.prog 20 1 [2] c20 = true := by kernel_rfl

/- natural.Ones: arguments 1, results in [2]; slots in use where its loops begin: [[3, 8, 9, 10]] -/
def c11 : MC := .seq (.ops [ .op (some 2) none (.p (.mv (.i .i64 (0)))), .gh (.drop [2])]) (.seq (.ops [ .op (some 3) none (.p (.mv (.i .i64 (0))))]) (.seq (.seq (.ops [ .op (some 6) none (.p (.mv (.t 0))), .op (some 7) none (.call 7 [(.t 6)]), .gh (.drop [6])]) (.cond (.t 7) (.seq (.ops [ .op (some 8) none (.p (.mv (.t 0))), .op (some 9) none (.p (.len (.t 8))), .op (some 10) none (.p (.mv (.i .i64 (0)))), .gh (.drop [0])]) (.cut (.block 0 (.loop (.seq (.ops [ .op (some 11) none (.p (.bin .lss (.t 10) (.t 9)))]) (.seq (.cond (.t 11) (.skip) (.exit 0)) (.seq (.block 1 (.seq (.ops [ .op (some 12) none (.p (.ia 1 (.t 8) (.t 10))), .op (some 13) none (.p (.ld 1 false (.t 12))), .op (some 5) none (.p (.mv (.t 13))), .gh (.drop [12, 13])]) (.ops [ .op (some 14) none (.p (.mv (.t 3))), .op (some 15) none (.p (.mv (.t 5))), .op (some 16) none (.call 20 [(.t 15)]), .op (some 17) none (.p (.bin .add (.t 14) (.t 16))), .op (some 3) none (.p (.mv (.t 17))), .gh (.drop [5, 14, 15, 16, 17])]))) (.ops [ .op (some 18) none (.p (.bin .add (.t 10) (.i .i64 (1)))), .op (some 10) none (.p (.mv (.t 18))), .gh (.drop [18])])))))))) (.skip))) (.seq (.ops [ .op (some 19) none (.p (.mv (.t 3))), .op (some 2) none (.p (.mv (.t 19))), .gh (.drop [3, 19])]) (.ret))))
theorem k11 : chkF Tryd.prog 11 1 [2] c11 = true := by kernel_rfl



/-! ### plain -/
def popF : Nat → Nat → Nat
  | 0, _ => 0
  | k + 1, n => n % 2 + popF k (n / 2)

theorem pop_byte (k n : Nat) : popF (8 + k) n = popF 8 (n % 256) + popF k (n / 256) := by
  rw [Nat.add_comm 8 k]
  simp only [popF, Nat.div_div_eq_div_mul, Nat.reduceMul]
  omega
theorem pop32 (n : Nat) (h : n < 4294967296) : popF 32 n = popF 8 (n % 256) + popF 8 (n / 256 % 256) + popF 8 (n / 65536 % 256) + popF 8 (n / 16777216) := by
  rw [show (32 : Nat) = 8 + 24 from rfl, pop_byte, show (24 : Nat) = 8 + 16 from rfl, pop_byte, show (16 : Nat) = 8 + 8 from rfl, pop_byte]
  simp only [Nat.div_div_eq_div_mul, Nat.reduceMul]
  omega
theorem pop_le (k n : Nat) : popF k n ≤ k := by
  induction k generalizing n with
  | zero => exact Nat.le_refl _
  | succ k ih => have := ih (n / 2); simp only [popF]; omega
theorem pop_zero (k : Nat) : popF k 0 = 0 := by
  induction k with
  | zero => rfl
  | succ k ih => simp [popF, ih]
theorem pop_eq_zero {k n : Nat} (h : n < 2 ^ k) : popF k n = 0 ↔ n = 0 := by
  induction k generalizing n with
  | zero => simp at h; subst h; simp [popF]
  | succ k ih =>
    rw [Nat.pow_succ] at h
    have := ih (n := n / 2) (by omega)
    simp only [popF]
    omega

theorem and2 (a b : Nat) : (a &&& b) / 2 = (a / 2) &&& (b / 2) := by simpa [Nat.shiftRight_eq_div_pow] using Nat.shiftRight_and_distrib (a := a) (b := b) (i := 1)
theorem or2 (a b : Nat) : (a ||| b) / 2 = (a / 2) ||| (b / 2) := by simpa [Nat.shiftRight_eq_div_pow] using Nat.shiftRight_or_distrib (a := a) (b := b) (i := 1)
theorem xor2 (a b : Nat) : (a ^^^ b) / 2 = (a / 2) ^^^ (b / 2) := by simpa [Nat.shiftRight_eq_div_pow] using Nat.shiftRight_xor_distrib (a := a) (b := b) (i := 1)
theorem andm (a b : Nat) : (a &&& b) % 2 = (a % 2) * (b % 2) := by
  have h := Nat.and_mod_two_pow (a := a) (b := b) (n := 1)
  simp only [Nat.pow_one] at h
  rw [h]
  rcases Nat.mod_two_eq_zero_or_one a with x | x <;> rcases Nat.mod_two_eq_zero_or_one b with y | y <;> rw [x, y] <;> rfl
theorem orm (a b : Nat) : (a ||| b) % 2 = a % 2 + b % 2 - (a % 2) * (b % 2) := by
  have h := Nat.or_mod_two_pow (a := a) (b := b) (n := 1)
  simp only [Nat.pow_one] at h
  rw [h]
  rcases Nat.mod_two_eq_zero_or_one a with x | x <;> rcases Nat.mod_two_eq_zero_or_one b with y | y <;> rw [x, y] <;> rfl
theorem xorm (a b : Nat) : (a ^^^ b) % 2 = a % 2 + b % 2 - 2 * ((a % 2) * (b % 2)) := by
  have h := Nat.xor_mod_two_pow (a := a) (b := b) (n := 1)
  simp only [Nat.pow_one] at h
  rw [h]
  rcases Nat.mod_two_eq_zero_or_one a with x | x <;> rcases Nat.mod_two_eq_zero_or_one b with y | y <;> rw [x, y] <;> rfl

theorem bool_sums (k : Nat) : ∀ a b : Nat, a < 2 ^ k → b < 2 ^ k → (a &&& b) + (a ^^^ (a &&& b)) = a ∧ (a &&& b) + (a ^^^ b) = a ||| b ∧ (a ^^^ (a &&& b)) + b = a ||| b := by
  induction k with
  | zero => intro a b ha hb; simp at ha hb; subst ha; subst hb; simp
  | succ k ih =>
    intro a b ha hb
    rw [Nat.pow_succ] at ha hb
    obtain ⟨h1, h2, h3⟩ := ih (a / 2) (b / 2) (by omega) (by omega)
    have d1 := and2 a b
    have d2 := or2 a b
    have d3 := xor2 a b
    have d4 := xor2 a (a &&& b)
    have m1 := andm a b
    have m2 := orm a b
    have m3 := xorm a b
    have m4 := xorm a (a &&& b)
    rw [d1] at d4
    rw [m1] at m4
    generalize a &&& b = u at *
    generalize a ||| b = v at *
    generalize a ^^^ b = w at *
    generalize a ^^^ u = z at *
    generalize (a / 2) &&& (b / 2) = u' at *
    generalize (a / 2) ||| (b / 2) = v' at *
    generalize (a / 2) ^^^ (b / 2) = w' at *
    generalize (a / 2) ^^^ u' = z' at *
    rcases Nat.mod_two_eq_zero_or_one a with x | x <;> rcases Nat.mod_two_eq_zero_or_one b with y | y <;> rw [x, y] at m1 m2 m3 m4 <;> simp at m1 m2 m3 m4 <;> omega

theorem pop_sums (k : Nat) : ∀ a b : Nat, popF k (a &&& b) + popF k (a ||| b) = popF k a + popF k b := by
  induction k with
  | zero => intro a b; rfl
  | succ k ih =>
    intro a b
    have h := ih (a / 2) (b / 2)
    have m1 := andm a b
    have m2 := orm a b
    simp only [popF, and2, or2]
    rcases Nat.mod_two_eq_zero_or_one a with x | x <;> rcases Nat.mod_two_eq_zero_or_one b with y | y <;> rw [x, y] at m1 m2 <;> omega

/-- of a list of limbs -/
def onesL (xs : List Int) : Int := ((xs.map fun x => ((popF 32 x.toNat : Nat) : Int)).sum)
def onesR (n : List Int) : Int := if may n then onesL n else 0

theorem onesL_append (xs ys : List Int) : onesL (xs ++ ys) = onesL xs + onesL ys := by simp [onesL]
theorem onesL_nonneg (xs : List Int) : 0 ≤ onesL xs := by
  induction xs with
  | nil => simp [onesL]
  | cons x xs ih => simp only [onesL, List.map_cons, List.sum_cons] at ih ⊢; omega
theorem onesL_bound (xs : List Int) : onesL xs ≤ 32 * xs.length := by
  induction xs with
  | nil => simp [onesL]
  | cons x xs ih => have := pop_le 32 x.toNat; simp only [onesL, List.map_cons, List.sum_cons, List.length_cons] at ih ⊢; omega
theorem onesL_trim (xs : List Int) : onesL (trimL xs) = onesL xs := by
  obtain ⟨n, h1, h2, h3, e⟩ := trimL_spec xs
  have hz : ∀ ys : List Int, (∀ x, x ∈ ys → x = 0) → onesL ys = 0 := by
    intro ys
    induction ys with
    | nil => intro _; rfl
    | cons y ys ih =>
      intro h
      have := ih fun x hx => h x (List.mem_cons_of_mem _ hx)
      have h0 := h y List.mem_cons_self
      subst h0
      simp only [onesL, List.map_cons, List.sum_cons] at this ⊢
      rw [this]; simp [pop_zero]
  conv => rhs; rw [← List.take_append_drop n xs, onesL_append, hz _ h2]
  rw [e]; simp

theorem bits_OnesCount32 (x : Int) : FSpec0 Tryd.prog 20 [.int .u32 x] (fun r => r = .int .i64 (popF 32 x.toNat : Nat)) := by
  refine FSpec0.of_facts fun hf => fspec0_of_run k20 ?_
  have hx := hf.1
  simp only [factV, inK] at hx
  simp only [c20, W1, W2, W3, popTo, memb, res, wres, env0, byteAt, optI, cutB, cutL, sliceR, strR, ldCells, ldR, iaR, faR, lenR, lenSR, ixR, exR, nchkR, mxR, csR, up, ZV.av, ZV.fit, zfits, fits, fitsL, cellsOf, down, downL, downLL, stR, mkR, bsR, boxR, alR, apR, cpR, srcQ, solid, killC, killV, killE, killO, killH, hget, hset, hdel, pubV, pubC, pubO, renV, renC, renO, reduceIte, reduceCtorEq, Nat.reduceEqDiff, Nat.reduceLT, Nat.reduceAdd, Int.reduceToNat, Nat.reduceLeDiff, Int.reducePow, Int.reduceLE, Int.reduceLT]
  obtain ⟨x, rfl⟩ := Int.eq_ofNat_of_zero_le hx.1
  have hx2 : x < 4294967296 := by omega
  have tab : ∀ i : Nat, i < 256 → (tb20_0.data.toList.getD i 0).toNat = popF 8 i := fun i hi =>
    of_decide_eq_true (List.all_eq_true.1 (show (List.range 256).all (fun i => decide ((tb20_0.data.toList.getD i 0).toNat = popF 8 i)) = true by decide +kernel) i (List.mem_range.2 hi))
  have hsz : tb20_0.size = 256 := by decide +kernel
  have am : ∀ y : Nat, y &&& 255 = y % 256 := fun y => Nat.and_two_pow_sub_one_eq_mod y 8
  have e1 : ((x : Int) / 16777216).toNat = x / 16777216 := by omega
  have e2 : ((x : Int) / 65536).toNat = x / 65536 := by omega
  have e3 : ((x : Int) / 256).toNat = x / 256 := by omega
  rw [hsz, e1, e2, e3, Int.toNat_natCast, am, am, am, tab _ (by omega), tab _ (by omega), tab _ (by omega), tab _ (by omega)]
  have b1 := pop_le 8 (x / 16777216)
  have b2 := pop_le 8 (x / 65536 % 256)
  have b3 := pop_le 8 (x / 256 % 256)
  have b4 := pop_le 8 (x % 256)
  have h32 := pop32 x hx2
  refine fun _ => ⟨by omega, fun _ _ => ⟨by omega, by omega, fun _ _ => ⟨by omega, by omega, fun _ => ⟨by omega, by omega, fun _ => ?_⟩⟩⟩⟩
  refine ret0 (.int .i64 (popF 32 x : Nat)) ?_ rfl
  simp only [retR, retA, retL, ret1, ret1L, eget, hget, hset, St.set, eset, List.map_cons, List.map_nil, reduceIte, reduceCtorEq, Nat.reduceEqDiff, Nat.reduceLT, true_and, and_true, false_or, or_true, true_or, List.drop_zero, List.take_length, scalE_I, scalE_B, scalE_S]
  omega

theorem natural_Ones (fr : Bool) (n : List Int) : FSpec0 Tryd.prog 11 [uL fr n] (fun r => r = .int .i64 (onesR n)) := by
  refine FSpec0.of_facts fun hf => fspec0_of_run k11 ?_
  have ln : lim n := lim_of_factL hf.1
  simp only [uL, c11, W1, W2, W3, popTo, memb, res, wres, env0, byteAt, optI, cutB, cutL, sliceR, strR, ldCells, ldR, iaR, faR, lenR, lenSR, ixR, exR, nchkR, mxR, csR, up, ZV.av, ZV.fit, zfits, fits, fitsL, cellsOf, down, downL, downLL, stR, mkR, bsR, boxR, alR, apR, cpR, srcQ, solid, killC, killV, killE, killO, killH, hget, hset, hdel, pubV, pubC, pubO, renV, renC, renO, reduceIte, reduceCtorEq, Nat.reduceEqDiff, Nat.reduceLT, Nat.reduceAdd, Int.reduceToNat, Nat.reduceLeDiff, Int.reducePow, Int.reduceLE, Int.reduceLT]
  refine call1 (natural_May fr n) (by repeat (first | exact subs_nil | refine subs_int ?_ | refine subs_ro ?_ | refine subs_bool ?_ | refine subs_str ?_ | refine subs_nilro ?_ | refine subs_lits rfl ?_ | refine subs_all rfl rfl (by simp) ?_ | refine subs_own rfl rfl ?_ | refine subs_fn ?_)) ?_
  simp only [W1, W2, W3, popTo, memb, res, wres, env0, byteAt, optI, cutB, cutL, sliceR, strR, ldCells, ldR, iaR, faR, lenR, lenSR, ixR, exR, nchkR, mxR, csR, up, ZV.av, ZV.fit, zfits, fits, fitsL, cellsOf, down, downL, downLL, stR, mkR, bsR, boxR, alR, apR, cpR, srcQ, solid, killC, killV, killE, killO, killH, hget, hset, hdel, pubV, pubC, pubO, renV, renC, renO, reduceIte, reduceCtorEq, Nat.reduceEqDiff, Nat.reduceLT, Nat.reduceAdd, Int.reduceToNat, Nat.reduceLeDiff, Int.reducePow, Int.reduceLE, Int.reduceLT]
  refine ⟨fun hm _ => ?_, fun hm => ret1' (by rw [onesR, if_neg hm]; simp only [retR, retA, retL, ret1, ret1L, eget, hget, hset, St.set, eset, List.map_cons, List.map_nil, reduceIte, reduceCtorEq, Nat.reduceEqDiff, Nat.reduceLT, true_and, and_true, false_or, or_true, true_or, List.drop_zero, List.take_length, scalE_I, scalE_B, scalE_S])⟩
  have hl := hm.1
  rw [onesR, if_pos hm]
  refine cut_intro (fun st => st = ⟨[(3, .int .i64 (onesL n))], []⟩) ?_ ?_
  · simp only [W1, W2, W3, popTo, memb, res, wres, env0, byteAt, optI, cutB, cutL, sliceR, strR, ldCells, ldR, iaR, faR, lenR, lenSR, ixR, exR, nchkR, mxR, csR, up, ZV.av, ZV.fit, zfits, fits, fitsL, cellsOf, down, downL, downLL, stR, mkR, bsR, boxR, alR, apR, cpR, srcQ, solid, killC, killV, killE, killO, killH, hget, hset, hdel, pubV, pubC, pubO, renV, renC, renO, reduceIte, reduceCtorEq, Nat.reduceEqDiff, Nat.reduceLT, Nat.reduceAdd, Int.reduceToNat, Nat.reduceLeDiff, Int.reducePow, Int.reduceLE, Int.reduceLT]
    refine loop_intro (fun m st => ∃ i : Nat, i ≤ n.length ∧ m = n.length - i ∧ st = ⟨[(3, .int .i64 (onesL (n.take i))), (8, uL fr n), (9, .int .i64 n.length), (10, .int .i64 i)], []⟩) n.length
      [(3, .int .i64 0), (8, uL fr n), (9, .int .i64 n.length), (10, .int .i64 (0 : Nat))] (by simp [eget, uL]) ⟨0, by omega, by omega, rfl⟩ ?_
    rintro m st ⟨i, hi, rfl, rfl⟩
    simp only [uL, W1, W2, W3, popTo, memb, res, wres, env0, byteAt, optI, cutB, cutL, sliceR, strR, ldCells, ldR, iaR, faR, lenR, lenSR, ixR, exR, nchkR, mxR, csR, up, ZV.av, ZV.fit, zfits, fits, fitsL, cellsOf, down, downL, downLL, stR, mkR, bsR, boxR, alR, apR, cpR, srcQ, solid, killC, killV, killE, killO, killH, hget, hset, hdel, pubV, pubC, pubO, renV, renC, renO, reduceIte, reduceCtorEq, Nat.reduceEqDiff, Nat.reduceLT, Nat.reduceAdd, Int.reduceToNat, Nat.reduceLeDiff, Int.reducePow, Int.reduceLE, Int.reduceLT]
    refine ⟨fun h0 => ⟨by omega, fun e he => ?_⟩, fun h0 => ?_⟩
    · refine call1 (bits_OnesCount32 e) (by repeat (first | exact subs_nil | refine subs_int ?_ | refine subs_ro ?_ | refine subs_bool ?_ | refine subs_str ?_ | refine subs_nilro ?_ | refine subs_lits rfl ?_ | refine subs_all rfl rfl (by simp) ?_ | refine subs_own rfl rfl ?_ | refine subs_fn ?_)) ?_
      have b1 := onesL_nonneg (n.take i)
      have b2 := onesL_bound (n.take i)
      have b3 := pop_le 32 e.toNat
      rw [List.length_take] at b2
      simp only [uL, W1, W2, W3, popTo, memb, res, wres, env0, byteAt, optI, cutB, cutL, sliceR, strR, ldCells, ldR, iaR, faR, lenR, lenSR, ixR, exR, nchkR, mxR, csR, up, ZV.av, ZV.fit, zfits, fits, fitsL, cellsOf, down, downL, downLL, stR, mkR, bsR, boxR, alR, apR, cpR, srcQ, solid, killC, killV, killE, killO, killH, hget, hset, hdel, pubV, pubC, pubO, renV, renC, renO, reduceIte, reduceCtorEq, Nat.reduceEqDiff, Nat.reduceLT, Nat.reduceAdd, Int.reduceToNat, Nat.reduceLeDiff, Int.reducePow, Int.reduceLE, Int.reduceLT]
      refine ⟨by omega, by omega, back_intro [(3, .int .i64 (onesL (n.take (i + 1)))), (8, uL fr n), (9, .int .i64 n.length), (10, .int .i64 ((i + 1 : Nat) : Int))] ?_ (by omega) ⟨i + 1, by omega, rfl, rfl⟩⟩
      rw [take_step he, onesL_append]
      simp [eget, uL, onesL]
    · obtain rfl : i = n.length := by omega
      rw [List.take_length]
      exact join_intro [(3, .int .i64 (onesL n))] (by simp [eget]) rfl
  · rintro st rfl
    simp only [W1, W2, W3, popTo, memb, res, wres, env0, byteAt, optI, cutB, cutL, sliceR, strR, ldCells, ldR, iaR, faR, lenR, lenSR, ixR, exR, nchkR, mxR, csR, up, ZV.av, ZV.fit, zfits, fits, fitsL, cellsOf, down, downL, downLL, stR, mkR, bsR, boxR, alR, apR, cpR, srcQ, solid, killC, killV, killE, killO, killH, hget, hset, hdel, pubV, pubC, pubO, renV, renC, renO, reduceIte, reduceCtorEq, Nat.reduceEqDiff, Nat.reduceLT, Nat.reduceAdd, Int.reduceToNat, Nat.reduceLeDiff, Int.reducePow, Int.reduceLE, Int.reduceLT]
    exact ret1' (by simp only [retR, retA, retL, ret1, ret1L, eget, hget, hset, St.set, eset, List.map_cons, List.map_nil, reduceIte, reduceCtorEq, Nat.reduceEqDiff, Nat.reduceLT, true_and, and_true, false_or, or_true, true_or, List.drop_zero, List.take_length, scalE_I, scalE_B, scalE_S])

end Go.Vc
