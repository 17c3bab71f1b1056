/-
  NatBoole: the walk.
-/
import Derived.Test.YtdlddbclcmecjaaLawRing
import Derived.Test.YtdlddbclcmecjaaNat16
set_option linter.unusedVariables false
set_option linter.unusedSimpArgs false
namespace Go.Vc
open Go
open Go.Proofs

/- slopelaw1.NatBoole: arguments 2, results in [4]; slots in use where its loops begin: [] -/
def c16 : MC := .seq (.ops [ .op (some 4) none (.p (.mv (.b false))), .gh (.drop [4])]) (.seq (.seq (.ops [ .op (some 10) none (.call 46 []), .op (some 11) none (.p (.un .not (.t 10))), .gh (.drop [10])]) (.cond (.t 11) (.seq (.ops [ .op (some 4) none (.p (.mv (.b false)))]) (.ret)) (.skip))) (.seq (.seq (.ops [ .op (some 12) none (.p (.mv (.t 0))), .op (some 13) none (.p (.mv (.t 1))), .op (some 14) none (.w (.bs 24 1 [(.t 12), (.t 13)])), .op (some 15) none (.call 47 [(.t 14)]), .op (some 16) none (.p (.un .not (.t 15))), .gh (.drop [12, 13, 14, 15])]) (.cond (.t 16) (.seq (.ops [ .op (some 4) none (.p (.mv (.b true)))]) (.ret)) (.skip))) (.seq (.ops [ .op (some 5) none (.w (.al 75 [.bool, .bool])), .gh (.ren 5 1003)]) (.seq (.ops [ .op (some 17) none (.p (.mv (.t 0))), .op (some 18) none (.p (.mv (.t 1))), .op (some 19) none (.call 58 [(.t 17), (.t 18)]), .op (some 20) none (.p (.ex (.t 19) 0)), .op (some 21) none (.p (.ex (.t 19) 1)), .op (some 22) none (.call 68 [(.t 5), (.t 20), (.t 21)]), .op (some 6) none (.p (.mv (.t 22))), .gh (.drop [17, 18, 19, 20, 21, 22])]) (.seq (.ops [ .op (some 23) none (.p (.mv (.t 0))), .op (some 24) none (.p (.mv (.t 1))), .op (some 25) none (.call 60 [(.t 23), (.t 24)]), .op (some 26) none (.p (.ex (.t 25) 0)), .op (some 27) none (.p (.ex (.t 25) 1)), .op (some 28) none (.call 68 [(.t 5), (.t 26), (.t 27)]), .op (some 7) none (.p (.mv (.t 28))), .gh (.drop [23, 24, 25, 26, 27, 28])]) (.seq (.ops [ .op (some 29) none (.p (.mv (.t 0))), .op (some 30) none (.p (.mv (.t 1))), .op (some 31) none (.call 61 [(.t 29), (.t 30)]), .op (some 32) none (.p (.ex (.t 31) 0)), .op (some 33) none (.p (.ex (.t 31) 1)), .op (some 34) none (.call 68 [(.t 5), (.t 32), (.t 33)]), .op (some 8) none (.p (.mv (.t 34))), .gh (.drop [29, 30, 31, 32, 33, 34])]) (.seq (.ops [ .op (some 35) none (.p (.mv (.t 0))), .op (some 36) none (.p (.mv (.t 1))), .op (some 37) none (.call 62 [(.t 35), (.t 36)]), .op (some 38) none (.p (.ex (.t 37) 0)), .op (some 39) none (.p (.ex (.t 37) 1)), .op (some 40) none (.call 68 [(.t 5), (.t 38), (.t 39)]), .op (some 9) none (.p (.mv (.t 40))), .gh (.drop [35, 36, 37, 38, 39, 40])]) (.seq (.cut (.seq (.ops [ .op (some 41) none (.p (.fa 1 (.t 5))), .op (some 42) none (.p (.ld 1 false (.t 41))), .op (some 43) none (.p (.mv (.t 42))), .op (some 44) (some (43, false)) (.p (.fa 0 (.t 5))), .op (some 45) (some (43, false)) (.p (.ld 1 false (.t 44))), .op (some 46) none (.pick (.t 43) (.b true) (.t 45)), .op (some 47) none (.p (.mv (.t 46))), .op (some 48) (some (47, false)) (.p (.mv (.t 6))), .op (some 49) (some (47, false)) (.p (.mv (.t 9))), .op (some 50) (some (47, false)) (.call 48 [(.t 5), (.t 48), (.t 49)]), .op (some 51) (some (47, false)) (.p (.mv (.t 0))), .op (some 52) (some (47, false)) (.call 24 [(.t 50), (.t 51)]), .op (some 53) (some (47, false)) (.p (.un .not (.t 52))), .op (some 54) none (.pick (.t 47) (.b true) (.t 53)), .op (some 55) none (.p (.mv (.t 54))), .op (some 56) (some (55, false)) (.p (.mv (.t 6))), .op (some 57) (some (55, false)) (.p (.mv (.t 8))), .op (some 58) (some (55, false)) (.call 48 [(.t 5), (.t 56), (.t 57)]), .op (some 59) (some (55, false)) (.p (.mv (.t 7))), .op (some 60) (some (55, false)) (.call 24 [(.t 58), (.t 59)]), .op (some 61) (some (55, false)) (.p (.un .not (.t 60))), .op (some 62) none (.pick (.t 55) (.b true) (.t 61)), .op (some 63) none (.p (.mv (.t 62))), .op (some 64) (some (63, false)) (.p (.mv (.t 9))), .op (some 65) (some (63, false)) (.p (.mv (.t 1))), .op (some 66) (some (63, false)) (.call 48 [(.t 5), (.t 64), (.t 65)]), .op (some 67) (some (63, false)) (.p (.mv (.t 7))), .op (some 68) (some (63, false)) (.call 24 [(.t 66), (.t 67)]), .op (some 69) (some (63, false)) (.p (.un .not (.t 68))), .op (some 70) none (.pick (.t 63) (.b true) (.t 69)), .gh (.drop [5, 9, 41, 42, 43, 44, 45, 46, 47, 48, 49, 50, 51, 52, 53, 54, 55, 56, 57, 58, 59, 60, 61, 62, 63, 64, 65, 66, 67, 68, 69])]) (.cond (.t 70) (.seq (.ops [ .op (some 4) none (.p (.mv (.b false)))]) (.ret)) (.skip)))) (.seq (.ops [ .op (some 71) none (.p (.mv (.t 8))), .op (some 72) none (.call 69 [(.t 71)]), .op (some 73) none (.p (.bin .eql (.t 72) (.i .i64 (0)))), .op (some 74) none (.p (.mv (.t 0))), .op (some 75) none (.p (.mv (.t 1))), .op (some 76) none (.call 24 [(.t 74), (.t 75)]), .op (some 77) none (.p (.bb .eql (.t 73) (.t 76))), .op (some 78) none (.p (.mv (.t 77))), .op (some 79) (some (78, true)) (.p (.mv (.t 6))), .op (some 80) (some (78, true)) (.call 69 [(.t 79)]), .op (some 81) (some (78, true)) (.p (.mv (.t 7))), .op (some 82) (some (78, true)) (.call 69 [(.t 81)]), .op (some 83) (some (78, true)) (.p (.bin .add (.t 80) (.t 82))), .op (some 84) (some (78, true)) (.p (.mv (.t 0))), .op (some 85) (some (78, true)) (.call 69 [(.t 84)]), .op (some 86) (some (78, true)) (.p (.mv (.t 1))), .op (some 87) (some (78, true)) (.call 69 [(.t 86)]), .op (some 88) (some (78, true)) (.p (.bin .add (.t 85) (.t 87))), .op (some 89) (some (78, true)) (.p (.bin .eql (.t 83) (.t 88))), .op (some 90) none (.pick (.t 78) (.t 89) (.b false)), .op (some 4) none (.p (.mv (.t 90))), .gh (.drop [0, 1, 6, 7, 8, 71, 72, 73, 74, 75, 76, 77, 78, 79, 80, 81, 82, 83, 84, 85, 86, 87, 88, 89, 90])]) (.ret))))))))))
theorem k16 : chkF Try.prog 16 2 [4] c16 = true := by kernel_rfl



theorem val_map_add {f g h : Nat → Int} (e : ∀ i, f i + g i = h i) (n : Nat) : val ((List.range n).map f) + val ((List.range n).map g) = val ((List.range n).map h) := by
  induction n with
  | zero => rfl
  | succ n ih =>
    rw [map_succ, map_succ, map_succ, val_snoc, val_snoc, val_snoc, ← ih, ← e n, Int.mul_add]
    simp only [List.length_map, List.length_range]
    omega
theorem pad_eq (a : List Int) : ∀ n, a.length ≤ n → (List.range n).map (fun i => a.getD i 0) = a ++ List.replicate (n - a.length) 0 := by
  intro n hn
  apply List.ext_getElem?
  intro i
  by_cases hi : i < n
  · rw [List.getElem?_map, List.getElem?_range hi]
    by_cases hl : i < a.length
    · rw [List.getElem?_append_left hl, List.getElem?_eq_getElem hl]; simp [List.getD, List.getElem?_eq_getElem hl]
    · rw [List.getElem?_append_right (by omega), List.getElem?_replicate, if_pos (by omega)]; simp [List.getD, List.getElem?_eq_none (show a.length ≤ i by omega)]
  · rw [List.getElem?_eq_none (by simp; omega), List.getElem?_eq_none (by simp; omega)]
theorem val_pad (a : List Int) (n : Nat) (h : a.length ≤ n) : val ((List.range n).map (fun i => a.getD i 0)) = val a := by rw [pad_eq a n h, val_append, val_rep]; simp
theorem ones_rep (n : Nat) : onesL (List.replicate n 0) = 0 := by
  induction n with
  | zero => rfl
  | succ n ih => simp only [List.replicate_succ, onesL, List.map_cons, List.sum_cons] at ih ⊢; rw [ih]; rfl
theorem ones_pad (a : List Int) (n : Nat) (h : a.length ≤ n) : onesL ((List.range n).map (fun i => a.getD i 0)) = onesL a := by rw [pad_eq a n h, onesL_append, ones_rep, Int.add_zero]

theorem op_sums {x y : Int} (hx : 0 ≤ x ∧ x < 4294967296) (hy : 0 ≤ y ∧ y < 4294967296) : opN 0 x y + opN 3 x y = x ∧ opN 0 x y + opN 2 x y = opN 1 x y ∧ opN 3 x y + y = opN 1 x y := by
  obtain ⟨x, rfl⟩ := Int.eq_ofNat_of_zero_le hx.1
  obtain ⟨y, rfl⟩ := Int.eq_ofNat_of_zero_le hy.1
  obtain ⟨h1, h2, h3⟩ := bool_sums 32 x y (by omega) (by omega)
  simp only [opN, Int.toNat_natCast]
  omega

theorem ones_sums (a b : List Int) (n : Nat) : onesL ((List.range n).map (zipF 0 a b)) + onesL ((List.range n).map (zipF 1 a b)) = onesL ((List.range n).map (fun i => a.getD i 0)) + onesL ((List.range n).map (fun i => b.getD i 0)) := by
  induction n with
  | zero => rfl
  | succ n ih =>
    rw [map_succ, map_succ, map_succ, map_succ, onesL_append, onesL_append, onesL_append, onesL_append]
    have h := pop_sums 32 (a.getD n 0).toNat (b.getD n 0).toNat
    have e : ∀ x : Int, onesL [x] = (popF 32 x.toNat : Nat) := fun x => by simp [onesL]
    rw [e, e, e, e]
    simp only [zipF, opN, Int.toNat_natCast]
    omega

theorem ones_zero {xs : List Int} (lx : lim xs) : onesL xs = 0 ↔ ∀ x, x ∈ xs → x = 0 := by
  induction xs with
  | nil => simp [onesL]
  | cons x xs ih =>
    have := ih lx.tail
    have hx := lx.head
    have h0 := onesL_nonneg xs
    have hp := pop_eq_zero (k := 32) (n := x.toNat) (by omega)
    have e : onesL (x :: xs) = (popF 32 x.toNat : Nat) + onesL xs := by simp [onesL]
    rw [e]
    constructor
    · intro h y hy
      rcases List.mem_cons.1 hy with rfl | hy
      · have := hp.1 (by omega); omega
      · exact this.1 (by omega) y hy
    · intro h
      have h1 := this.2 fun y hy => h y (List.mem_cons_of_mem _ hy)
      have h2 := h x List.mem_cons_self
      subst h2
      rw [h1]; simp [pop_zero]

theorem lim_zipW (w : Nat) {a b : List Int} (la : lim a) (lb : lim b) : lim (zipW w a b) := lim_zip w la lb _

theorem ones_xor {a b : List Int} (la : lim a) (lb : lim b) (ma : may a) (mb : may b) : onesL (zipW 2 a b) = 0 ↔ a = b := by
  rw [ones_zero (lim_zipW 2 la lb)]
  constructor
  · intro h
    have key : ∀ i, a.getD i 0 = b.getD i 0 := fun i => by
      by_cases hi : i < max a.length b.length
      · have h0 : zipF 2 a b i = 0 := h _ (List.mem_map_of_mem (List.mem_range.2 hi))
        have ha := la.getD i
        have hb := lb.getD i
        simp only [zipF, opN] at h0
        have h1 : (a.getD i 0).toNat ^^^ (b.getD i 0).toNat = 0 := by exact_mod_cast h0
        have h2 : (a.getD i 0).toNat ^^^ ((a.getD i 0).toNat ^^^ (b.getD i 0).toNat) = (a.getD i 0).toNat ^^^ 0 := by rw [h1]
        rw [← Nat.xor_assoc, Nat.xor_self, Nat.zero_xor, Nat.xor_zero] at h2
        omega
      · rw [getD_out (by omega), getD_out (by omega)]
    refine val_inj la lb ma.2 mb.2 ?_
    rw [← val_pad a (max a.length b.length) (by omega), ← val_pad b (max a.length b.length) (by omega)]
    congr 1
    exact List.map_congr_left fun i _ => key i
  · rintro rfl x hx
    obtain ⟨i, _, rfl⟩ := List.mem_map.1 hx
    simp [zipF, opN]

theorem meet_may {w : Nat} {a b : List Int} (la : lim a) (lb : lim b) : may (meetL w a b) := by
  unfold meetL
  split
  · rename_i h
    refine may_of_len ?_
    have h1 := trimL_len (zipW w a b)
    rw [trimL_limbs (lim_zipW w la lb)] at h1
    have h2 := h.1.1
    have h3 := h.2.1
    simp [zipW] at h1 ⊢
    omega
  · exact may_nil
theorem meet_val {w : Nat} {a b : List Int} (la : lim a) (lb : lim b) (h : may a ∧ may b) : val (meetL w a b) = val (zipW w a b) := by
  rw [meetL, if_pos h, limbs_val (val_bound (lim_zipW w la lb)).1]
theorem meet_ones {w : Nat} {a b : List Int} (la : lim a) (lb : lim b) (h : may a ∧ may b) : onesR (meetL w a b) = onesL (zipW w a b) := by
  rw [onesR, if_pos (meet_may la lb), meetL, if_pos h, ← trimL_limbs (show lim (zipW w a b) from lim_zipW w la lb), onesL_trim]
theorem meet_fit {w : Nat} {a b : List Int} (la : lim a) (lb : lim b) (h : may a ∧ may b) : fitL (val (zipW w a b)) = meetL w a b := by
  have := fit_may (a := meetL w a b) (by rw [meetL, if_pos h]; exact limbs_lim _) (meet_may la lb)
  rwa [meet_val la lb h] at this

theorem callTook0 {Q : St → Prop} {k : List It} {env : Env} {hp : Heap} {d : Nat} (id : Nat) (n : List Int) (hid : 1000 ≤ id) (hg : hget hp id = some (.blk 75 [.bool false, .bool false])) (hn : may n)
    (hk : run Try.prog Q k ⟨eset env d (uL true n), hset hp id (.blk 75 [.bool false, .bool false])⟩) : callK Try.prog Q k (some d) ⟨env, hp⟩ 68 [.bptr id 0, uL true n, .int .i64 0] :=
  callTook id False n 0 hid hg (.inl rfl) hn (by simpa using hk)

theorem NatBoole_true (a b : List Int) : FSpec0 Try.prog 16 [uL false a, uL false b] (fun r => r = .bool true) := by
  refine FSpec0.of_facts fun hf => fspec0_of_run k16 ?_
  have la : lim a := lim_of_factL hf.1
  have lb : lim b := lim_of_factL hf.2.1
  simp only [uL, c16, W1, W2, W3, popTo, memb, res, wres, env0, byteAt, optI, cutB, cutL, sliceR, strR, ldCells, ldR, iaR, faR, lenR, lenSR, ixR, exR, nchkR, mxR, up, ZV.av, ZV.fit, zfits, fits, fitsL, cellsOf, down, downL, downLL, stR, mkR, bsR, boxR, alR, apR, cpR, srcQ, solid, killC, killV, killE, killO, killH, hget, hset, hdel, pubV, pubC, pubO, renV, renC, renO, reduceIte, reduceCtorEq, Nat.reduceEqDiff, Nat.reduceLT, Nat.reduceAdd, Int.reduceToNat, Nat.reduceLeDiff, Int.reducePow, Int.reduceLE, Int.reduceLT]
  refine call1 (slopelaw1_alive) (by repeat (first | exact subs_nil | refine subs_int ?_ | refine subs_ro ?_ | refine subs_bool ?_ | refine subs_str ?_ | refine subs_nilro ?_ | refine subs_lits rfl ?_ | refine subs_all rfl rfl (by simp) ?_ | refine subs_own rfl rfl ?_ | refine subs_fn ?_)) ?_; simp only [uL, W1, W2, W3, popTo, memb, res, wres, env0, byteAt, optI, cutB, cutL, sliceR, strR, ldCells, ldR, iaR, faR, lenR, lenSR, ixR, exR, nchkR, mxR, up, ZV.av, ZV.fit, zfits, fits, fitsL, cellsOf, down, downL, downLL, stR, mkR, bsR, boxR, alR, apR, cpR, srcQ, solid, killC, killV, killE, killO, killH, hget, hset, hdel, pubV, pubC, pubO, renV, renC, renO, reduceIte, reduceCtorEq, Nat.reduceEqDiff, Nat.reduceLT, Nat.reduceAdd, Int.reduceToNat, Nat.reduceLeDiff, Int.reducePow, Int.reduceLE, Int.reduceLT]
  refine call1 (slopelaw1_may false [a, b]) (by repeat (first | exact subs_nil | refine subs_int ?_ | refine subs_ro ?_ | refine subs_bool ?_ | refine subs_str ?_ | refine subs_nilro ?_ | refine subs_lits rfl ?_ | refine subs_all rfl rfl (by simp) ?_ | refine subs_own rfl rfl ?_ | refine subs_fn ?_)) ?_; simp only [uL, W1, W2, W3, popTo, memb, res, wres, env0, byteAt, optI, cutB, cutL, sliceR, strR, ldCells, ldR, iaR, faR, lenR, lenSR, ixR, exR, nchkR, mxR, up, ZV.av, ZV.fit, zfits, fits, fitsL, cellsOf, down, downL, downLL, stR, mkR, bsR, boxR, alR, apR, cpR, srcQ, solid, killC, killV, killE, killO, killH, hget, hset, hdel, pubV, pubC, pubO, renV, renC, renO, reduceIte, reduceCtorEq, Nat.reduceEqDiff, Nat.reduceLT, Nat.reduceAdd, Int.reduceToNat, Nat.reduceLeDiff, Int.reducePow, Int.reduceLE, Int.reduceLT]
  refine ⟨fun h => ret1' (by simp only [retR, retA, retL, ret1, ret1L, eget, hget, hset, St.set, eset, List.map_cons, List.map_nil, reduceIte, reduceCtorEq, Nat.reduceEqDiff, Nat.reduceLT, true_and, and_true, false_or, or_true, true_or, List.drop_zero, List.take_length, scalE_I, scalE_B, scalE_S]), fun h => ?_⟩
  have h := Classical.not_not.1 h
  have ma := h.1
  have mb := h.2
  have l1 := ma.1
  have l2 := mb.1
  have me : meetE a b = 0 := by rw [meetE, if_pos h]
  have bd := fun i => op_sums (la.getD i) (lb.getD i)
  have v1 : val (zipW 0 a b) + val (zipW 3 a b) = val a := by
    rw [← val_pad a (max a.length b.length) (by omega)]
    exact val_map_add (fun i => (bd i).1) _
  have v2 : val (zipW 0 a b) + val (zipW 2 a b) = val (zipW 1 a b) := val_map_add (fun i => (bd i).2.1) _
  have v3 : val (zipW 3 a b) + val b = val (zipW 1 a b) := by
    rw [← val_pad b (max a.length b.length) (by omega)]
    exact val_map_add (fun i => (bd i).2.2) _
  have fa := fit_may la ma
  have o1 : onesL (zipW 0 a b) + onesL (zipW 1 a b) = onesL a + onesL b := by
    have := ones_sums a b (max a.length b.length)
    rw [ones_pad a _ (by omega), ones_pad b _ (by omega)] at this
    exact this
  refine call1 (natural_And false false a b) (by repeat (first | exact subs_nil | refine subs_int ?_ | refine subs_ro ?_ | refine subs_bool ?_ | refine subs_str ?_ | refine subs_nilro ?_ | refine subs_lits rfl ?_ | refine subs_all rfl rfl (by simp) ?_ | refine subs_own rfl rfl ?_ | refine subs_fn ?_)) ?_; simp only [uL, W1, W2, W3, popTo, memb, res, wres, env0, byteAt, optI, cutB, cutL, sliceR, strR, ldCells, ldR, iaR, faR, lenR, lenSR, ixR, exR, nchkR, mxR, up, ZV.av, ZV.fit, zfits, fits, fitsL, cellsOf, down, downL, downLL, stR, mkR, bsR, boxR, alR, apR, cpR, srcQ, solid, killC, killV, killE, killO, killH, hget, hset, hdel, pubV, pubC, pubO, renV, renC, renO, reduceIte, reduceCtorEq, Nat.reduceEqDiff, Nat.reduceLT, Nat.reduceAdd, Int.reduceToNat, Nat.reduceLeDiff, Int.reducePow, Int.reduceLE, Int.reduceLT]
  rw [me]
  refine callTook0 1003 (meetL 0 a b) (by omega) rfl (meet_may la lb) ?_
  simp only [uL, W1, W2, W3, popTo, memb, res, wres, env0, byteAt, optI, cutB, cutL, sliceR, strR, ldCells, ldR, iaR, faR, lenR, lenSR, ixR, exR, nchkR, mxR, up, ZV.av, ZV.fit, zfits, fits, fitsL, cellsOf, down, downL, downLL, stR, mkR, bsR, boxR, alR, apR, cpR, srcQ, solid, killC, killV, killE, killO, killH, hget, hset, hdel, pubV, pubC, pubO, renV, renC, renO, reduceIte, reduceCtorEq, Nat.reduceEqDiff, Nat.reduceLT, Nat.reduceAdd, Int.reduceToNat, Nat.reduceLeDiff, Int.reducePow, Int.reduceLE, Int.reduceLT]
  refine call1 (natural_Or false false a b) (by repeat (first | exact subs_nil | refine subs_int ?_ | refine subs_ro ?_ | refine subs_bool ?_ | refine subs_str ?_ | refine subs_nilro ?_ | refine subs_lits rfl ?_ | refine subs_all rfl rfl (by simp) ?_ | refine subs_own rfl rfl ?_ | refine subs_fn ?_)) ?_; simp only [uL, W1, W2, W3, popTo, memb, res, wres, env0, byteAt, optI, cutB, cutL, sliceR, strR, ldCells, ldR, iaR, faR, lenR, lenSR, ixR, exR, nchkR, mxR, up, ZV.av, ZV.fit, zfits, fits, fitsL, cellsOf, down, downL, downLL, stR, mkR, bsR, boxR, alR, apR, cpR, srcQ, solid, killC, killV, killE, killO, killH, hget, hset, hdel, pubV, pubC, pubO, renV, renC, renO, reduceIte, reduceCtorEq, Nat.reduceEqDiff, Nat.reduceLT, Nat.reduceAdd, Int.reduceToNat, Nat.reduceLeDiff, Int.reducePow, Int.reduceLE, Int.reduceLT]
  rw [me]
  refine callTook0 1003 (meetL 1 a b) (by omega) rfl (meet_may la lb) ?_
  simp only [uL, W1, W2, W3, popTo, memb, res, wres, env0, byteAt, optI, cutB, cutL, sliceR, strR, ldCells, ldR, iaR, faR, lenR, lenSR, ixR, exR, nchkR, mxR, up, ZV.av, ZV.fit, zfits, fits, fitsL, cellsOf, down, downL, downLL, stR, mkR, bsR, boxR, alR, apR, cpR, srcQ, solid, killC, killV, killE, killO, killH, hget, hset, hdel, pubV, pubC, pubO, renV, renC, renO, reduceIte, reduceCtorEq, Nat.reduceEqDiff, Nat.reduceLT, Nat.reduceAdd, Int.reduceToNat, Nat.reduceLeDiff, Int.reducePow, Int.reduceLE, Int.reduceLT]
  refine call1 (natural_Xor false false a b) (by repeat (first | exact subs_nil | refine subs_int ?_ | refine subs_ro ?_ | refine subs_bool ?_ | refine subs_str ?_ | refine subs_nilro ?_ | refine subs_lits rfl ?_ | refine subs_all rfl rfl (by simp) ?_ | refine subs_own rfl rfl ?_ | refine subs_fn ?_)) ?_; simp only [uL, W1, W2, W3, popTo, memb, res, wres, env0, byteAt, optI, cutB, cutL, sliceR, strR, ldCells, ldR, iaR, faR, lenR, lenSR, ixR, exR, nchkR, mxR, up, ZV.av, ZV.fit, zfits, fits, fitsL, cellsOf, down, downL, downLL, stR, mkR, bsR, boxR, alR, apR, cpR, srcQ, solid, killC, killV, killE, killO, killH, hget, hset, hdel, pubV, pubC, pubO, renV, renC, renO, reduceIte, reduceCtorEq, Nat.reduceEqDiff, Nat.reduceLT, Nat.reduceAdd, Int.reduceToNat, Nat.reduceLeDiff, Int.reducePow, Int.reduceLE, Int.reduceLT]
  rw [me]
  refine callTook0 1003 (meetL 2 a b) (by omega) rfl (meet_may la lb) ?_
  simp only [uL, W1, W2, W3, popTo, memb, res, wres, env0, byteAt, optI, cutB, cutL, sliceR, strR, ldCells, ldR, iaR, faR, lenR, lenSR, ixR, exR, nchkR, mxR, up, ZV.av, ZV.fit, zfits, fits, fitsL, cellsOf, down, downL, downLL, stR, mkR, bsR, boxR, alR, apR, cpR, srcQ, solid, killC, killV, killE, killO, killH, hget, hset, hdel, pubV, pubC, pubO, renV, renC, renO, reduceIte, reduceCtorEq, Nat.reduceEqDiff, Nat.reduceLT, Nat.reduceAdd, Int.reduceToNat, Nat.reduceLeDiff, Int.reducePow, Int.reduceLE, Int.reduceLT]
  refine call1 (natural_Not false false a b) (by repeat (first | exact subs_nil | refine subs_int ?_ | refine subs_ro ?_ | refine subs_bool ?_ | refine subs_str ?_ | refine subs_nilro ?_ | refine subs_lits rfl ?_ | refine subs_all rfl rfl (by simp) ?_ | refine subs_own rfl rfl ?_ | refine subs_fn ?_)) ?_; simp only [uL, W1, W2, W3, popTo, memb, res, wres, env0, byteAt, optI, cutB, cutL, sliceR, strR, ldCells, ldR, iaR, faR, lenR, lenSR, ixR, exR, nchkR, mxR, up, ZV.av, ZV.fit, zfits, fits, fitsL, cellsOf, down, downL, downLL, stR, mkR, bsR, boxR, alR, apR, cpR, srcQ, solid, killC, killV, killE, killO, killH, hget, hset, hdel, pubV, pubC, pubO, renV, renC, renO, reduceIte, reduceCtorEq, Nat.reduceEqDiff, Nat.reduceLT, Nat.reduceAdd, Int.reduceToNat, Nat.reduceLeDiff, Int.reducePow, Int.reduceLE, Int.reduceLT]
  rw [me]
  refine callTook0 1003 (meetL 3 a b) (by omega) rfl (meet_may la lb) ?_
  simp only [uL, W1, W2, W3, popTo, memb, res, wres, env0, byteAt, optI, cutB, cutL, sliceR, strR, ldCells, ldR, iaR, faR, lenR, lenSR, ixR, exR, nchkR, mxR, up, ZV.av, ZV.fit, zfits, fits, fitsL, cellsOf, down, downL, downLL, stR, mkR, bsR, boxR, alR, apR, cpR, srcQ, solid, killC, killV, killE, killO, killH, hget, hset, hdel, pubV, pubC, pubO, renV, renC, renO, reduceIte, reduceCtorEq, Nat.reduceEqDiff, Nat.reduceLT, Nat.reduceAdd, Int.reduceToNat, Nat.reduceLeDiff, Int.reducePow, Int.reduceLE, Int.reduceLT]
  refine cut_intro (fun st => ∃ v : OB, st = ⟨[(0, uL false a), (1, uL false b), (6, uL true (meetL 0 a b)), (7, uL true (meetL 1 a b)), (8, uL true (meetL 2 a b))], [(1003, v)]⟩) ?_ ?_
  · simp only [uL, W1, W2, W3, popTo, memb, res, wres, env0, byteAt, optI, cutB, cutL, sliceR, strR, ldCells, ldR, iaR, faR, lenR, lenSR, ixR, exR, nchkR, mxR, up, ZV.av, ZV.fit, zfits, fits, fitsL, cellsOf, down, downL, downLL, stR, mkR, bsR, boxR, alR, apR, cpR, srcQ, solid, killC, killV, killE, killO, killH, hget, hset, hdel, pubV, pubC, pubO, renV, renC, renO, reduceIte, reduceCtorEq, Nat.reduceEqDiff, Nat.reduceLT, Nat.reduceAdd, Int.reduceToNat, Nat.reduceLeDiff, Int.reducePow, Int.reduceLE, Int.reduceLT]
    refine callC (calls_add 1003 (by omega) False true true (meetL 0 a b) (meetL 3 a b) (meet_may la lb) (meet_may la lb)) ( rfl) (by repeat (first | exact subs_nil | refine subs_int ?_ | refine subs_ro ?_ | refine subs_bool ?_ | refine subs_str ?_ | refine subs_nilro ?_ | refine subs_lits rfl ?_ | refine subs_all rfl rfl (by simp) ?_ | refine subs_own rfl rfl ?_ | refine subs_fn ?_)) ?_; simp only [uL, W1, W2, W3, popTo, memb, res, wres, env0, byteAt, optI, cutB, cutL, sliceR, strR, ldCells, ldR, iaR, faR, lenR, lenSR, ixR, exR, nchkR, mxR, up, ZV.av, ZV.fit, zfits, fits, fitsL, cellsOf, down, downL, downLL, stR, mkR, bsR, boxR, alR, apR, cpR, srcQ, solid, killC, killV, killE, killO, killH, hget, hset, hdel, pubV, pubC, pubO, renV, renC, renO, reduceIte, reduceCtorEq, Nat.reduceEqDiff, Nat.reduceLT, Nat.reduceAdd, Int.reduceToNat, Nat.reduceLeDiff, Int.reducePow, Int.reduceLE, Int.reduceLT]
    rw [meet_val la lb h, meet_val la lb h, v1, fa]
    refine call1 (slopelaw1_same true false a a) (by repeat (first | exact subs_nil | refine subs_int ?_ | refine subs_ro ?_ | refine subs_bool ?_ | refine subs_str ?_ | refine subs_nilro ?_ | refine subs_lits rfl ?_ | refine subs_all rfl rfl (by simp) ?_ | refine subs_own rfl rfl ?_ | refine subs_fn ?_)) ?_; simp only [uL, W1, W2, W3, popTo, memb, res, wres, env0, byteAt, optI, cutB, cutL, sliceR, strR, ldCells, ldR, iaR, faR, lenR, lenSR, ixR, exR, nchkR, mxR, up, ZV.av, ZV.fit, zfits, fits, fitsL, cellsOf, down, downL, downLL, stR, mkR, bsR, boxR, alR, apR, cpR, srcQ, solid, killC, killV, killE, killO, killH, hget, hset, hdel, pubV, pubC, pubO, renV, renC, renO, reduceIte, reduceCtorEq, Nat.reduceEqDiff, Nat.reduceLT, Nat.reduceAdd, Int.reduceToNat, Nat.reduceLeDiff, Int.reducePow, Int.reduceLE, Int.reduceLT]
    refine callC (calls_add 1003 (by omega) (fitE (val a) = 2) true true (meetL 0 a b) (meetL 2 a b) (meet_may la lb) (meet_may la lb)) ( rfl) (by repeat (first | exact subs_nil | refine subs_int ?_ | refine subs_ro ?_ | refine subs_bool ?_ | refine subs_str ?_ | refine subs_nilro ?_ | refine subs_lits rfl ?_ | refine subs_all rfl rfl (by simp) ?_ | refine subs_own rfl rfl ?_ | refine subs_fn ?_)) ?_; simp only [uL, W1, W2, W3, popTo, memb, res, wres, env0, byteAt, optI, cutB, cutL, sliceR, strR, ldCells, ldR, iaR, faR, lenR, lenSR, ixR, exR, nchkR, mxR, up, ZV.av, ZV.fit, zfits, fits, fitsL, cellsOf, down, downL, downLL, stR, mkR, bsR, boxR, alR, apR, cpR, srcQ, solid, killC, killV, killE, killO, killH, hget, hset, hdel, pubV, pubC, pubO, renV, renC, renO, reduceIte, reduceCtorEq, Nat.reduceEqDiff, Nat.reduceLT, Nat.reduceAdd, Int.reduceToNat, Nat.reduceLeDiff, Int.reducePow, Int.reduceLE, Int.reduceLT]
    rw [meet_val la lb h, meet_val la lb h, v2, meet_fit la lb h]
    refine call1 (slopelaw1_same true true (meetL 1 a b) (meetL 1 a b)) (by repeat (first | exact subs_nil | refine subs_int ?_ | refine subs_ro ?_ | refine subs_bool ?_ | refine subs_str ?_ | refine subs_nilro ?_ | refine subs_lits rfl ?_ | refine subs_all rfl rfl (by simp) ?_ | refine subs_own rfl rfl ?_ | refine subs_fn ?_)) ?_; simp only [uL, W1, W2, W3, popTo, memb, res, wres, env0, byteAt, optI, cutB, cutL, sliceR, strR, ldCells, ldR, iaR, faR, lenR, lenSR, ixR, exR, nchkR, mxR, up, ZV.av, ZV.fit, zfits, fits, fitsL, cellsOf, down, downL, downLL, stR, mkR, bsR, boxR, alR, apR, cpR, srcQ, solid, killC, killV, killE, killO, killH, hget, hset, hdel, pubV, pubC, pubO, renV, renC, renO, reduceIte, reduceCtorEq, Nat.reduceEqDiff, Nat.reduceLT, Nat.reduceAdd, Int.reduceToNat, Nat.reduceLeDiff, Int.reducePow, Int.reduceLE, Int.reduceLT]
    refine callC (calls_add 1003 (by omega) (fitE (val a) = 2 ∨ fitE (val (zipW 1 a b)) = 2) true false (meetL 3 a b) b (meet_may la lb) mb) ( rfl) (by repeat (first | exact subs_nil | refine subs_int ?_ | refine subs_ro ?_ | refine subs_bool ?_ | refine subs_str ?_ | refine subs_nilro ?_ | refine subs_lits rfl ?_ | refine subs_all rfl rfl (by simp) ?_ | refine subs_own rfl rfl ?_ | refine subs_fn ?_)) ?_; simp only [uL, W1, W2, W3, popTo, memb, res, wres, env0, byteAt, optI, cutB, cutL, sliceR, strR, ldCells, ldR, iaR, faR, lenR, lenSR, ixR, exR, nchkR, mxR, up, ZV.av, ZV.fit, zfits, fits, fitsL, cellsOf, down, downL, downLL, stR, mkR, bsR, boxR, alR, apR, cpR, srcQ, solid, killC, killV, killE, killO, killH, hget, hset, hdel, pubV, pubC, pubO, renV, renC, renO, reduceIte, reduceCtorEq, Nat.reduceEqDiff, Nat.reduceLT, Nat.reduceAdd, Int.reduceToNat, Nat.reduceLeDiff, Int.reducePow, Int.reduceLE, Int.reduceLT]
    rw [meet_val la lb h, v3, meet_fit la lb h]
    refine call1 (slopelaw1_same true true (meetL 1 a b) (meetL 1 a b)) (by repeat (first | exact subs_nil | refine subs_int ?_ | refine subs_ro ?_ | refine subs_bool ?_ | refine subs_str ?_ | refine subs_nilro ?_ | refine subs_lits rfl ?_ | refine subs_all rfl rfl (by simp) ?_ | refine subs_own rfl rfl ?_ | refine subs_fn ?_)) ?_; simp only [uL, W1, W2, W3, popTo, memb, res, wres, env0, byteAt, optI, cutB, cutL, sliceR, strR, ldCells, ldR, iaR, faR, lenR, lenSR, ixR, exR, nchkR, mxR, up, ZV.av, ZV.fit, zfits, fits, fitsL, cellsOf, down, downL, downLL, stR, mkR, bsR, boxR, alR, apR, cpR, srcQ, solid, killC, killV, killE, killO, killH, hget, hset, hdel, pubV, pubC, pubO, renV, renC, renO, reduceIte, reduceCtorEq, Nat.reduceEqDiff, Nat.reduceLT, Nat.reduceAdd, Int.reduceToNat, Nat.reduceLeDiff, Int.reducePow, Int.reduceLE, Int.reduceLT]
    exact join_intro _ (by simp [eget]) ⟨_, rfl⟩
  rintro st ⟨v, rfl⟩
  simp only [uL, W1, W2, W3, popTo, memb, res, wres, env0, byteAt, optI, cutB, cutL, sliceR, strR, ldCells, ldR, iaR, faR, lenR, lenSR, ixR, exR, nchkR, mxR, up, ZV.av, ZV.fit, zfits, fits, fitsL, cellsOf, down, downL, downLL, stR, mkR, bsR, boxR, alR, apR, cpR, srcQ, solid, killC, killV, killE, killO, killH, hget, hset, hdel, pubV, pubC, pubO, renV, renC, renO, reduceIte, reduceCtorEq, Nat.reduceEqDiff, Nat.reduceLT, Nat.reduceAdd, Int.reduceToNat, Nat.reduceLeDiff, Int.reducePow, Int.reduceLE, Int.reduceLT]
  refine call1 (natural_Ones true (meetL 2 a b)) (by repeat (first | exact subs_nil | refine subs_int ?_ | refine subs_ro ?_ | refine subs_bool ?_ | refine subs_str ?_ | refine subs_nilro ?_ | refine subs_lits rfl ?_ | refine subs_all rfl rfl (by simp) ?_ | refine subs_own rfl rfl ?_ | refine subs_fn ?_)) ?_; simp only [uL, W1, W2, W3, popTo, memb, res, wres, env0, byteAt, optI, cutB, cutL, sliceR, strR, ldCells, ldR, iaR, faR, lenR, lenSR, ixR, exR, nchkR, mxR, up, ZV.av, ZV.fit, zfits, fits, fitsL, cellsOf, down, downL, downLL, stR, mkR, bsR, boxR, alR, apR, cpR, srcQ, solid, killC, killV, killE, killO, killH, hget, hset, hdel, pubV, pubC, pubO, renV, renC, renO, reduceIte, reduceCtorEq, Nat.reduceEqDiff, Nat.reduceLT, Nat.reduceAdd, Int.reduceToNat, Nat.reduceLeDiff, Int.reducePow, Int.reduceLE, Int.reduceLT]
  rw [meet_ones la lb h]
  refine call1 (slopelaw1_same false false a b) (by repeat (first | exact subs_nil | refine subs_int ?_ | refine subs_ro ?_ | refine subs_bool ?_ | refine subs_str ?_ | refine subs_nilro ?_ | refine subs_lits rfl ?_ | refine subs_all rfl rfl (by simp) ?_ | refine subs_own rfl rfl ?_ | refine subs_fn ?_)) ?_; simp only [uL, W1, W2, W3, popTo, memb, res, wres, env0, byteAt, optI, cutB, cutL, sliceR, strR, ldCells, ldR, iaR, faR, lenR, lenSR, ixR, exR, nchkR, mxR, up, ZV.av, ZV.fit, zfits, fits, fitsL, cellsOf, down, downL, downLL, stR, mkR, bsR, boxR, alR, apR, cpR, srcQ, solid, killC, killV, killE, killO, killH, hget, hset, hdel, pubV, pubC, pubO, renV, renC, renO, reduceIte, reduceCtorEq, Nat.reduceEqDiff, Nat.reduceLT, Nat.reduceAdd, Int.reduceToNat, Nat.reduceLeDiff, Int.reducePow, Int.reduceLE, Int.reduceLT]
  refine ⟨fun _ => ?_, fun hn => absurd (ones_xor la lb ma mb) hn⟩
  refine call1 (natural_Ones true (meetL 0 a b)) (by repeat (first | exact subs_nil | refine subs_int ?_ | refine subs_ro ?_ | refine subs_bool ?_ | refine subs_str ?_ | refine subs_nilro ?_ | refine subs_lits rfl ?_ | refine subs_all rfl rfl (by simp) ?_ | refine subs_own rfl rfl ?_ | refine subs_fn ?_)) ?_; simp only [uL, W1, W2, W3, popTo, memb, res, wres, env0, byteAt, optI, cutB, cutL, sliceR, strR, ldCells, ldR, iaR, faR, lenR, lenSR, ixR, exR, nchkR, mxR, up, ZV.av, ZV.fit, zfits, fits, fitsL, cellsOf, down, downL, downLL, stR, mkR, bsR, boxR, alR, apR, cpR, srcQ, solid, killC, killV, killE, killO, killH, hget, hset, hdel, pubV, pubC, pubO, renV, renC, renO, reduceIte, reduceCtorEq, Nat.reduceEqDiff, Nat.reduceLT, Nat.reduceAdd, Int.reduceToNat, Nat.reduceLeDiff, Int.reducePow, Int.reduceLE, Int.reduceLT]
  refine call1 (natural_Ones true (meetL 1 a b)) (by repeat (first | exact subs_nil | refine subs_int ?_ | refine subs_ro ?_ | refine subs_bool ?_ | refine subs_str ?_ | refine subs_nilro ?_ | refine subs_lits rfl ?_ | refine subs_all rfl rfl (by simp) ?_ | refine subs_own rfl rfl ?_ | refine subs_fn ?_)) ?_; simp only [uL, W1, W2, W3, popTo, memb, res, wres, env0, byteAt, optI, cutB, cutL, sliceR, strR, ldCells, ldR, iaR, faR, lenR, lenSR, ixR, exR, nchkR, mxR, up, ZV.av, ZV.fit, zfits, fits, fitsL, cellsOf, down, downL, downLL, stR, mkR, bsR, boxR, alR, apR, cpR, srcQ, solid, killC, killV, killE, killO, killH, hget, hset, hdel, pubV, pubC, pubO, renV, renC, renO, reduceIte, reduceCtorEq, Nat.reduceEqDiff, Nat.reduceLT, Nat.reduceAdd, Int.reduceToNat, Nat.reduceLeDiff, Int.reducePow, Int.reduceLE, Int.reduceLT]
  rw [meet_ones la lb h, meet_ones la lb h]
  have q1 := onesL_bound (zipW 0 a b)
  have q2 := onesL_bound (zipW 1 a b)
  have q3 := onesL_nonneg (zipW 0 a b)
  have q4 := onesL_nonneg (zipW 1 a b)
  have q5 : (zipW 0 a b).length ≤ 2048 := by simp [zipW]; omega
  have q6 : (zipW 1 a b).length ≤ 2048 := by simp [zipW]; omega
  refine ⟨by omega, ?_⟩
  refine call1 (natural_Ones false a) (by repeat (first | exact subs_nil | refine subs_int ?_ | refine subs_ro ?_ | refine subs_bool ?_ | refine subs_str ?_ | refine subs_nilro ?_ | refine subs_lits rfl ?_ | refine subs_all rfl rfl (by simp) ?_ | refine subs_own rfl rfl ?_ | refine subs_fn ?_)) ?_; simp only [uL, W1, W2, W3, popTo, memb, res, wres, env0, byteAt, optI, cutB, cutL, sliceR, strR, ldCells, ldR, iaR, faR, lenR, lenSR, ixR, exR, nchkR, mxR, up, ZV.av, ZV.fit, zfits, fits, fitsL, cellsOf, down, downL, downLL, stR, mkR, bsR, boxR, alR, apR, cpR, srcQ, solid, killC, killV, killE, killO, killH, hget, hset, hdel, pubV, pubC, pubO, renV, renC, renO, reduceIte, reduceCtorEq, Nat.reduceEqDiff, Nat.reduceLT, Nat.reduceAdd, Int.reduceToNat, Nat.reduceLeDiff, Int.reducePow, Int.reduceLE, Int.reduceLT]
  refine call1 (natural_Ones false b) (by repeat (first | exact subs_nil | refine subs_int ?_ | refine subs_ro ?_ | refine subs_bool ?_ | refine subs_str ?_ | refine subs_nilro ?_ | refine subs_lits rfl ?_ | refine subs_all rfl rfl (by simp) ?_ | refine subs_own rfl rfl ?_ | refine subs_fn ?_)) ?_; simp only [uL, W1, W2, W3, popTo, memb, res, wres, env0, byteAt, optI, cutB, cutL, sliceR, strR, ldCells, ldR, iaR, faR, lenR, lenSR, ixR, exR, nchkR, mxR, up, ZV.av, ZV.fit, zfits, fits, fitsL, cellsOf, down, downL, downLL, stR, mkR, bsR, boxR, alR, apR, cpR, srcQ, solid, killC, killV, killE, killO, killH, hget, hset, hdel, pubV, pubC, pubO, renV, renC, renO, reduceIte, reduceCtorEq, Nat.reduceEqDiff, Nat.reduceLT, Nat.reduceAdd, Int.reduceToNat, Nat.reduceLeDiff, Int.reducePow, Int.reduceLE, Int.reduceLT]
  rw [onesR, if_pos ma, onesR, if_pos mb, o1]
  refine ⟨by omega, ?_⟩
  exact ret1' (by simp only [retR, retA, retL, ret1, ret1L, eget, hget, hset, St.set, eset, List.map_cons, List.map_nil, reduceIte, reduceCtorEq, Nat.reduceEqDiff, Nat.reduceLT, true_and, and_true, false_or, or_true, true_or, List.drop_zero, List.take_length, scalE_I, scalE_B, scalE_S, eq_self, decide_true])

end Go.Vc
