/-
  How many binary digits; how many of them are 1.
-/
import Derived.Test.YtdlddbclcmecjaaDoorNat12
set_option linter.unusedVariables false
set_option linter.unusedSimpArgs false
namespace Go.Vc
open Go
open Go.Proofs

/- bits.Len32: arguments 1, results in [2]; slots in use where its loops begin: [] -/
def tb19_0 : ByteArray := ⟨#[0, 1, 2, 2, 3, 3, 3, 3, 4, 4, 4, 4, 4, 4, 4, 4, 5, 5, 5, 5, 5, 5, 5, 5, 5, 5, 5, 5, 5, 5, 5, 5, 6, 6, 6, 6, 6, 6, 6, 6, 6, 6, 6, 6, 6, 6, 6, 6, 6, 6, 6, 6, 6, 6, 6, 6, 6, 6, 6, 6, 6, 6, 6, 6, 7, 7, 7, 7, 7, 7, 7, 7, 7, 7, 7, 7, 7, 7, 7, 7, 7, 7, 7, 7, 7, 7, 7, 7, 7, 7, 7, 7, 7, 7, 7, 7, 7, 7, 7, 7, 7, 7, 7, 7, 7, 7, 7, 7, 7, 7, 7, 7, 7, 7, 7, 7, 7, 7, 7, 7, 7, 7, 7, 7, 7, 7, 7, 7, 8, 8, 8, 8, 8, 8, 8, 8, 8, 8, 8, 8, 8, 8, 8, 8, 8, 8, 8, 8, 8, 8, 8, 8, 8, 8, 8, 8, 8, 8, 8, 8, 8, 8, 8, 8, 8, 8, 8, 8, 8, 8, 8, 8, 8, 8, 8, 8, 8, 8, 8, 8, 8, 8, 8, 8, 8, 8, 8, 8, 8, 8, 8, 8, 8, 8, 8, 8, 8, 8, 8, 8, 8, 8, 8, 8, 8, 8, 8, 8, 8, 8, 8, 8, 8, 8, 8, 8, 8, 8, 8, 8, 8, 8, 8, 8, 8, 8, 8, 8, 8, 8, 8, 8, 8, 8, 8, 8, 8, 8, 8, 8, 8, 8, 8, 8, 8, 8, 8, 8, 8, 8, 8, 8, 8, 8, 8, 8]⟩
def c19 : MC := .seq (.ops [ .op (some 2) none (.p (.mv (.i .i64 (0))))]) (.seq (.cut (.seq (.ops [ .op (some 3) none (.p (.mv (.t 0))), .op (some 4) none (.p (.bin .geq (.t 3) (.i .u32 (65536)))), .gh (.drop [3])]) (.cond (.t 4) (.seq (.ops [ .op (some 5) none (.p (.mv (.t 0))), .op (some 6) none (.p (.bin .shr (.t 5) (.i .u64 (16)))), .op (some 0) none (.p (.mv (.t 6))), .gh (.drop [5, 6])]) (.ops [ .op (some 2) none (.p (.mv (.i .i64 (16))))])) (.skip)))) (.seq (.cut (.seq (.ops [ .op (some 7) none (.p (.mv (.t 0))), .op (some 8) none (.p (.bin .geq (.t 7) (.i .u32 (256)))), .gh (.drop [7])]) (.cond (.t 8) (.seq (.ops [ .op (some 9) none (.p (.mv (.t 0))), .op (some 10) none (.p (.bin .shr (.t 9) (.i .u64 (8)))), .op (some 0) none (.p (.mv (.t 10))), .gh (.drop [9, 10])]) (.ops [ .op (some 11) none (.p (.mv (.t 2))), .op (some 12) none (.p (.bin .add (.t 11) (.i .i64 (8)))), .op (some 2) none (.p (.mv (.t 12))), .gh (.drop [11, 12])])) (.skip)))) (.seq (.ops [ .op (some 13) none (.p (.mv (.t 2))), .op (some 14) none (.p (.mv (.t 0))), .op (some 15) none (.p (.cv .u8 (.t 14))), .op (some 16) none (.p (.ix (.s tb19_0) (.t 15))), .op (some 17) none (.p (.cv .i64 (.t 16))), .op (some 18) none (.p (.bin .add (.t 13) (.t 17))), .op (some 2) none (.p (.mv (.t 18))), .gh (.drop [0, 13, 14, 15, 16, 17, 18])]) (.ret))))
theorem k19 : chkF Tryd.prog 19 1 [2] c19 = true := by kernel_rfl

/- natural.Bits: arguments 1, results in [2]; slots in use where its loops begin: [] -/
def c9 : MC := .seq (.ops [ .op (some 2) none (.p (.mv (.i .i64 (0)))), .gh (.drop [2])]) (.seq (.seq (.ops [ .op (some 3) none (.p (.mv (.t 0))), .op (some 4) none (.call 7 [(.t 3)]), .op (some 5) none (.p (.un .not (.t 4))), .op (some 6) none (.p (.mv (.t 5))), .op (some 7) (some (6, false)) (.p (.mv (.t 0))), .op (some 8) (some (6, false)) (.p (.len (.t 7))), .op (some 9) (some (6, false)) (.p (.bin .eql (.t 8) (.i .i64 (0)))), .op (some 10) none (.pick (.t 6) (.b true) (.t 9)), .gh (.drop [3, 4, 5, 6, 7, 8, 9])]) (.cond (.t 10) (.seq (.ops [ .op (some 2) none (.p (.mv (.i .i64 (0))))]) (.ret)) (.skip))) (.seq (.ops [ .op (some 11) none (.p (.mv (.t 0))), .op (some 12) none (.p (.len (.t 11))), .op (some 13) none (.p (.bin .sub (.t 12) (.i .i64 (1)))), .op (some 14) none (.p (.bin .mul (.i .i64 (32)) (.t 13))), .op (some 15) none (.p (.mv (.t 0))), .op (some 16) none (.p (.mv (.t 0))), .op (some 17) none (.p (.len (.t 16))), .op (some 18) none (.p (.bin .sub (.t 17) (.i .i64 (1)))), .op (some 19) none (.p (.ia 1 (.t 15) (.t 18))), .op (some 20) none (.p (.ld 1 false (.t 19))), .op (some 21) none (.call 19 [(.t 20)]), .op (some 22) none (.p (.bin .add (.t 14) (.t 21))), .op (some 2) none (.p (.mv (.t 22))), .gh (.drop [0, 11, 12, 13, 14, 15, 16, 17, 18, 19, 20, 21, 22])]) (.ret)))
theorem k9 : chkF Tryd.prog 9 1 [2] c9 = true := by kernel_rfl



/-- how many binary digits -/
def blen (n : Nat) : Nat := if n = 0 then 0 else Nat.log2 n + 1
theorem blen_le {n k : Nat} : blen n ≤ k ↔ n < 2 ^ k := by
  unfold blen
  by_cases h : n = 0
  · subst h; simp; exact Nat.pow_pos (by omega)
  · rw [if_neg h, ← Nat.log2_lt h]; omega
theorem blen_lt (n : Nat) : n < 2 ^ blen n := blen_le.1 (Nat.le_refl _)
theorem blen_mono {a b : Nat} (h : a ≤ b) : blen a ≤ blen b := blen_le.2 (Nat.lt_of_le_of_lt h (blen_lt b))
theorem blen_div {n s : Nat} (h : 2 ^ s ≤ n) : blen (n / 2 ^ s) + s = blen n := by
  have hs : s ≤ blen n := by
    refine Nat.le_of_not_lt fun hl => ?_
    have h1 : n < 2 ^ s := blen_le.1 (by omega)
    omega
  have h1 : blen n ≤ blen (n / 2 ^ s) + s := by
    rw [blen_le, Nat.pow_add]
    have := blen_lt (n / 2 ^ s)
    rw [Nat.div_lt_iff_lt_mul (Nat.pow_pos (by omega))] at this
    exact this
  have h2 : blen (n / 2 ^ s) ≤ blen n - s := by
    rw [blen_le, Nat.div_lt_iff_lt_mul (Nat.pow_pos (by omega)), ← Nat.pow_add, Nat.sub_add_cancel hs]
    exact blen_lt n
  omega

theorem tab_len (s : ByteArray) (h : (List.range 256).all (fun i => decide ((s.data.toList.getD i 0).toNat = blen i)) = true) (i : Int) (h0 : 0 ≤ i) (h1 : i < 256) : (((s.data.toList.getD i.toNat 0).toNat : Nat) : Int) = blen i.toNat := by
  have := List.all_eq_true.1 h i.toNat (by simp; omega)
  rw [of_decide_eq_true this]

theorem bits_Len32 (x : Int) : FSpec0 Tryd.prog 19 [.int .u32 x] (fun r => r = .int .i64 (blen x.toNat)) := by
  refine FSpec0.of_facts fun hf => fspec0_of_run k19 ?_
  have hx := hf.1
  simp only [factV, inK] at hx
  simp only [c19, W1, W2, W3, popTo, memb, res, wres, env0, byteAt, optI, cutB, cutL, sliceR, strR, ldCells, ldR, iaR, faR, lenR, lenSR, ixR, exR, nchkR, mxR, csR, up, ZV.av, ZV.fit, zfits, fits, fitsL, cellsOf, down, downL, downLL, stR, mkR, bsR, boxR, alR, apR, cpR, srcQ, solid, killC, killV, killE, killO, killH, hget, hset, hdel, pubV, pubC, pubO, renV, renC, renO, reduceIte, reduceCtorEq, Nat.reduceEqDiff, Nat.reduceLT, Nat.reduceAdd, Int.reduceToNat, Nat.reduceLeDiff, Int.reducePow, Int.reduceLE, Int.reduceLT]
  have step : ∀ (y : Int) (s : Nat), 0 ≤ y → ((2 ^ s : Nat) : Int) ≤ y → blen (y / ((2 ^ s : Nat) : Int)).toNat + s = blen y.toNat := fun y s h0 h => by
    obtain ⟨y, rfl⟩ := Int.eq_ofNat_of_zero_le h0
    have h : 2 ^ s ≤ y := by exact_mod_cast h
    rw [← Int.natCast_ediv, Int.toNat_natCast, Int.toNat_natCast]
    exact blen_div h
  refine cut_intro (fun st => ∃ (y : Int) (n : Nat), 0 ≤ y ∧ y < 65536 ∧ n ≤ 16 ∧ blen x.toNat = blen y.toNat + n ∧ st = ⟨[(0, .int .u32 y), (2, .int .i64 n)], []⟩) ?_ ?_
  · simp only [W1, W2, W3, popTo, memb, res, wres, env0, byteAt, optI, cutB, cutL, sliceR, strR, ldCells, ldR, iaR, faR, lenR, lenSR, ixR, exR, nchkR, mxR, csR, up, ZV.av, ZV.fit, zfits, fits, fitsL, cellsOf, down, downL, downLL, stR, mkR, bsR, boxR, alR, apR, cpR, srcQ, solid, killC, killV, killE, killO, killH, hget, hset, hdel, pubV, pubC, pubO, renV, renC, renO, reduceIte, reduceCtorEq, Nat.reduceEqDiff, Nat.reduceLT, Nat.reduceAdd, Int.reduceToNat, Nat.reduceLeDiff, Int.reducePow, Int.reduceLE, Int.reduceLT]
    refine ⟨fun h _ => join_intro [(0, .int .u32 (x / 65536)), (2, .int .i64 (16 : Nat))] (by simp [eget]) ⟨x / 65536, 16, by omega, by omega, by omega, ?_, rfl⟩, fun h => join_intro [(0, .int .u32 x), (2, .int .i64 (0 : Nat))] (by simp [eget]) ⟨x, 0, by omega, by omega, by omega, rfl, rfl⟩⟩
    exact (step x 16 hx.1 h).symm
  rintro st ⟨y, n, y0, y1, n1, he, rfl⟩
  simp only [W1, W2, W3, popTo, memb, res, wres, env0, byteAt, optI, cutB, cutL, sliceR, strR, ldCells, ldR, iaR, faR, lenR, lenSR, ixR, exR, nchkR, mxR, csR, up, ZV.av, ZV.fit, zfits, fits, fitsL, cellsOf, down, downL, downLL, stR, mkR, bsR, boxR, alR, apR, cpR, srcQ, solid, killC, killV, killE, killO, killH, hget, hset, hdel, pubV, pubC, pubO, renV, renC, renO, reduceIte, reduceCtorEq, Nat.reduceEqDiff, Nat.reduceLT, Nat.reduceAdd, Int.reduceToNat, Nat.reduceLeDiff, Int.reducePow, Int.reduceLE, Int.reduceLT]
  refine cut_intro (fun st => ∃ (z : Int) (m : Nat), 0 ≤ z ∧ z < 256 ∧ m ≤ 24 ∧ blen x.toNat = blen z.toNat + m ∧ st = ⟨[(0, .int .u32 z), (2, .int .i64 m)], []⟩) ?_ ?_
  · simp only [W1, W2, W3, popTo, memb, res, wres, env0, byteAt, optI, cutB, cutL, sliceR, strR, ldCells, ldR, iaR, faR, lenR, lenSR, ixR, exR, nchkR, mxR, csR, up, ZV.av, ZV.fit, zfits, fits, fitsL, cellsOf, down, downL, downLL, stR, mkR, bsR, boxR, alR, apR, cpR, srcQ, solid, killC, killV, killE, killO, killH, hget, hset, hdel, pubV, pubC, pubO, renV, renC, renO, reduceIte, reduceCtorEq, Nat.reduceEqDiff, Nat.reduceLT, Nat.reduceAdd, Int.reduceToNat, Nat.reduceLeDiff, Int.reducePow, Int.reduceLE, Int.reduceLT]
    refine ⟨fun h _ => ⟨by omega, join_intro [(0, .int .u32 (y / 256)), (2, .int .i64 ((n + 8 : Nat) : Int))] (by simp [eget]) ⟨y / 256, n + 8, by omega, by omega, by omega, ?_, rfl⟩⟩, fun h => join_intro [(0, .int .u32 y), (2, .int .i64 n)] (by simp [eget]) ⟨y, n, by omega, by omega, by omega, he, rfl⟩⟩
    have := step y 8 y0 h
    rw [he, ← this]
    show _ = blen (y / 256).toNat + (n + 8)
    have e : (y / ((2 ^ 8 : Nat) : Int)) = y / 256 := rfl
    rw [e]; omega
  rintro st ⟨z, m, z0, z1, m1, he2, rfl⟩
  simp only [W1, W2, W3, popTo, memb, res, wres, env0, byteAt, optI, cutB, cutL, sliceR, strR, ldCells, ldR, iaR, faR, lenR, lenSR, ixR, exR, nchkR, mxR, csR, up, ZV.av, ZV.fit, zfits, fits, fitsL, cellsOf, down, downL, downLL, stR, mkR, bsR, boxR, alR, apR, cpR, srcQ, solid, killC, killV, killE, killO, killH, hget, hset, hdel, pubV, pubC, pubO, renV, renC, renO, reduceIte, reduceCtorEq, Nat.reduceEqDiff, Nat.reduceLT, Nat.reduceAdd, Int.reduceToNat, Nat.reduceLeDiff, Int.reducePow, Int.reduceLE, Int.reduceLT]
  have hz : z % 256 = z := by omega
  have ht := tab_len tb19_0 (by decide +kernel) z z0 z1
  have hb : blen z.toNat ≤ 8 := blen_le.2 (by omega)
  rw [hz, ht]
  exact ⟨⟨z0, by rw [show tb19_0.size = 256 by decide +kernel]; omega⟩, fun _ => ⟨by omega, ret1' (by rw [he2, Int.natCast_add, Int.add_comm]; simp only [retR, retA, retL, ret1, ret1L, eget, hget, hset, St.set, eset, List.map_cons, List.map_nil, reduceIte, reduceCtorEq, Nat.reduceEqDiff, Nat.reduceLT, true_and, and_true, false_or, or_true, true_or, List.drop_zero, List.take_length, scalE_I, scalE_B, scalE_S])⟩⟩

theorem bits_val {n : List Int} (ln : lim n) (ht : top n) {e : Int} (he : n[n.length - 1]? = some e) : (blen (val n).toNat : Int) = 32 * ((n.length : Int) - 1) + blen e.toNat := by
  have hlen : 0 < n.length := by have := (get_of_some he).1; omega
  have hE := ln.get he
  have hne : e ≠ 0 := fun h => ht (by rw [he, h])
  have h1 := val_split n (n.length - 1) (by omega)
  have h2 : val (n.drop (n.length - 1)) = e := by
    rw [val_drop he, show n.length - 1 + 1 = n.length by omega, List.drop_length]; simp [val]
  have hb := val_bound (ln.take (n.length - 1))
  rw [List.length_take, Nat.min_eq_left (by omega)] at hb
  rw [h2] at h1
  have hP : ((4294967296 : Int) ^ (n.length - 1)) = ((2 ^ (32 * (n.length - 1)) : Nat) : Int) := by
    rw [show (4294967296 : Int) = 2 ^ 32 from rfl, ← Int.pow_mul]; push_cast; rfl
  rw [hP] at h1 hb
  obtain ⟨e, rfl⟩ := Int.eq_ofNat_of_zero_le hE.1
  obtain ⟨r, hr⟩ := Int.eq_ofNat_of_zero_le hb.1
  rw [hr] at h1 hb
  have hv : (val n).toNat = r + 2 ^ (32 * (n.length - 1)) * e := by rw [h1]; norm_cast
  have hr2 : r < 2 ^ (32 * (n.length - 1)) := by exact_mod_cast hb.2
  have hd : (val n).toNat / 2 ^ (32 * (n.length - 1)) = e := by
    rw [hv, Nat.add_mul_div_left _ _ (Nat.pow_pos (by omega)), Nat.div_eq_of_lt hr2, Nat.zero_add]
  have hge : 2 ^ (32 * (n.length - 1)) ≤ (val n).toNat := by
    rw [hv]
    have : 2 ^ (32 * (n.length - 1)) * 1 ≤ 2 ^ (32 * (n.length - 1)) * e := Nat.mul_le_mul_left _ (by omega)
    omega
  have := blen_div hge
  rw [hd] at this
  rw [Int.toNat_natCast]
  omega

def bitsR (n : List Int) : Int := if may n then blen (val n).toNat else 0

theorem natural_Bits (fr : Bool) (n : List Int) : FSpec0 Tryd.prog 9 [uL fr n] (fun r => r = .int .i64 (bitsR n)) := by
  refine FSpec0.of_facts fun hf => fspec0_of_run k9 ?_
  have ln : lim n := lim_of_factL hf.1
  simp only [uL, c9, W1, W2, W3, popTo, memb, res, wres, env0, byteAt, optI, cutB, cutL, sliceR, strR, ldCells, ldR, iaR, faR, lenR, lenSR, ixR, exR, nchkR, mxR, csR, up, ZV.av, ZV.fit, zfits, fits, fitsL, cellsOf, down, downL, downLL, stR, mkR, bsR, boxR, alR, apR, cpR, srcQ, solid, killC, killV, killE, killO, killH, hget, hset, hdel, pubV, pubC, pubO, renV, renC, renO, reduceIte, reduceCtorEq, Nat.reduceEqDiff, Nat.reduceLT, Nat.reduceAdd, Int.reduceToNat, Nat.reduceLeDiff, Int.reducePow, Int.reduceLE, Int.reduceLT]
  refine call1 (natural_May fr n) (by repeat (first | exact subs_nil | refine subs_int ?_ | refine subs_ro ?_ | refine subs_bool ?_ | refine subs_str ?_ | refine subs_nilro ?_ | refine subs_lits rfl ?_ | refine subs_all rfl rfl (by simp) ?_ | refine subs_own rfl rfl ?_ | refine subs_fn ?_)) ?_
  simp only [W1, W2, W3, popTo, memb, res, wres, env0, byteAt, optI, cutB, cutL, sliceR, strR, ldCells, ldR, iaR, faR, lenR, lenSR, ixR, exR, nchkR, mxR, csR, up, ZV.av, ZV.fit, zfits, fits, fitsL, cellsOf, down, downL, downLL, stR, mkR, bsR, boxR, alR, apR, cpR, srcQ, solid, killC, killV, killE, killO, killH, hget, hset, hdel, pubV, pubC, pubO, renV, renC, renO, reduceIte, reduceCtorEq, Nat.reduceEqDiff, Nat.reduceLT, Nat.reduceAdd, Int.reduceToNat, Nat.reduceLeDiff, Int.reducePow, Int.reduceLE, Int.reduceLT]
  refine ⟨fun h => ret1' (by rw [bitsR, if_neg h]; simp only [retR, retA, retL, ret1, ret1L, eget, hget, hset, St.set, eset, List.map_cons, List.map_nil, reduceIte, reduceCtorEq, Nat.reduceEqDiff, Nat.reduceLT, true_and, and_true, false_or, or_true, true_or, List.drop_zero, List.take_length, scalE_I, scalE_B, scalE_S]), fun h => ?_⟩
  have hm := Classical.not_not.1 h
  have hl := hm.1
  rw [bitsR, if_pos hm]
  intro _
  refine ⟨fun h0 => ?_, fun h0 _ => ⟨by omega, by omega, fun _ => ⟨by omega, by omega, fun e he => ?_⟩⟩⟩
  · have : n = [] := List.eq_nil_of_length_eq_zero (by omega)
    subst this
    exact ret1' (by simp only [val, blen, retR, retA, retL, ret1, ret1L, eget, hget, hset, St.set, eset, List.map_cons, List.map_nil, reduceIte, reduceCtorEq, Nat.reduceEqDiff, Nat.reduceLT, true_and, and_true, false_or, or_true, true_or, List.drop_zero, List.take_length, scalE_I, scalE_B, scalE_S]; rfl)
  · rw [show ((n.length : Int) - 1).toNat = n.length - 1 by omega] at he
    refine call1 (bits_Len32 e) (by repeat (first | exact subs_nil | refine subs_int ?_ | refine subs_ro ?_ | refine subs_bool ?_ | refine subs_str ?_ | refine subs_nilro ?_ | refine subs_lits rfl ?_ | refine subs_all rfl rfl (by simp) ?_ | refine subs_own rfl rfl ?_ | refine subs_fn ?_)) ?_
    have hE := ln.get he
    have hb : blen e.toNat ≤ 32 := blen_le.2 (by omega)
    have hv := bits_val ln hm.2 he
    simp only [W1, W2, W3, popTo, memb, res, wres, env0, byteAt, optI, cutB, cutL, sliceR, strR, ldCells, ldR, iaR, faR, lenR, lenSR, ixR, exR, nchkR, mxR, csR, up, ZV.av, ZV.fit, zfits, fits, fitsL, cellsOf, down, downL, downLL, stR, mkR, bsR, boxR, alR, apR, cpR, srcQ, solid, killC, killV, killE, killO, killH, hget, hset, hdel, pubV, pubC, pubO, renV, renC, renO, reduceIte, reduceCtorEq, Nat.reduceEqDiff, Nat.reduceLT, Nat.reduceAdd, Int.reduceToNat, Nat.reduceLeDiff, Int.reducePow, Int.reduceLE, Int.reduceLT]
    refine ⟨by omega, ret1' (by rw [hv]; simp only [retR, retA, retL, ret1, ret1L, eget, hget, hset, St.set, eset, List.map_cons, List.map_nil, reduceIte, reduceCtorEq, Nat.reduceEqDiff, Nat.reduceLT, true_and, and_true, false_or, or_true, true_or, List.drop_zero, List.take_length, scalE_I, scalE_B, scalE_S])⟩

end Go.Vc
