/-
  The document's division.
-/
import Derived.Test.YtdlddbclcmecjaaNat24
set_option linter.unusedVariables false
set_option linter.unusedSimpArgs false
namespace Go.Vc
open Go
open Go.Proofs

/- sloperef1.DivMod: arguments 2, results in [4, 5, 6]; slots in use where its loops begin: [[0, 1, 7, 8, 9, 10, 12], [0, 1, 8, 9, 13]] -/
def c64 : MC := .seq (.ops [ .op (some 4) none (.p (.mv .nil)), .op (some 5) none (.p (.mv .nil)), .op (some 6) none (.p (.mv (.i .i64 (0)))), .gh (.drop [4, 5, 6])]) (.seq (.seq (.ops [ .op (some 14) none (.p (.mv (.t 0))), .op (some 15) none (.call 85 [(.t 14)]), .op (some 16) none (.p (.un .not (.t 15))), .op (some 17) none (.p (.mv (.t 16))), .op (some 18) (some (17, false)) (.p (.mv (.t 1))), .op (some 19) (some (17, false)) (.call 85 [(.t 18)]), .op (some 20) (some (17, false)) (.p (.un .not (.t 19))), .op (some 21) none (.pick (.t 17) (.b true) (.t 20)), .gh (.drop [14, 15, 16, 17, 18, 19, 20])]) (.cond (.t 21) (.seq (.ops [ .op (some 4) none (.p (.mv .nil)), .op (some 5) none (.p (.mv .nil)), .op (some 6) none (.p (.mv (.i .i64 (20))))]) (.ret)) (.skip))) (.seq (.seq (.ops [ .op (some 22) none (.p (.mv (.t 1))), .op (some 23) none (.p (.len (.t 22))), .op (some 24) none (.p (.bin .eql (.t 23) (.i .i64 (0)))), .gh (.drop [22, 23])]) (.cond (.t 24) (.seq (.ops [ .op (some 4) none (.p (.mv .nil)), .op (some 5) none (.p (.mv .nil)), .op (some 6) none (.p (.mv (.i .i64 (3))))]) (.ret)) (.skip))) (.seq (.ops [ .op (some 25) none (.p (.mv (.t 0))), .op (some 26) none (.call 116 [(.t 25)]), .op (some 27) none (.p (.mv (.t 1))), .op (some 28) none (.call 116 [(.t 27)]), .op (some 29) none (.p (.bin .sub (.t 26) (.t 28))), .op (some 7) none (.p (.mv (.t 29))), .gh (.drop [25, 26, 27, 28, 29])]) (.seq (.seq (.ops [ .op (some 30) none (.p (.mv (.t 7))), .op (some 31) none (.p (.bin .lss (.t 30) (.i .i64 (0)))), .gh (.drop [30])]) (.cond (.t 31) (.seq (.ops [ .op (some 32) none (.p (.mv (.t 0))), .op (some 33) none (.call 83 [(.t 32)]), .op (some 4) none (.p (.mv .nil)), .op (some 5) none (.p (.mv (.t 33))), .op (some 6) none (.p (.mv (.i .i64 (0)))), .gh (.drop [0, 32, 33])]) (.ret)) (.skip))) (.seq (.ops [ .op (some 34) none (.p (.mv (.t 0))), .op (some 35) none (.p (.len (.t 34))), .op (some 36) none (.w (.mk 99 1 4 [.int .u32] (encI .u32) (0 : Int) (.t 35) (.t 35))), .op (some 8) none (.p (.mv (.t 36))), .gh (.drop [34, 35, 36])]) (.seq (.cut (.ops [ .op (some 37) none (.p (.mv (.t 1))), .op (some 38) none (.p (.len (.t 37))), .op (some 39) none (.p (.bin .add (.t 38) (.i .i64 (1)))), .op (some 40) none (.w (.mk 99 1 4 [.int .u32] (encI .u32) (0 : Int) (.t 39) (.t 39))), .op (some 9) none (.p (.mv (.t 40))), .gh (.drop [37, 38, 39, 40])])) (.seq (.ops [ .op (some 42) none (.p (.mv (.t 0))), .gh (.ren 40 1000), .op (some 43) none (.p (.mv (.t 7))), .op (some 44) none (.p (.bin .add (.t 43) (.i .i64 (1)))), .op (some 45) none (.call 73 [(.t 42), (.t 44)]), .op (some 41) none (.p (.mv (.t 45))), .op (some 46) none (.p (.ex (.t 41) 0)), .op (some 47) none (.p (.ex (.t 41) 1)), .op (some 10) none (.p (.mv (.t 46))), .op (some 11) none (.p (.mv (.t 47))), .gh (.drop [11, 41, 42, 43, 44, 45, 46, 47])]) (.seq (.seq (.ops [ .op (some 12) none (.p (.mv (.i .i64 (0))))]) (.cut (.block 0 (.loop (.seq (.seq (.ops [ .op (some 48) none (.p (.mv (.t 12))), .op (some 49) none (.p (.mv (.t 10))), .op (some 50) none (.p (.len (.t 49))), .op (some 51) none (.p (.bin .lss (.t 48) (.t 50))), .gh (.drop [48, 49, 50])]) (.cond (.t 51) (.skip) (.exit 0))) (.seq (.block 1 (.ops [ .op (some 54) none (.p (.mv (.t 9))), .op (some 55) none (.p (.mv (.t 12))), .op (some 56) none (.p (.mv (.t 10))), .op (some 57) none (.p (.mv (.t 12))), .op (some 58) none (.p (.ia 1 (.t 56) (.t 57))), .op (some 59) none (.p (.ld 1 false (.t 58))), .op (some 60) none (.p (.ia 1 (.t 54) (.t 55))), .op none none (.w (.st 1 (.t 60) (.t 59))), .gh (.drop [54, 55, 56, 57, 58, 59, 60])])) (.ops [ .op (some 52) none (.p (.mv (.t 12))), .op (some 53) none (.p (.bin .add (.t 52) (.i .i64 (1)))), .op (some 12) none (.p (.mv (.t 53))), .gh (.drop [52, 53])]))))))) (.seq (.seq (.ops [ .op (some 61) none (.p (.mv (.t 7))), .op (some 13) none (.p (.mv (.t 61))), .gh (.drop [7, 61])]) (.cut (.block 2 (.loop (.seq (.seq (.ops [ .op (some 62) none (.p (.mv (.t 13))), .op (some 63) none (.p (.bin .geq (.t 62) (.i .i64 (0)))), .gh (.drop [62])]) (.cond (.t 63) (.skip) (.exit 2))) (.seq (.block 3 (.seq (.ops [ .op (some 66) none (.p (.mv (.t 9))), .op (some 67) none (.p (.mv (.t 0))), .op (some 68) none (.p (.mv (.t 13))), .op (some 69) none (.call 118 [(.t 67), (.t 68)]), .op (some 70) none (.call 117 [(.t 66), (.t 69)]), .gh (.drop [66, 67, 68, 69, 70])]) (.seq (.ops [ .op (some 71) none (.p (.mv (.t 9))), .op (some 72) none (.p (.mv (.t 1))), .op (some 73) none (.call 119 [(.t 71), (.t 72)]), .gh (.drop [71, 72])]) (.cond (.t 73) (.ops [ .op (some 74) none (.p (.mv (.t 8))), .op (some 75) none (.p (.mv (.t 13))), .op (some 76) none (.p (.bin .quo (.t 75) (.i .i64 (32)))), .op (some 77) none (.p (.mv (.t 8))), .op (some 78) none (.p (.mv (.t 13))), .op (some 79) none (.p (.bin .quo (.t 78) (.i .i64 (32)))), .op (some 80) none (.p (.ia 1 (.t 77) (.t 79))), .op (some 81) none (.p (.ld 1 false (.t 80))), .op (some 82) none (.p (.mv (.t 13))), .op (some 83) none (.p (.bin .rem (.t 82) (.i .i64 (32)))), .op (some 84) none (.p (.cv .u64 (.t 83))), .op (some 85) none (.p (.bin .shl (.i .u32 (1)) (.t 84))), .op (some 86) none (.p (.bin .or (.t 81) (.t 85))), .op (some 87) none (.p (.ia 1 (.t 74) (.t 76))), .op none none (.w (.st 1 (.t 87) (.t 86))), .gh (.drop [74, 75, 76, 77, 78, 79, 80, 81, 82, 83, 84, 85, 86, 87])]) (.skip))))) (.ops [ .op (some 64) none (.p (.mv (.t 13))), .op (some 65) none (.p (.bin .sub (.t 64) (.i .i64 (1)))), .op (some 13) none (.p (.mv (.t 65))), .gh (.drop [64, 65])]))))))) (.seq (.ops [ .op (some 88) none (.p (.mv (.t 8))), .op (some 89) none (.call 83 [(.t 88)]), .op (some 90) none (.p (.mv (.t 9))), .op (some 91) none (.call 83 [(.t 90)]), .op (some 4) none (.p (.mv (.t 89))), .op (some 5) none (.p (.mv (.t 91))), .op (some 6) none (.p (.mv (.i .i64 (0)))), .gh (.drop [8, 9, 88, 89, 90, 91])]) (.ret)))))))))))
theorem k64 : chkF Try.prog 64 2 [4, 5, 6] c64 = true := by kernel_rfl



theorem limbs_nil_iff' {v : Int} (h : 0 ≤ v) : (limbs v).length = 0 ↔ v = 0 := by
  constructor
  · intro h1
    have e := limbs_val h
    rw [List.eq_nil_of_length_eq_zero h1] at e
    exact e.symm
  · rintro rfl; rw [limbs_zero]; rfl

theorem fill_step' {L : List Int} {i n : Nat} {e : Int} (hl : i ≤ L.length) (hi : i < n) (he : L[i]? = some e) : (L.take i ++ List.replicate (n - i) 0).set i e = L.take (i + 1) ++ List.replicate (n - (i + 1)) 0 := by
  have h1 : (L.take i).length = i := by rw [List.length_take]; omega
  rw [List.set_append_right _ _ (by omega), h1, Nat.sub_self, show n - i = n - (i + 1) + 1 by omega, List.replicate_succ, List.set_cons_zero, take_step he, List.append_assoc]; rfl

theorem blen_len {n : List Int} (ln : lim n) : blen (val n).toNat ≤ 32 * n.length := blen_le.2 (by
  have h1 := (val_bound ln).2
  have h3 : (4294967296 : Int) ^ n.length = ((2 ^ (32 * n.length) : Nat) : Int) := by
    rw [show (4294967296 : Int) = 2 ^ 32 from rfl, ← Int.pow_mul]; push_cast; rfl
  have h0 := (val_bound ln).1
  rw [h3] at h1
  omega)

theorem or_bit {e : Int} {s : Nat} (he : 0 ≤ e) (hb : e / 2 ^ s % 2 = 0) : ((e.toNat ||| 2 ^ s : Nat) : Int) = e + 2 ^ s := by
  obtain ⟨n, rfl⟩ := Int.eq_ofNat_of_zero_le he
  rw [Int.toNat_natCast]
  have hb2 : n / 2 ^ s % 2 = 0 := by
    have : ((n / 2 ^ s % 2 : Nat) : Int) = (n : Int) / 2 ^ s % 2 := by push_cast; rfl
    omega
  have e1 := Nat.div_add_mod n (2 ^ s)
  have e2 : n / 2 ^ s = 2 * (n / 2 ^ s / 2) := by omega
  have e3 : n % 2 ^ s < 2 ^ s := Nat.mod_lt _ (Nat.pow_pos (by omega))
  generalize n / 2 ^ s / 2 = h at *
  generalize n % 2 ^ s = lo at *
  rw [e2] at e1
  have e4 : n = 2 ^ (s + 1) * h + lo := by rw [← e1, Nat.pow_succ, Nat.mul_assoc]
  have e5 := Nat.two_pow_add_eq_or_of_lt (b := lo) (i := s + 1) (by rw [Nat.pow_succ]; omega) h
  have e6 := Nat.two_pow_add_eq_or_of_lt (b := lo) (i := s) e3 1
  have e7 := Nat.two_pow_add_eq_or_of_lt (b := 2 ^ s * 1 + lo) (i := s + 1) (by rw [Nat.pow_succ]; omega) h
  have e8 : n ||| 2 ^ s = n + 2 ^ s := by
    rw [e4, e5, Nat.or_assoc, Nat.or_comm lo, show 2 ^ s ||| lo = 2 ^ s * 1 + lo by rw [e6, Nat.mul_one], ← e7, ← e5]; omega
  rw [e8]; push_cast; rfl

theorem callTwice {Q : St → Prop} {k : List It} {env : Env} {e n : Nat} {app : Bool} (os rs : List Int) (b : Int) (hn : rs.length = n) (hb : 0 ≤ b ∧ b ≤ 1) (hl : rs.length ≤ 1000000) (lx : lim rs) (hv : val rs * 2 + b < 4294967296 ^ rs.length)
    (hk : ∀ ys, ys.length = rs.length → lim ys → val ys = val rs * 2 + b → run Try.prog Q k ⟨eset env e (.tup []), [(36, .arr 99 true true 1 (encI .u32) os), (1000, .arr 99 false true 1 (encI .u32) ys)]⟩) :
    callK Try.prog Q k (some e) ⟨env, [(36, .arr 99 true true 1 (encI .u32) os), (1000, .arr 99 false true 1 (encI .u32) rs)]⟩ 117 [.own 1000 0 n app, .int .i64 b] := by
  subst hn
  refine callKL (sloperef1_twice rs b hb hl lx hv) ⟨⟨rfl, rfl, rfl, (fun h => by cases h), by simp [rowU, hget]⟩, ⟨rfl, rfl⟩, trivial⟩ (by simp [lends, lend, rowU, hget]) ?_
  rintro r hp' ⟨rfl, ys, rfl, h1, h2, h3⟩
  refine ⟨fun i hi => .inl ?_, ?_⟩
  · simp only [rowU, hget] at hi ⊢
    by_cases e : 1000 = i
    · simp [e]
    · simp [e] at hi
  · simp only [rowU, after, killM, killMH, hupd, hset, hget, OB.fixed, killE, killH, killO, killV, killC, put_some, put_none, eset_cons, eset_nil, reduceIte, Nat.reduceEqDiff, Nat.reduceLT, Bool.not_true, Bool.not_false, Bool.false_eq_true, List.map_cons, List.map_nil, reduceCtorEq]
    exact hk ys h1 h2 h3

theorem callTakes {Q : St → Prop} {k : List It} {env : Env} {e n : Nat} {app : Bool} {fr : Bool} (os rs ds : List Int) (hn : rs.length = n) (hl : rs.length = ds.length + 1) (hs : rs.length ≤ 1000000) (lx : lim rs)
    (hk : ∀ ys, ys.length = rs.length → lim ys → val ys = (if val ds ≤ val rs then val rs - val ds else val rs) → run Try.prog Q k ⟨eset env e (.bool (decide (val ds ≤ val rs))), [(36, .arr 99 true true 1 (encI .u32) os), (1000, .arr 99 false true 1 (encI .u32) ys)]⟩) :
    callK Try.prog Q k (some e) ⟨env, [(36, .arr 99 true true 1 (encI .u32) os), (1000, .arr 99 false true 1 (encI .u32) rs)]⟩ 119 [.own 1000 0 n app, uL fr ds] := by
  subst hn
  refine callKL (sloperef1_takes fr rs ds hl hs lx) ⟨⟨rfl, rfl, rfl, (fun h => by cases h), by simp [rowU, hget]⟩, ⟨(fun h => h), rfl⟩, trivial⟩ (by simp [lends, lend, rowU, hget]) ?_
  rintro r hp' ⟨rfl, ys, rfl, h1, h2, h3⟩
  refine ⟨fun i hi => .inl ?_, ?_⟩
  · simp only [rowU, hget] at hi ⊢
    by_cases e : 1000 = i
    · simp [e]
    · simp [e] at hi
  · simp only [rowU, after, killM, killMH, hupd, hset, hget, OB.fixed, killE, killH, killO, killV, killC, put_some, put_none, eset_cons, eset_nil, reduceIte, Nat.reduceEqDiff, Nat.reduceLT, Bool.not_true, Bool.not_false, Bool.false_eq_true, List.map_cons, List.map_nil, reduceCtorEq]
    exact hk ys h1 h2 h3

theorem sloperef1_DivMod (fr fr' : Bool) (a d : List Int) : FSpec0 Try.prog 64 [uL fr a, uL fr' d] (fun r => r = dmT a d) := by
  refine FSpec0.of_facts fun hf => fspec0_of_run k64 ?_
  have la : lim a := lim_of_factL hf.1
  have ld : lim d := lim_of_factL hf.2.1
  simp only [uL, c64, W1, W2, W3, popTo, memb, res, wres, env0, byteAt, optI, cutB, cutL, sliceR, strR, ldCells, ldR, iaR, faR, lenR, lenSR, ixR, exR, nchkR, mxR, csR, up, ZV.av, ZV.fit, zfits, fits, fitsL, cellsOf, down, downL, downLL, stR, mkR, bsR, boxR, alR, apR, cpR, srcQ, solid, killC, killV, killE, killO, killH, hget, hset, hdel, pubV, pubC, pubO, renV, renC, renO, reduceIte, reduceCtorEq, Nat.reduceEqDiff, Nat.reduceLT, Nat.reduceAdd, Int.reduceToNat, Nat.reduceLeDiff, Int.reducePow, Int.reduceLE, Int.reduceLT]
  refine call1 (sloperef1_May fr a) (by repeat (first | exact subs_nil | refine subs_int ?_ | refine subs_ro ?_ | refine subs_bool ?_ | refine subs_str ?_ | refine subs_nilro ?_ | refine subs_lits rfl ?_ | refine subs_all rfl rfl (by simp) ?_ | refine subs_own rfl rfl ?_ | refine subs_fn ?_)) ?_
  simp only [uL, W1, W2, W3, popTo, memb, res, wres, env0, byteAt, optI, cutB, cutL, sliceR, strR, ldCells, ldR, iaR, faR, lenR, lenSR, ixR, exR, nchkR, mxR, csR, up, ZV.av, ZV.fit, zfits, fits, fitsL, cellsOf, down, downL, downLL, stR, mkR, bsR, boxR, alR, apR, cpR, srcQ, solid, killC, killV, killE, killO, killH, hget, hset, hdel, pubV, pubC, pubO, renV, renC, renO, reduceIte, reduceCtorEq, Nat.reduceEqDiff, Nat.reduceLT, Nat.reduceAdd, Int.reduceToNat, Nat.reduceLeDiff, Int.reducePow, Int.reduceLE, Int.reduceLT]
  have no : ∀ (env : Env), ¬ (may a ∧ may d) → eget env 4 = .nilS → eget env 5 = .nilS → eget env 6 = .int .i64 20 → Ret0 [4, 5, 6] (fun r => r = dmT a d) ⟨env, []⟩ := fun env h h4 h5 h6 =>
    ret1' (by rw [dmT, dmQ, dmR, dmE, if_neg (fun hh => h ⟨hh.1, hh.2.1⟩), if_neg (fun hh => h ⟨hh.1, hh.2.1⟩), if_pos h]; simp only [List.map_cons, List.map_nil, h4, h5, h6, uL, retR, retA, retL, ret1, ret1L, eget, hget, hset, St.set, eset, List.map_cons, List.map_nil, reduceIte, reduceCtorEq, Nat.reduceEqDiff, Nat.reduceLT, true_and, and_true, false_or, or_true, true_or, List.drop_zero, List.take_length, scalE_I, scalE_B, scalE_S]; exact ⟨rfl, rfl⟩)
  refine ⟨fun h => no _ (fun hh => h hh.1) rfl rfl rfl, fun h => ?_⟩
  have ma := Classical.not_not.1 h
  refine call1 (sloperef1_May fr' d) (by repeat (first | exact subs_nil | refine subs_int ?_ | refine subs_ro ?_ | refine subs_bool ?_ | refine subs_str ?_ | refine subs_nilro ?_ | refine subs_lits rfl ?_ | refine subs_all rfl rfl (by simp) ?_ | refine subs_own rfl rfl ?_ | refine subs_fn ?_)) ?_
  simp only [uL, W1, W2, W3, popTo, memb, res, wres, env0, byteAt, optI, cutB, cutL, sliceR, strR, ldCells, ldR, iaR, faR, lenR, lenSR, ixR, exR, nchkR, mxR, csR, up, ZV.av, ZV.fit, zfits, fits, fitsL, cellsOf, down, downL, downLL, stR, mkR, bsR, boxR, alR, apR, cpR, srcQ, solid, killC, killV, killE, killO, killH, hget, hset, hdel, pubV, pubC, pubO, renV, renC, renO, reduceIte, reduceCtorEq, Nat.reduceEqDiff, Nat.reduceLT, Nat.reduceAdd, Int.reduceToNat, Nat.reduceLeDiff, Int.reducePow, Int.reduceLE, Int.reduceLT]
  refine ⟨fun h => no _ (fun hh => h hh.2) rfl rfl rfl, fun h _ => ?_⟩
  have md := Classical.not_not.1 h
  refine ⟨fun h1 => ret1' (by rw [dmT, dmQ, dmR, dmE, if_neg (by omega), if_neg (by omega), if_neg (fun hh => hh ⟨ma, md⟩), if_pos (by omega)]; simp only [uL, retR, retA, retL, ret1, ret1L, eget, hget, hset, St.set, eset, List.map_cons, List.map_nil, reduceIte, reduceCtorEq, Nat.reduceEqDiff, Nat.reduceLT, true_and, and_true, false_or, or_true, true_or, List.drop_zero, List.take_length, scalE_I, scalE_B, scalE_S]; exact ⟨rfl, rfl⟩), fun h1 => ?_⟩
  rw [dmT, dmQ, dmR, dmE, if_pos ⟨ma, md, by omega⟩, if_pos ⟨ma, md, by omega⟩, if_neg (fun hh => hh ⟨ma, md⟩), if_neg (by omega)]
  clear no
  refine call1 (sloperef1_Bits fr a) (by repeat (first | exact subs_nil | refine subs_int ?_ | refine subs_ro ?_ | refine subs_bool ?_ | refine subs_str ?_ | refine subs_nilro ?_ | refine subs_lits rfl ?_ | refine subs_all rfl rfl (by simp) ?_ | refine subs_own rfl rfl ?_ | refine subs_fn ?_)) ?_
  simp only [uL, W1, W2, W3, popTo, memb, res, wres, env0, byteAt, optI, cutB, cutL, sliceR, strR, ldCells, ldR, iaR, faR, lenR, lenSR, ixR, exR, nchkR, mxR, csR, up, ZV.av, ZV.fit, zfits, fits, fitsL, cellsOf, down, downL, downLL, stR, mkR, bsR, boxR, alR, apR, cpR, srcQ, solid, killC, killV, killE, killO, killH, hget, hset, hdel, pubV, pubC, pubO, renV, renC, renO, reduceIte, reduceCtorEq, Nat.reduceEqDiff, Nat.reduceLT, Nat.reduceAdd, Int.reduceToNat, Nat.reduceLeDiff, Int.reducePow, Int.reduceLE, Int.reduceLT]
  refine call1 (sloperef1_Bits fr' d) (by repeat (first | exact subs_nil | refine subs_int ?_ | refine subs_ro ?_ | refine subs_bool ?_ | refine subs_str ?_ | refine subs_nilro ?_ | refine subs_lits rfl ?_ | refine subs_all rfl rfl (by simp) ?_ | refine subs_own rfl rfl ?_ | refine subs_fn ?_)) ?_
  simp only [uL, W1, W2, W3, popTo, memb, res, wres, env0, byteAt, optI, cutB, cutL, sliceR, strR, ldCells, ldR, iaR, faR, lenR, lenSR, ixR, exR, nchkR, mxR, csR, up, ZV.av, ZV.fit, zfits, fits, fitsL, cellsOf, down, downL, downLL, stR, mkR, bsR, boxR, alR, apR, cpR, srcQ, solid, killC, killV, killE, killO, killH, hget, hset, hdel, pubV, pubC, pubO, renV, renC, renO, reduceIte, reduceCtorEq, Nat.reduceEqDiff, Nat.reduceLT, Nat.reduceAdd, Int.reduceToNat, Nat.reduceLeDiff, Int.reducePow, Int.reduceLE, Int.reduceLT]
  rw [bitsR, bitsR, if_pos ma, if_pos md]
  have hal := ma.1
  have hdl := md.1
  have A0 := (val_bound la).1
  have D0 : 0 < val d := by
    have h0 := (val_bound ld).1
    have h2 := may_limbs ld md
    have h3 := limbs_nil_iff' h0
    rw [h2] at h3
    omega
  have ka1 : (val a).toNat < 2 ^ blen (val a).toNat := blen_le.1 (Nat.le_refl _)
  have ka4 : blen (val a).toNat ≤ 32 * a.length := blen_len la
  have ka2 : blen (val a).toNat ≤ 65536 := by omega
  have kd0 : blen (val d).toNat ≤ 65536 := by have := blen_len ld; omega
  have kd1 : 1 ≤ blen (val d).toNat := Nat.lt_of_not_le fun h => by
    have := blen_le.1 h
    omega
  have kd2 : ¬ (val d).toNat < 2 ^ (blen (val d).toNat - 1) := fun h => by
    have := blen_le.2 h
    omega
  generalize blen (val a).toNat = ka at *
  generalize blen (val d).toNat = kd at *
  have kd3 : (2 : Int) ^ (kd - 1) ≤ val d := by
    have : ((2 ^ (kd - 1) : Nat) : Int) = 2 ^ (kd - 1) := by push_cast; rfl
    omega
  have ka3 : val a < 2 ^ ka := by
    have : ((2 ^ ka : Nat) : Int) = 2 ^ ka := by push_cast; rfl
    omega
  refine ⟨by omega, fun hlt => ?_, fun hge => ?_⟩
  · have hAD : val a < val d := by
      have : (2 : Int) ^ ka ≤ 2 ^ (kd - 1) := by
        obtain ⟨j, hj⟩ := Nat.le.dest (show ka ≤ kd - 1 by omega)
        rw [← hj, Int.pow_add]
        have h1 : (0 : Int) < 2 ^ ka := Int.pow_pos (by omega)
        have h2 : (0 : Int) < 2 ^ j := Int.pow_pos (by omega)
        have : (2 : Int) ^ ka * 1 ≤ 2 ^ ka * 2 ^ j := Int.mul_le_mul_of_nonneg_left (by omega) (by omega)
        omega
      omega
    refine call1 (sloperef1_Trim fr a (by omega)) (by repeat (first | exact subs_nil | refine subs_int ?_ | refine subs_ro ?_ | refine subs_bool ?_ | refine subs_str ?_ | refine subs_nilro ?_ | refine subs_lits rfl ?_ | refine subs_all rfl rfl (by simp) ?_ | refine subs_own rfl rfl ?_ | refine subs_fn ?_)) ?_
    rw [trimL_limbs la, Int.ediv_eq_zero_of_lt A0 hAD, Int.emod_eq_of_lt A0 hAD, limbs_zero]
    simp only [uL, W1, W2, W3, popTo, memb, res, wres, env0, byteAt, optI, cutB, cutL, sliceR, strR, ldCells, ldR, iaR, faR, lenR, lenSR, ixR, exR, nchkR, mxR, csR, up, ZV.av, ZV.fit, zfits, fits, fitsL, cellsOf, down, downL, downLL, stR, mkR, bsR, boxR, alR, apR, cpR, srcQ, solid, killC, killV, killE, killO, killH, hget, hset, hdel, pubV, pubC, pubO, renV, renC, renO, reduceIte, reduceCtorEq, Nat.reduceEqDiff, Nat.reduceLT, Nat.reduceAdd, Int.reduceToNat, Nat.reduceLeDiff, Int.reducePow, Int.reduceLE, Int.reduceLT]
    exact ret1' (by simp only [retR, retA, retL, ret1, ret1L, eget, hget, hset, St.set, eset, List.map_cons, List.map_nil, reduceIte, reduceCtorEq, Nat.reduceEqDiff, Nat.reduceLT, true_and, and_true, false_or, or_true, true_or, List.drop_zero, List.take_length, scalE_I, scalE_B, scalE_S]; rfl)
  rw [show ((ka : Int) - kd) = ((ka - kd : Nat) : Int) by omega]
  obtain ⟨t, ht⟩ : ∃ t, ka - kd = t := ⟨_, rfl⟩
  rw [ht]
  have hX0 : val a / 2 ^ (t + 1) < val d := by
    refine Int.lt_of_lt_of_le (Int.ediv_lt_of_lt_mul (Int.pow_pos (by omega)) ?_) kd3
    rw [Int.mul_comm, ← Int.pow_add, show t + 1 + (kd - 1) = ka by omega] <;> exact ka3
  refine fun _ => ⟨by omega, ?_⟩
  refine cut_intro (fun st => st = ⟨[(0, uL fr a), (1, uL fr' d), (7, .int .i64 t), (8, .own 36 0 a.length true), (9, .own 40 0 (d.length + 1) true)], [(36, .arr 99 true true 1 (encI .u32) (List.replicate a.length 0)), (40, .arr 99 false true 1 (encI .u32) (List.replicate (d.length + 1) 0))]⟩) ?_ ?_
  · simp only [W1, W2, W3, popTo, memb, res, wres, env0, byteAt, optI, cutB, cutL, sliceR, strR, ldCells, ldR, iaR, faR, lenR, lenSR, ixR, exR, nchkR, mxR, csR, up, ZV.av, ZV.fit, zfits, fits, fitsL, cellsOf, down, downL, downLL, stR, mkR, bsR, boxR, alR, apR, cpR, srcQ, solid, killC, killV, killE, killO, killH, hget, hset, hdel, pubV, pubC, pubO, renV, renC, renO, reduceIte, reduceCtorEq, Nat.reduceEqDiff, Nat.reduceLT, Nat.reduceAdd, Int.reduceToNat, Nat.reduceLeDiff, Int.reducePow, Int.reduceLE, Int.reduceLT]
    refine fun _ => ⟨by omega, by omega, ?_⟩
    rw [show ((d.length : Int) + 1).toNat = d.length + 1 by omega]
    exact ⟨_, Ent.trans (Ent.of_env (env' := [(0, uL fr a), (1, uL fr' d), (7, .int .i64 t), (8, .own 36 0 a.length true), (9, .own 40 0 (d.length + 1) true)]) (by simp [eget, uL]))
      (Ent.fixr (id := 40) rfl (by intro e; have := congrArg List.length e; rw [List.length_replicate, List.length_nil] at this; omega) (by omega)), rfl⟩
  rintro st rfl
  simp only [uL, W1, W2, W3, popTo, memb, res, wres, env0, byteAt, optI, cutB, cutL, sliceR, strR, ldCells, ldR, iaR, faR, lenR, lenSR, ixR, exR, nchkR, mxR, csR, up, ZV.av, ZV.fit, zfits, fits, fitsL, cellsOf, down, downL, downLL, stR, mkR, bsR, boxR, alR, apR, cpR, srcQ, solid, killC, killV, killE, killO, killH, hget, hset, hdel, pubV, pubC, pubO, renV, renC, renO, reduceIte, reduceCtorEq, Nat.reduceEqDiff, Nat.reduceLT, Nat.reduceAdd, Int.reduceToNat, Nat.reduceLeDiff, Int.reducePow, Int.reduceLE, Int.reduceLT]
  refine ⟨by omega, ?_⟩
  refine call1 (sloperef1_Shr fr a ((t : Int) + 1)) (by repeat (first | exact subs_nil | refine subs_int ?_ | refine subs_ro ?_ | refine subs_bool ?_ | refine subs_str ?_ | refine subs_nilro ?_ | refine subs_lits rfl ?_ | refine subs_all rfl rfl (by simp) ?_ | refine subs_own rfl rfl ?_ | refine subs_fn ?_)) ?_
  rw [shrL, if_pos ⟨ma, by omega, by omega⟩, show ((t : Int) + 1).toNat = t + 1 by omega]
  have hXn : 0 ≤ val a / 2 ^ (t + 1) := Int.ediv_nonneg A0 (Int.pow_nonneg (by omega))
  have hXv := limbs_val hXn
  have hXl := (limbs_len_le hXn d.length).2 (by have := (val_bound ld).2; omega)
  have lX := limbs_lim (val a / 2 ^ (t + 1))
  generalize limbs (val a / 2 ^ (t + 1)) = xs at *
  simp only [uL, W1, W2, W3, popTo, memb, res, wres, env0, byteAt, optI, cutB, cutL, sliceR, strR, ldCells, ldR, iaR, faR, lenR, lenSR, ixR, exR, nchkR, mxR, csR, up, ZV.av, ZV.fit, zfits, fits, fitsL, cellsOf, down, downL, downLL, stR, mkR, bsR, boxR, alR, apR, cpR, srcQ, solid, killC, killV, killE, killO, killH, hget, hset, hdel, pubV, pubC, pubO, renV, renC, renO, reduceIte, reduceCtorEq, Nat.reduceEqDiff, Nat.reduceLT, Nat.reduceAdd, Int.reduceToNat, Nat.reduceLeDiff, Int.reducePow, Int.reduceLE, Int.reduceLT]
  refine cut_intro (fun st => ∃ rs : List Int, rs.length = d.length + 1 ∧ lim rs ∧ val rs = val a / 2 ^ (t + 1) ∧ st = ⟨[(0, uL fr a), (1, uL fr' d), (7, .int .i64 t), (8, .own 36 0 a.length true), (9, .own 1000 0 (d.length + 1) true)], [(36, .arr 99 true true 1 (encI .u32) (List.replicate a.length 0)), (1000, .arr 99 false true 1 (encI .u32) rs)]⟩) ?_ ?_
  · simp only [W1, W2, W3, popTo, memb, res, wres, env0, byteAt, optI, cutB, cutL, sliceR, strR, ldCells, ldR, iaR, faR, lenR, lenSR, ixR, exR, nchkR, mxR, csR, up, ZV.av, ZV.fit, zfits, fits, fitsL, cellsOf, down, downL, downLL, stR, mkR, bsR, boxR, alR, apR, cpR, srcQ, solid, killC, killV, killE, killO, killH, hget, hset, hdel, pubV, pubC, pubO, renV, renC, renO, reduceIte, reduceCtorEq, Nat.reduceEqDiff, Nat.reduceLT, Nat.reduceAdd, Int.reduceToNat, Nat.reduceLeDiff, Int.reducePow, Int.reduceLE, Int.reduceLT]
    refine loop_intro (fun m st => ∃ i : Nat, i ≤ xs.length ∧ m = xs.length - i ∧ st = ⟨[(0, uL fr a), (1, uL fr' d), (7, .int .i64 t), (8, .own 36 0 a.length true), (9, .own 1000 0 (d.length + 1) true), (10, uL true xs), (12, .int .i64 i)], [(36, .arr 99 true true 1 (encI .u32) (List.replicate a.length 0)), (1000, .arr 99 false true 1 (encI .u32) (xs.take i ++ List.replicate (d.length + 1 - i) 0))]⟩) xs.length
      [(0, uL fr a), (1, uL fr' d), (7, .int .i64 t), (8, .own 36 0 a.length true), (9, .own 1000 0 (d.length + 1) true), (10, uL true xs), (12, .int .i64 (0 : Nat))] (by simp [eget, uL]) ⟨0, by omega, by omega, by simp⟩ ?_
    rintro m st ⟨i, hi, rfl, rfl⟩
    simp only [uL, W1, W2, W3, popTo, memb, res, wres, env0, byteAt, optI, cutB, cutL, sliceR, strR, ldCells, ldR, iaR, faR, lenR, lenSR, ixR, exR, nchkR, mxR, csR, up, ZV.av, ZV.fit, zfits, fits, fitsL, cellsOf, down, downL, downLL, stR, mkR, bsR, boxR, alR, apR, cpR, srcQ, solid, killC, killV, killE, killO, killH, hget, hset, hdel, pubV, pubC, pubO, renV, renC, renO, reduceIte, reduceCtorEq, Nat.reduceEqDiff, Nat.reduceLT, Nat.reduceAdd, Int.reduceToNat, Nat.reduceLeDiff, Int.reducePow, Int.reduceLE, Int.reduceLT]
    have hl2 : (xs.take i ++ List.replicate (d.length + 1 - i) (0 : Int)).length = d.length + 1 := by simp; omega
    rw [hl2]
    refine fun _ => ⟨fun h0 => ⟨by omega, fun e he _ => ⟨by omega, by omega, _, rfl, by omega, ?_⟩⟩, fun h0 => ?_⟩
    · rw [fill_step' hi (by omega) he]
      exact back_intro [(0, uL fr a), (1, uL fr' d), (7, .int .i64 t), (8, .own 36 0 a.length true), (9, .own 1000 0 (d.length + 1) true), (10, uL true xs), (12, .int .i64 ((i + 1 : Nat) : Int))] (by simp [eget, uL]) (by omega) ⟨i + 1, by omega, rfl, rfl⟩
    · obtain rfl : i = xs.length := by omega
      rw [List.take_length] at hl2 ⊢
      exact join_intro [(0, uL fr a), (1, uL fr' d), (7, .int .i64 t), (8, .own 36 0 a.length true), (9, .own 1000 0 (d.length + 1) true)] (by simp [eget, uL]) ⟨_, hl2, lX.append (lim.rep _), by rw [val_append, val_rep, hXv]; simp, rfl⟩
  rintro st ⟨rs, hrl, lr, hrv, rfl⟩
  simp only [uL, W1, W2, W3, popTo, memb, res, wres, env0, byteAt, optI, cutB, cutL, sliceR, strR, ldCells, ldR, iaR, faR, lenR, lenSR, ixR, exR, nchkR, mxR, csR, up, ZV.av, ZV.fit, zfits, fits, fitsL, cellsOf, down, downL, downLL, stR, mkR, bsR, boxR, alR, apR, cpR, srcQ, solid, killC, killV, killE, killO, killH, hget, hset, hdel, pubV, pubC, pubO, renV, renC, renO, reduceIte, reduceCtorEq, Nat.reduceEqDiff, Nat.reduceLT, Nat.reduceAdd, Int.reduceToNat, Nat.reduceLeDiff, Int.reducePow, Int.reduceLE, Int.reduceLT]
  refine cut_intro (fun st => ∃ (rs os : List Int), rs.length = d.length + 1 ∧ lim rs ∧ os.length = a.length ∧ lim os ∧ val rs = val a % val d ∧ val os = val a / val d ∧
    st = ⟨[(8, .own 36 0 a.length true), (9, .own 1000 0 (d.length + 1) true)], [(36, .arr 99 true true 1 (encI .u32) os), (1000, .arr 99 false true 1 (encI .u32) rs)]⟩) ?_ ?_
  · simp only [W1, W2, W3, popTo, memb, res, wres, env0, byteAt, optI, cutB, cutL, sliceR, strR, ldCells, ldR, iaR, faR, lenR, lenSR, ixR, exR, nchkR, mxR, csR, up, ZV.av, ZV.fit, zfits, fits, fitsL, cellsOf, down, downL, downLL, stR, mkR, bsR, boxR, alR, apR, cpR, srcQ, solid, killC, killV, killE, killO, killH, hget, hset, hdel, pubV, pubC, pubO, renV, renC, renO, reduceIte, reduceCtorEq, Nat.reduceEqDiff, Nat.reduceLT, Nat.reduceAdd, Int.reduceToNat, Nat.reduceLeDiff, Int.reducePow, Int.reduceLE, Int.reduceLT]
    refine loop_intro (fun m st => ∃ (c : Nat) (rs os : List Int) (Q : Int), c ≤ t + 1 ∧ m = c ∧ rs.length = d.length + 1 ∧ lim rs ∧ os.length = a.length ∧ lim os ∧ val rs < val d ∧ 0 ≤ Q ∧ val a / 2 ^ c = val d * Q + val rs ∧ val os = Q * 2 ^ c ∧
      st = ⟨[(0, uL fr a), (1, uL fr' d), (8, .own 36 0 a.length true), (9, .own 1000 0 (d.length + 1) true), (13, .int .i64 ((c : Int) - 1))], [(36, .arr 99 true true 1 (encI .u32) os), (1000, .arr 99 false true 1 (encI .u32) rs)]⟩) (t + 1)
      [(0, uL fr a), (1, uL fr' d), (8, .own 36 0 a.length true), (9, .own 1000 0 (d.length + 1) true), (13, .int .i64 t)] (by simp [eget, uL]) ⟨t + 1, rs, List.replicate a.length 0, 0, by omega, rfl, hrl, lr, by simp, lim.rep _, by omega, by omega, by rw [hrv]; simp, by rw [val_rep]; simp, by simp⟩ ?_
    rintro m st ⟨c, rs, os, Q, hc, rfl, hrl, lr, hol, lo, hrD, hQ, hdiv, hov, rfl⟩
    simp only [uL, W1, W2, W3, popTo, memb, res, wres, env0, byteAt, optI, cutB, cutL, sliceR, strR, ldCells, ldR, iaR, faR, lenR, lenSR, ixR, exR, nchkR, mxR, csR, up, ZV.av, ZV.fit, zfits, fits, fitsL, cellsOf, down, downL, downLL, stR, mkR, bsR, boxR, alR, apR, cpR, srcQ, solid, killC, killV, killE, killO, killH, hget, hset, hdel, pubV, pubC, pubO, renV, renC, renO, reduceIte, reduceCtorEq, Nat.reduceEqDiff, Nat.reduceLT, Nat.reduceAdd, Int.reduceToNat, Nat.reduceLeDiff, Int.reducePow, Int.reduceLE, Int.reduceLT]
    refine ⟨fun h0 => ?_, fun h0 => ?_⟩
    rotate_left
    · obtain rfl : m = 0 := by omega
      rw [Int.pow_zero, Int.ediv_one] at hdiv
      rw [Int.pow_zero, Int.mul_one] at hov
      obtain ⟨q1, q2⟩ := div_unique D0 hdiv ⟨(val_bound lr).1, hrD⟩
      exact join_intro [(8, .own 36 0 a.length true), (9, .own 1000 0 (d.length + 1) true)] (by simp [eget, uL]) ⟨rs, os, hrl, lr, hol, lo, by rw [q2], by rw [hov, q1], rfl⟩
    obtain ⟨c, rfl⟩ : ∃ c, m = c + 1 := ⟨m - 1, by omega⟩
    rw [show ((c + 1 : Nat) : Int) - 1 = (c : Nat) by omega]
    refine call1 (sloperef1_Bit fr a c (by omega)) (by repeat (first | exact subs_nil | refine subs_int ?_ | refine subs_ro ?_ | refine subs_bool ?_ | refine subs_str ?_ | refine subs_nilro ?_ | refine subs_lits rfl ?_ | refine subs_all rfl rfl (by simp) ?_ | refine subs_own rfl rfl ?_ | refine subs_fn ?_)) ?_
    rw [bitR, if_pos ma]
    simp only [uL, W1, W2, W3, popTo, memb, res, wres, env0, byteAt, optI, cutB, cutL, sliceR, strR, ldCells, ldR, iaR, faR, lenR, lenSR, ixR, exR, nchkR, mxR, csR, up, ZV.av, ZV.fit, zfits, fits, fitsL, cellsOf, down, downL, downLL, stR, mkR, bsR, boxR, alR, apR, cpR, srcQ, solid, killC, killV, killE, killO, killH, hget, hset, hdel, pubV, pubC, pubO, renV, renC, renO, reduceIte, reduceCtorEq, Nat.reduceEqDiff, Nat.reduceLT, Nat.reduceAdd, Int.reduceToNat, Nat.reduceLeDiff, Int.reducePow, Int.reduceLE, Int.reduceLT]
    have hp : (0 : Int) < 2 ^ c := Int.pow_pos (by omega)
    have hA2 : val a / 2 ^ (c + 1) = val a / 2 ^ c / 2 := by rw [Int.ediv_ediv_of_nonneg (Int.le_of_lt hp), Int.pow_succ]
    rw [hA2] at hdiv
    have hrs0 := (val_bound lr).1
    have hdb := (val_bound ld).2
    have hB1 := pow_s d.length
    generalize hv : val a / 2 ^ c = v at *
    refine callTwice os rs (v % 2) hrl (by omega) (by omega) lr (by rw [hrl]; omega) ?_
    intro ys hyl ly hyv
    simp only [uL, W1, W2, W3, popTo, memb, res, wres, env0, byteAt, optI, cutB, cutL, sliceR, strR, ldCells, ldR, iaR, faR, lenR, lenSR, ixR, exR, nchkR, mxR, csR, up, ZV.av, ZV.fit, zfits, fits, fitsL, cellsOf, down, downL, downLL, stR, mkR, bsR, boxR, alR, apR, cpR, srcQ, solid, killC, killV, killE, killO, killH, hget, hset, hdel, pubV, pubC, pubO, renV, renC, renO, reduceIte, reduceCtorEq, Nat.reduceEqDiff, Nat.reduceLT, Nat.reduceAdd, Int.reduceToNat, Nat.reduceLeDiff, Int.reducePow, Int.reduceLE, Int.reduceLT]
    refine callTakes os ys d (by omega) (by omega) (by omega) ly ?_
    intro zs hzl lz hzv
    simp only [uL, W1, W2, W3, popTo, memb, res, wres, env0, byteAt, optI, cutB, cutL, sliceR, strR, ldCells, ldR, iaR, faR, lenR, lenSR, ixR, exR, nchkR, mxR, csR, up, ZV.av, ZV.fit, zfits, fits, fitsL, cellsOf, down, downL, downLL, stR, mkR, bsR, boxR, alR, apR, cpR, srcQ, solid, killC, killV, killE, killO, killH, hget, hset, hdel, pubV, pubC, pubO, renV, renC, renO, reduceIte, reduceCtorEq, Nat.reduceEqDiff, Nat.reduceLT, Nat.reduceAdd, Int.reduceToNat, Nat.reduceLeDiff, Int.reducePow, Int.reduceLE, Int.reduceLT]
    refine ⟨fun h1 => ?_, fun h1 => ?_⟩
    · rw [if_pos h1] at hzv
      have hcl : c / 32 < a.length := by omega
      rw [show ((c : Int) / 32).toNat = c / 32 by omega, show ((c : Int) % 32 % 18446744073709551616).toNat = c % 32 by omega]
      obtain ⟨hpq, hp2, hq2⟩ := pq_split (s := c % 32) (by omega)
      have hq3 : (2 : Int) ^ (32 - c % 32) = 2 ^ (31 - c % 32) * 2 := by rw [← Int.pow_succ]; congr 1; omega
      have hq4 : (1 : Int) ≤ 2 ^ (31 - c % 32) := Int.pow_pos (by omega)
      have hpl : (2 : Int) ^ (c % 32) < 4294967296 := by
        have : (2 : Int) ^ (c % 32) * 2 ≤ 2 ^ (c % 32) * 2 ^ (32 - c % 32) := Int.mul_le_mul_of_nonneg_left (by omega) (by omega)
        omega
      have hpc : ((2 ^ (c % 32) : Nat) : Int) = 2 ^ (c % 32) := by push_cast; rfl
      rw [show 1 * (2 : Int) ^ (c % 32) % 4294967296 = 2 ^ (c % 32) by omega, show ((2 : Int) ^ (c % 32)).toNat = 2 ^ (c % 32) by omega]
      have ho2 : val os / 2 ^ c = 2 * Q := by rw [hov, Int.pow_succ, Int.mul_comm Q, Int.mul_assoc, Int.mul_ediv_cancel_left _ (by omega)]
      have hbv := bit_val lo c
      refine fun _ => ⟨by omega, fun _ => ⟨by omega, fun _ => ⟨by omega, by omega, fun e he _ => ⟨by omega, by omega, fun _ => ⟨⟨(lo.get he).1, by omega⟩, fun _ => ⟨by omega, by omega, _, rfl, by omega, ?_⟩⟩⟩⟩⟩⟩
      have hE := lo.get he
      rw [getD_of he, ho2] at hbv
      have hor := or_bit hE.1 (show e / 2 ^ (c % 32) % 2 = 0 by omega)
      have hlt : e.toNat ||| 2 ^ (c % 32) < 2 ^ 32 := Nat.or_lt_two_pow (by omega) (by omega)
      rw [hor]
      exact back_intro [(0, uL fr a), (1, uL fr' d), (8, .own 36 0 a.length true), (9, .own 1000 0 (d.length + 1) true), (13, .int .i64 ((c : Int) - 1))] (by simp [eget, uL]) (by omega)
        ⟨c, zs, os.set (c / 32) (e + 2 ^ (c % 32)), 2 * Q + 1, by omega, rfl, by omega, lz, by simp [hol], lo.set _ (by omega), by omega, by omega, by rw [hv, Int.mul_add, Int.mul_left_comm]; omega, by
          have e1 : (2 : Int) ^ c = 4294967296 ^ (c / 32) * 2 ^ (c % 32) := by
            rw [show (4294967296 : Int) = 2 ^ 32 from rfl, ← Int.pow_mul, ← Int.pow_add, Nat.div_add_mod]
          rw [val_set he, hov, show e + 2 ^ (c % 32) - e = 2 ^ (c % 32) by omega, ← e1, Int.pow_succ, Int.add_mul, Int.one_mul, Int.mul_comm 2 Q, Int.mul_assoc, Int.mul_comm 2], rfl⟩
    · rw [if_neg h1] at hzv
      refine ⟨by omega, ?_⟩
      exact back_intro [(0, uL fr a), (1, uL fr' d), (8, .own 36 0 a.length true), (9, .own 1000 0 (d.length + 1) true), (13, .int .i64 ((c : Int) - 1))] (by simp [eget, uL]) (by omega)
        ⟨c, zs, os, 2 * Q, by omega, rfl, by omega, lz, hol, lo, by omega, by omega, by rw [hv, Int.mul_left_comm]; omega, by rw [hov, Int.pow_succ, Int.mul_comm 2 Q, Int.mul_assoc, Int.mul_comm 2], rfl⟩
  rintro st ⟨rs, os, hrl, lr, hol, lo, hrv, hov, rfl⟩
  simp only [uL, W1, W2, W3, popTo, memb, res, wres, env0, byteAt, optI, cutB, cutL, sliceR, strR, ldCells, ldR, iaR, faR, lenR, lenSR, ixR, exR, nchkR, mxR, csR, up, ZV.av, ZV.fit, zfits, fits, fitsL, cellsOf, down, downL, downLL, stR, mkR, bsR, boxR, alR, apR, cpR, srcQ, solid, killC, killV, killE, killO, killH, hget, hset, hdel, pubV, pubC, pubO, renV, renC, renO, reduceIte, reduceCtorEq, Nat.reduceEqDiff, Nat.reduceLT, Nat.reduceAdd, Int.reduceToNat, Nat.reduceLeDiff, Int.reducePow, Int.reduceLE, Int.reduceLT]
  refine call1 (sloperef1_Trim false os (by omega)) (by repeat (first | exact subs_nil | refine subs_all rfl rfl (by omega) ?_)) ?_
  simp only [uL, W1, W2, W3, popTo, memb, res, wres, env0, byteAt, optI, cutB, cutL, sliceR, strR, ldCells, ldR, iaR, faR, lenR, lenSR, ixR, exR, nchkR, mxR, csR, up, ZV.av, ZV.fit, zfits, fits, fitsL, cellsOf, down, downL, downLL, stR, mkR, bsR, boxR, alR, apR, cpR, srcQ, solid, killC, killV, killE, killO, killH, hget, hset, hdel, pubV, pubC, pubO, renV, renC, renO, reduceIte, reduceCtorEq, Nat.reduceEqDiff, Nat.reduceLT, Nat.reduceAdd, Int.reduceToNat, Nat.reduceLeDiff, Int.reducePow, Int.reduceLE, Int.reduceLT]
  refine call1 (sloperef1_Trim false rs (by omega)) (by repeat (first | exact subs_nil | refine subs_all rfl rfl (by omega) ?_)) ?_
  rw [trimL_limbs lo, trimL_limbs lr, hov, hrv]
  simp only [uL, W1, W2, W3, popTo, memb, res, wres, env0, byteAt, optI, cutB, cutL, sliceR, strR, ldCells, ldR, iaR, faR, lenR, lenSR, ixR, exR, nchkR, mxR, csR, up, ZV.av, ZV.fit, zfits, fits, fitsL, cellsOf, down, downL, downLL, stR, mkR, bsR, boxR, alR, apR, cpR, srcQ, solid, killC, killV, killE, killO, killH, hget, hset, hdel, pubV, pubC, pubO, renV, renC, renO, reduceIte, reduceCtorEq, Nat.reduceEqDiff, Nat.reduceLT, Nat.reduceAdd, Int.reduceToNat, Nat.reduceLeDiff, Int.reducePow, Int.reduceLE, Int.reduceLT]
  exact ret1' (by simp only [retR, retA, retL, ret1, ret1L, eget, hget, hset, St.set, eset, List.map_cons, List.map_nil, reduceIte, reduceCtorEq, Nat.reduceEqDiff, Nat.reduceLT, true_and, and_true, false_or, or_true, true_or, List.drop_zero, List.take_length, scalE_I, scalE_B, scalE_S])

end Go.Vc
