/-
  Texts: plain laws of digits; lower.
-/
import Derived.Test.YtdlddbclcmecjaaNat20
import Derived.Test.YtdlddbclcmecjaaNat21
import Derived.Test.YtdlddbclcmecjaaNat18
set_option linter.unusedVariables false
set_option linter.unusedSimpArgs false
namespace Go.Vc
open Go
open Go.Proofs

/- slopelaw1.lower: arguments 1, results in [2]; slots in use where its loops begin: [[0, 3], [0, 3, 4, 5]] -/
def c78 : MC := .seq (.ops [ .op (some 2) none (.p (.mv (.s ⟨#[]⟩))), .gh (.drop [2])]) (.seq (.ops [ .op (some 3) none (.p (.mv (.i .i64 (0))))]) (.seq (.cut (.block 0 (.loop (.seq (.seq (.ops [ .op (some 7) none (.p (.mv (.t 3))), .op (some 8) none (.p (.bin .add (.t 7) (.i .i64 (1)))), .op (some 9) none (.p (.mv (.t 0))), .op (some 10) none (.p (.lens (.t 9))), .op (some 11) none (.p (.bin .lss (.t 8) (.t 10))), .op (some 12) none (.p (.mv (.t 11))), .op (some 13) (some (12, true)) (.p (.mv (.t 0))), .op (some 14) (some (12, true)) (.p (.mv (.t 3))), .op (some 15) (some (12, true)) (.p (.ix (.t 13) (.t 14))), .op (some 16) (some (12, true)) (.p (.bin .eql (.t 15) (.i .u8 (48)))), .op (some 17) none (.pick (.t 12) (.t 16) (.b false)), .gh (.drop [7, 8, 9, 10, 11, 12, 13, 14, 15, 16])]) (.cond (.t 17) (.skip) (.exit 0))) (.block 1 (.ops [ .op (some 18) none (.p (.mv (.t 3))), .op (some 19) none (.p (.bin .add (.t 18) (.i .i64 (1)))), .op (some 3) none (.p (.mv (.t 19))), .gh (.drop [18, 19])])))))) (.seq (.ops [ .op (some 20) none (.p (.mv (.t 0))), .op (some 21) none (.p (.lens (.t 20))), .op (some 22) none (.p (.mv (.t 3))), .op (some 23) none (.p (.bin .sub (.t 21) (.t 22))), .op (some 24) none (.w (.mk 5 1 1 [.int .u8] (encI .u8) (0 : Int) (.t 23) (.t 23))), .op (some 4) none (.p (.mv (.t 24))), .gh (.drop [20, 21, 22, 23, 24])]) (.seq (.seq (.ops [ .op (some 5) none (.p (.mv (.i .i64 (0))))]) (.cut (.block 2 (.loop (.seq (.seq (.ops [ .op (some 25) none (.p (.mv (.t 5))), .op (some 26) none (.p (.mv (.t 4))), .op (some 27) none (.p (.len (.t 26))), .op (some 28) none (.p (.bin .lss (.t 25) (.t 27))), .gh (.drop [25, 26, 27])]) (.cond (.t 28) (.skip) (.exit 2))) (.seq (.block 3 (.seq (.ops [ .op (some 31) none (.p (.mv (.t 0))), .op (some 32) none (.p (.mv (.t 3))), .op (some 33) none (.p (.mv (.t 5))), .op (some 34) none (.p (.bin .add (.t 32) (.t 33))), .op (some 35) none (.p (.ix (.t 31) (.t 34))), .op (some 6) none (.p (.mv (.t 35))), .gh (.drop [31, 32, 33, 34, 35])]) (.seq (.seq (.ops [ .op (some 36) none (.p (.mv (.t 6))), .op (some 37) none (.p (.bin .geq (.t 36) (.i .u8 (65)))), .op (some 38) none (.p (.mv (.t 37))), .op (some 39) (some (38, true)) (.p (.mv (.t 6))), .op (some 40) (some (38, true)) (.p (.bin .leq (.t 39) (.i .u8 (90)))), .op (some 41) none (.pick (.t 38) (.t 40) (.b false)), .gh (.drop [36, 37, 38, 39, 40])]) (.cond (.t 41) (.ops [ .op (some 42) none (.p (.mv (.t 6))), .op (some 43) none (.p (.bin .add (.t 42) (.i .u8 (32)))), .op (some 6) none (.p (.mv (.t 43))), .gh (.drop [42, 43])]) (.skip))) (.ops [ .op (some 44) none (.p (.mv (.t 4))), .op (some 45) none (.p (.mv (.t 5))), .op (some 46) none (.p (.mv (.t 6))), .op (some 47) none (.p (.ia 1 (.t 44) (.t 45))), .op none none (.w (.st 1 (.t 47) (.t 46))), .gh (.drop [6, 44, 45, 46, 47])])))) (.ops [ .op (some 29) none (.p (.mv (.t 5))), .op (some 30) none (.p (.bin .add (.t 29) (.i .i64 (1)))), .op (some 5) none (.p (.mv (.t 30))), .gh (.drop [29, 30])]))))))) (.seq (.ops [ .op (some 48) none (.p (.mv (.t 4))), .op (some 49) none (.p (.cs (.t 48))), .op (some 2) none (.p (.mv (.t 49))), .gh (.drop [4, 48, 49])]) (.ret))))))
theorem k78 : chkF Try.prog 78 1 [2] c78 = true := by kernel_rfl



/-! ### bytes of a text -/
def sB (s : ByteArray) : List Int := s.data.toList.map fun c => (c.toNat : Int)
theorem sB_len (s : ByteArray) : (sB s).length = s.size := by rw [sB, List.length_map]; rfl
theorem dsL_sB (s : ByteArray) : dsL s = (sB s).map dval := by rw [dsL, sB, List.map_map]; rfl
theorem sB_range (s : ByteArray) {c : Int} (h : c ∈ sB s) : 0 ≤ c ∧ c < 256 := by
  obtain ⟨x, hx, rfl⟩ := List.mem_map.1 h
  have := x.toNat_lt
  omega
theorem sB_get {s : ByteArray} {i : Nat} (h : i < s.size) : (sB s)[i]? = some ((s.data.toList.getD i 0).toNat : Int) := by
  have h2 : i < s.data.toList.length := h
  rw [sB, List.getElem?_map, List.getD_eq_getElem?_getD, List.getElem?_eq_getElem h2]; rfl
theorem sB_nums {xs : List Int} (h : ∀ x, x ∈ xs → 0 ≤ x ∧ x < 256) : sB (strOfNums xs) = xs := by
  unfold sB strOfNums
  simp only [List.map_map]
  rw [List.map_congr_left (g := id) (fun x hx => ?_), List.map_id]
  have := h x hx
  simp only [Function.comp, id]
  rw [UInt8.toNat_ofNat']
  omega

def low (c : Int) : Int := if 65 ≤ c ∧ c ≤ 90 then c + 32 else c
def zdrop : List Int → List Int
  | [] => []
  | [c] => [c]
  | c :: d :: t => if c = 48 then zdrop (d :: t) else c :: d :: t
theorem zdrop_stay {L : List Int} (h : ¬ (1 < L.length ∧ L[0]? = some 48)) : zdrop L = L := by
  match L, h with
  | [], _ => rfl
  | [c], _ => rfl
  | c :: d :: t, h => simp [zdrop] at h ⊢; omega
theorem zdrop_step {L : List Int} {i : Nat} (h1 : i + 1 < L.length) (h2 : L[i]? = some 48) : zdrop (L.drop (i + 1)) = zdrop (L.drop i) := by
  have e1 := List.drop_eq_getElem_cons (show i < L.length by omega)
  have e2 := List.drop_eq_getElem_cons h1
  have e3 : L[i] = 48 := by
    rw [List.getElem?_eq_getElem (by omega)] at h2; exact Option.some.inj h2
  rw [e1, e3, e2, zdrop, if_pos rfl]
def lowS (s : ByteArray) : ByteArray := strOfNums ((zdrop (sB s)).map low)

/-! ### digits -/
theorem chr_dval {c : Int} (h : dval c < 36) : chr (dval c) = low c := by
  unfold dval at h ⊢
  unfold chr low
  repeat' split
  all_goals (try omega)
  all_goals simp_all
  all_goals omega
theorem dval_zero {c : Int} : dval c = 0 ↔ c = 48 := by
  unfold dval
  repeat' split
  all_goals omega
theorem dval_chr {d : Int} (h0 : 0 ≤ d) (h : d < 36) : dval (chr d) = d := by
  unfold chr dval
  repeat' split
  all_goals omega

theorem digs_bval {b : Int} (hb : 2 ≤ b) : ∀ {ds : List Int}, (∀ d, d ∈ ds → 0 ≤ d ∧ d < b) → ds[0]? ≠ some 0 → digsI b (bval b ds) = ds.reverse := fun {ds} => by
  have key : ∀ (n : Nat) (ds : List Int), ds.length = n → (∀ d, d ∈ ds → 0 ≤ d ∧ d < b) → ds[0]? ≠ some 0 → (ds ≠ [] → 0 < bval b ds) ∧ digsI b (bval b ds) = ds.reverse := by
    intro n
    induction n with
    | zero =>
      intro ds hl _ _
      obtain rfl := List.eq_nil_of_length_eq_zero hl
      exact ⟨fun h => absurd rfl h, by show digsI b 0 = _; rw [digs_zero]; rfl⟩
    | succ n ih =>
      intro ds hl hr ht
      obtain ⟨xs, d, rfl⟩ : ∃ xs d, ds = xs ++ [d] := ⟨ds.dropLast, ds.getLast (by intro e; rw [e] at hl; simp at hl), (List.dropLast_concat_getLast _).symm⟩
      have hxl : xs.length = n := by simpa using hl
      have hd := hr d (by simp)
      have hx : ∀ e, e ∈ xs → 0 ≤ e ∧ e < b := fun e he => hr e (by simp [he])
      have htx : xs[0]? ≠ some 0 := by
        cases xs with
        | nil => simp
        | cons y ys => simpa using ht
      obtain ⟨p1, p2⟩ := ih xs hxl hx htx
      have hv0 := (bval_bound (b := b) (by omega) xs hx).1
      have hpos : 0 < bval b (xs ++ [d]) := by
        rw [bval_snoc]
        cases xs with
        | nil =>
          have : d ≠ 0 := by simpa using ht
          simp [bval]; omega
        | cons y ys =>
          have h1 := p1 (by simp)
          have : 0 < bval b (y :: ys) * b := Int.mul_pos h1 (by omega)
          omega
      refine ⟨fun _ => hpos, ?_⟩
      have e1 : bval b (xs ++ [d]) % b = d := by
        rw [bval_snoc, Int.add_comm, Int.add_mul_emod_self_right, Int.emod_eq_of_lt hd.1 hd.2]
      have e2 : bval b (xs ++ [d]) / b = bval b xs := by
        rw [bval_snoc, Int.add_comm, Int.add_mul_ediv_right _ _ (by omega), Int.ediv_eq_zero_of_lt hd.1 hd.2, Int.zero_add]
      rw [digs_step hb hpos, e1, e2, p2]; simp
  intro h1 h2
  exact (key _ ds rfl h1 h2).2

theorem bval_digs {b : Int} (hb : 2 ≤ b) : ∀ {v : Int}, 0 ≤ v → bval b (digsI b v).reverse = v := fun {v} => by
  have key : ∀ (n : Nat) (v : Int), 0 ≤ v → v.toNat ≤ n → bval b (digsI b v).reverse = v := by
    intro n
    induction n with
    | zero =>
      intro v h0 hn
      obtain rfl : v = 0 := by omega
      rw [digs_zero]; rfl
    | succ n ih =>
      intro v h0 hn
      by_cases h : v = 0
      · subst h; rw [digs_zero]; rfl
      · have hq0 : 0 ≤ v / b := Int.ediv_nonneg h0 (by omega)
        have hq1 : v / b < v := Int.ediv_lt_self_of_pos_of_ne_one (by omega) (by omega)
        rw [digs_step hb (by omega), List.reverse_cons, bval_snoc, ih (v / b) hq0 (by omega)]
        have := Int.mul_ediv_add_emod v b
        rw [Int.mul_comm]; exact this
  exact fun h => key _ v h (Nat.le_refl _)

theorem low_digits {b : Int} (hb : 2 ≤ b) (hb2 : b ≤ 36) : ∀ (L : List Int), L ≠ [] → (∀ c, c ∈ L → 0 ≤ dval c ∧ dval c < b) →
    (zdrop L).map low = if bval b (L.map dval) = 0 then [48] else (digC b (bval b (L.map dval))).reverse := fun L => by
  have whole : ∀ L : List Int, (∀ c, c ∈ L → 0 ≤ dval c ∧ dval c < b) → L[0]? ≠ some 48 → (digC b (bval b (L.map dval))).reverse = L.map low := by
    intro L hL h0
    rw [digC, digs_bval hb (ds := L.map dval) (fun d hd => by
      obtain ⟨c, hc, rfl⟩ := List.mem_map.1 hd
      exact hL c hc) (by
      cases L with
      | nil => simp
      | cons c t =>
        simp at h0 ⊢
        exact fun e => h0 (dval_zero.1 e)), List.map_reverse, List.reverse_reverse, List.map_map]
    exact List.map_congr_left fun c hc => chr_dval (by have := hL c hc; omega)
  have pos : ∀ (L : List Int), (∀ c, c ∈ L → 0 ≤ dval c ∧ dval c < b) → L ≠ [] → L[0]? ≠ some 48 → bval b (L.map dval) ≠ 0 := by
    intro L hL hne h0 e
    have := whole L hL h0
    rw [e, digC_zero] at this
    cases L with
    | nil => exact hne rfl
    | cons c t => simp at this
  induction L with
  | nil => exact fun h => absurd rfl h
  | cons c t ih =>
    intro _ hL
    by_cases hc : c = 48
    · subst hc
      cases t with
      | nil =>
        have : bval b ([48].map dval) = 0 := by simp [bval, dval]
        rw [if_pos this]; rfl
      | cons d t =>
        have e : bval b ((48 :: d :: t).map dval) = bval b ((d :: t).map dval) := by simp [bval, dval]
        rw [e, zdrop, if_pos rfl]
        exact ih (by simp) fun c hc => hL c (List.mem_cons_of_mem _ hc)
    · have h0 : (c :: t)[0]? ≠ some 48 := by simpa using hc
      rw [if_neg (pos _ hL (by simp) h0), whole _ hL h0, zdrop_stay (fun h => h0 h.2)]

theorem digs2_len : ∀ (k n : Nat), (digs 2 n).length ≤ k ↔ n < 2 ^ k := by
  intro k
  induction k with
  | zero =>
    intro n
    by_cases h : n = 0
    · subst h; rw [digs]; simp
    · rw [digs]; simp [h]
  | succ k ih =>
    intro n
    by_cases h : n = 0
    · subst h; rw [digs]; simp [Nat.pow_pos]
    · rw [digs]
      have := ih (n / 2)
      simp [h]
      rw [this, Nat.pow_succ]
      omega
theorem digC2_len {v : Int} : (digC 2 v).length = blen v.toNat := by
  rw [digC, List.length_map, digsI]
  have h1 := digs2_len
  show (digs 2 v.toNat).length = _
  refine Nat.le_antisymm ((h1 _ _).2 (blen_le.1 (Nat.le_refl _))) (blen_le.2 ((h1 _ _).1 (Nat.le_refl _)))

/-! ### bytes -/
theorem val256_low {n : List Int} (ln : lim n) : ∀ k : Nat, val256 ((List.range k).map (byteL n)) = val n % 256 ^ k := fun k => by
  induction k with
  | zero => simp [val256]
  | succ k ih =>
    rw [List.range_succ, List.map_append, val256_append, ih, List.length_map, List.length_range]
    have h0 := pow256_pos k
    have e : val256 (List.map (byteL n) [k]) = val n / 256 ^ k % 256 := by simp [val256, byteL_val ln]
    rw [e, Int.pow_succ]
    have a1 := Int.mul_ediv_add_emod (val n) (256 ^ k)
    have a2 := Int.mul_ediv_add_emod (val n / 256 ^ k) 256
    have r1 := Int.emod_nonneg (val n) (Int.ne_of_gt h0)
    have r2 := Int.emod_lt_of_pos (val n) h0
    have r3 := Int.emod_nonneg (val n / 256 ^ k) (show (256 : Int) ≠ 0 by omega)
    have r4 := Int.emod_lt_of_pos (val n / 256 ^ k) (show (0 : Int) < 256 by omega)
    have := div_unique (V := val n) (d := 256 ^ k * 256) (q := val n / 256 ^ k / 256) (r := val n % 256 ^ k + 256 ^ k * (val n / 256 ^ k % 256)) (by omega) (by
      rw [Int.mul_assoc, Int.add_comm (val n % 256 ^ k), ← Int.add_assoc, ← Int.mul_add, a2, a1]) (by
      constructor
      · have := Int.mul_nonneg (Int.le_of_lt h0) r3; omega
      · have : 256 ^ k * (val n / 256 ^ k % 256) ≤ 256 ^ k * 255 := Int.mul_le_mul_of_nonneg_left (by omega) (by omega)
        omega)
    exact this.2.symm

theorem bytesL_rev (n : List Int) : (bytesL n).reverse = (List.range (bsize n)).map (byteL n) := by
  refine List.ext_getElem (by simp [bytesL]) fun i h1 h2 => ?_
  have hi : i < bsize n := by simpa using h2
  simp only [bytesL, List.getElem_reverse, List.getElem_map, List.getElem_range, List.length_map, List.length_range]
  congr 1; omega
theorem fb_bytes {n : List Int} (ln : lim n) (mn : may n) : fbL (bytesL n) = n ∧ fbE (bytesL n) = 0 := by
  have hs : strip (bytesL n) = bytesL n := by
    unfold strip
    by_cases hk : bsize n = 0
    · have : bytesL n = [] := by unfold bytesL; rw [hk]; rfl
      rw [this]; rfl
    · have e : bytesL n = byteL n (bsize n - 1) :: (List.range (bsize n - 1)).map fun j => byteL n (bsize n - 1 - (j + 1)) := by
        obtain ⟨k, hk'⟩ : ∃ k, bsize n = k + 1 := ⟨bsize n - 1, by omega⟩
        unfold bytesL
        rw [hk', List.range_succ_eq_map, List.map_cons, List.map_map]
        rfl
      rw [e, List.dropWhile_cons_of_neg]
      have := byteL_top ln (by omega)
      simpa using this
  have hl : (strip (bytesL n)).length ≤ 8192 := by
    rw [hs]
    have h1 := bsize_le ln
    have h2 := mn.1
    simp [bytesL]; omega
  rw [fbL, fbE, if_pos hl, if_pos hl, bytesL_rev, val256_low ln, Int.emod_eq_of_lt (val_bound ln).1 (bsize_lt ln), may_limbs ln mn]
  exact ⟨rfl, rfl⟩


theorem slopelaw1_lower (s : ByteArray) (hs : s.size ≤ 1000000) : FSpec0 Try.prog 78 [.str s] (fun r => r = .str (lowS s)) := by
  refine fspec0_of_run k78 ?_
  simp only [uL, c78, W1, W2, W3, popTo, memb, res, wres, env0, byteAt, optI, cutB, cutL, sliceR, strR, ldCells, ldR, iaR, faR, lenR, lenSR, ixR, exR, nchkR, mxR, csR, up, ZV.av, ZV.fit, zfits, fits, fitsL, cellsOf, down, downL, downLL, stR, mkR, bsR, boxR, alR, apR, cpR, srcQ, solid, killC, killV, killE, killO, killH, hget, hset, hdel, pubV, pubC, pubO, renV, renC, renO, reduceIte, reduceCtorEq, Nat.reduceEqDiff, Nat.reduceLT, Nat.reduceAdd, Int.reduceToNat, Nat.reduceLeDiff, Int.reducePow, Int.reduceLE, Int.reduceLT]
  refine cut_intro (fun st => ∃ i : Nat, i ≤ s.size ∧ zdrop (sB s) = (sB s).drop i ∧ st = ⟨[(0, .str s), (3, .int .i64 i)], []⟩) ?_ ?_
  · simp only [W1, W2, W3, popTo, memb, res, wres, env0, byteAt, optI, cutB, cutL, sliceR, strR, ldCells, ldR, iaR, faR, lenR, lenSR, ixR, exR, nchkR, mxR, csR, up, ZV.av, ZV.fit, zfits, fits, fitsL, cellsOf, down, downL, downLL, stR, mkR, bsR, boxR, alR, apR, cpR, srcQ, solid, killC, killV, killE, killO, killH, hget, hset, hdel, pubV, pubC, pubO, renV, renC, renO, reduceIte, reduceCtorEq, Nat.reduceEqDiff, Nat.reduceLT, Nat.reduceAdd, Int.reduceToNat, Nat.reduceLeDiff, Int.reducePow, Int.reduceLE, Int.reduceLT]
    refine loop_intro (fun m st => ∃ i : Nat, i ≤ s.size ∧ m = s.size - i ∧ zdrop (sB s) = zdrop ((sB s).drop i) ∧ st = ⟨[(0, .str s), (3, .int .i64 i)], []⟩) s.size
      [(0, .str s), (3, .int .i64 (0 : Nat))] (by simp [eget]) ⟨0, by omega, by omega, by simp, rfl⟩ ?_
    rintro m st ⟨i, hi, rfl, hz, rfl⟩
    simp only [W1, W2, W3, popTo, memb, res, wres, env0, byteAt, optI, cutB, cutL, sliceR, strR, ldCells, ldR, iaR, faR, lenR, lenSR, ixR, exR, nchkR, mxR, csR, up, ZV.av, ZV.fit, zfits, fits, fitsL, cellsOf, down, downL, downLL, stR, mkR, bsR, boxR, alR, apR, cpR, srcQ, solid, killC, killV, killE, killO, killH, hget, hset, hdel, pubV, pubC, pubO, renV, renC, renO, reduceIte, reduceCtorEq, Nat.reduceEqDiff, Nat.reduceLT, Nat.reduceAdd, Int.reduceToNat, Nat.reduceLeDiff, Int.reducePow, Int.reduceLE, Int.reduceLT]
    have hget : i < s.size → (sB s)[i]? = some ((s.data.toList.getD i 0).toNat : Int) := sB_get
    have hlen := sB_len s
    refine ⟨by omega, fun _ => ⟨fun h1 => ⟨by omega, fun h2 => ⟨by omega, ?_⟩, fun h2 => ?_⟩, fun h1 => ?_⟩⟩
    · exact back_intro [(0, .str s), (3, .int .i64 ((i + 1 : Nat) : Int))] (by simp [eget]) (by omega) ⟨i + 1, by omega, rfl, by rw [hz, zdrop_step (by omega) (by rw [hget (by omega), h2])], rfl⟩
    · refine join_intro [(0, .str s), (3, .int .i64 i)] (by simp [eget]) ⟨i, by omega, by rw [hz, zdrop_stay]; rw [List.getElem?_drop, Nat.add_zero, hget (by omega)]; intro h; exact h2 (Option.some.inj h.2), rfl⟩
    · refine join_intro [(0, .str s), (3, .int .i64 i)] (by simp [eget]) ⟨i, by omega, by rw [hz, zdrop_stay]; rw [List.length_drop]; intro h; omega, rfl⟩
  rintro st ⟨i, hi, hz, rfl⟩
  simp only [W1, W2, W3, popTo, memb, res, wres, env0, byteAt, optI, cutB, cutL, sliceR, strR, ldCells, ldR, iaR, faR, lenR, lenSR, ixR, exR, nchkR, mxR, csR, up, ZV.av, ZV.fit, zfits, fits, fitsL, cellsOf, down, downL, downLL, stR, mkR, bsR, boxR, alR, apR, cpR, srcQ, solid, killC, killV, killE, killO, killH, hget, hset, hdel, pubV, pubC, pubO, renV, renC, renO, reduceIte, reduceCtorEq, Nat.reduceEqDiff, Nat.reduceLT, Nat.reduceAdd, Int.reduceToNat, Nat.reduceLeDiff, Int.reducePow, Int.reduceLE, Int.reduceLT]
  refine fun _ => ⟨by omega, by omega, ?_⟩
  rw [show ((s.size : Int) - i).toNat = s.size - i by omega]
  have hlen := sB_len s
  have hL : (List.map low ((sB s).drop i)).length = s.size - i := by simp [hlen]
  have hLg : ∀ k, i + k < s.size → (List.map low ((sB s).drop i))[k]? = some (low ((s.data.toList.getD (i + k) 0).toNat : Int)) := fun k hk => by
    rw [List.getElem?_map, List.getElem?_drop, sB_get hk]; rfl
  have hLr : ∀ x, x ∈ List.map low ((sB s).drop i) → 0 ≤ x ∧ x < 256 := fun x hx => by
    obtain ⟨c, hc, rfl⟩ := List.mem_map.1 hx
    have := sB_range s (List.mem_of_mem_drop hc)
    unfold low; split <;> omega
  rw [show lowS s = strOfNums (List.map low ((sB s).drop i)) by rw [lowS, hz]]
  generalize List.map low ((sB s).drop i) = L at *
  refine cut_intro (fun st => st = ⟨[(4, .own 24 0 (s.size - i) true)], [(24, .arr 5 true true 1 (encI .u8) L)]⟩) ?_ ?_
  · simp only [W1, W2, W3, popTo, memb, res, wres, env0, byteAt, optI, cutB, cutL, sliceR, strR, ldCells, ldR, iaR, faR, lenR, lenSR, ixR, exR, nchkR, mxR, csR, up, ZV.av, ZV.fit, zfits, fits, fitsL, cellsOf, down, downL, downLL, stR, mkR, bsR, boxR, alR, apR, cpR, srcQ, solid, killC, killV, killE, killO, killH, hget, hset, hdel, pubV, pubC, pubO, renV, renC, renO, reduceIte, reduceCtorEq, Nat.reduceEqDiff, Nat.reduceLT, Nat.reduceAdd, Int.reduceToNat, Nat.reduceLeDiff, Int.reducePow, Int.reduceLE, Int.reduceLT]
    refine loop_intro (fun m st => ∃ k : Nat, k ≤ s.size - i ∧ m = s.size - i - k ∧ st = ⟨[(0, .str s), (3, .int .i64 i), (4, .own 24 0 (s.size - i) true), (5, .int .i64 k)], [(24, .arr 5 true true 1 (encI .u8) (L.take k ++ List.replicate (s.size - i - k) 0))]⟩) (s.size - i)
      [(0, .str s), (3, .int .i64 i), (4, .own 24 0 (s.size - i) true), (5, .int .i64 (0 : Nat))] (by simp [eget]) ⟨0, by omega, by omega, by simp⟩ ?_
    rintro m st ⟨k, hk, rfl, rfl⟩
    simp only [W1, W2, W3, popTo, memb, res, wres, env0, byteAt, optI, cutB, cutL, sliceR, strR, ldCells, ldR, iaR, faR, lenR, lenSR, ixR, exR, nchkR, mxR, csR, up, ZV.av, ZV.fit, zfits, fits, fitsL, cellsOf, down, downL, downLL, stR, mkR, bsR, boxR, alR, apR, cpR, srcQ, solid, killC, killV, killE, killO, killH, hget, hset, hdel, pubV, pubC, pubO, renV, renC, renO, reduceIte, reduceCtorEq, Nat.reduceEqDiff, Nat.reduceLT, Nat.reduceAdd, Int.reduceToNat, Nat.reduceLeDiff, Int.reducePow, Int.reduceLE, Int.reduceLT]
    have hl2 : (L.take k ++ List.replicate (s.size - i - k) (0 : Int)).length = s.size - i := by simp; omega
    rw [hl2]
    have hg : k < s.size - i → L[k]? = some (low ((s.data.toList.getD ((i : Int) + k).toNat 0).toNat : Int)) := fun h => by
      rw [show ((i : Int) + k).toNat = i + k by omega]; exact hLg k (by omega)
    have hc := (s.data.toList.getD ((i : Int) + k).toNat 0).toNat_lt
    generalize (s.data.toList.getD ((i : Int) + k).toNat 0).toNat = c at *
    have fin : ∀ (env : Env) (e : Int), k < s.size - i → e = low c → eget env 0 = .str s → eget env 3 = .int .i64 i → eget env 4 = .own 24 0 (s.size - i) true → eget env 5 = .int .i64 ((k : Int) + 1) →
        ∃ s', Ent ⟨env, [(24, .arr 5 true true 1 (encI .u8) ((L.take k ++ List.replicate (s.size - i - k) 0).set k e))]⟩ s' ∧ ∃ n', n' < s.size - i - k ∧ ∃ k, k ≤ s.size - i ∧ n' = s.size - i - k ∧ s' = ⟨[(0, .str s), (3, .int .i64 i), (4, .own 24 0 (s.size - i) true), (5, .int .i64 k)], [(24, .arr 5 true true 1 (encI .u8) (L.take k ++ List.replicate (s.size - i - k) 0))]⟩ := fun env e hk2 he e0 e3 e4 e5 => by
      rw [fill_step (by omega) hk2 (by rw [hg hk2, he])]
      exact back_intro [(0, .str s), (3, .int .i64 i), (4, .own 24 0 (s.size - i) true), (5, .int .i64 ((k + 1 : Nat) : Int))] (by simp [eget, e0, e3, e4, e5]) (by omega) ⟨k + 1, by omega, rfl, rfl⟩
    have l1 : 65 ≤ (c : Int) → (c : Int) ≤ 90 → low c = c + 32 := fun a b => by rw [low, if_pos ⟨a, b⟩]
    have l2 : ¬ (65 ≤ (c : Int) ∧ (c : Int) ≤ 90) → low c = c := fun a => by rw [low, if_neg a]
    refine fun _ => ⟨fun h0 => ⟨by omega, by omega, fun h1 => ⟨fun h2 _ => ⟨by omega, by omega, _, rfl, by omega, ?_⟩, fun h2 _ => ⟨by omega, by omega, _, rfl, by omega, ?_⟩⟩, fun h1 _ => ⟨by omega, by omega, _, rfl, by omega, ?_⟩⟩, fun h0 => ?_⟩
    · exact fin _ _ (by omega) (by rw [l1 h1 h2]; omega) rfl rfl rfl rfl
    · exact fin _ _ (by omega) (by rw [l2 (fun h => h2 h.2)]) rfl rfl rfl rfl
    · exact fin _ _ (by omega) (by rw [l2 (fun h => h1 h.1)]) rfl rfl rfl rfl
    · obtain rfl : k = s.size - i := by omega
      rw [Nat.sub_self, List.replicate_zero, List.append_nil, List.take_of_length_le (by omega)]
      exact join_intro _ (by simp [eget]) rfl
  rintro st rfl
  simp only [W1, W2, W3, popTo, memb, res, wres, env0, byteAt, optI, cutB, cutL, sliceR, strR, ldCells, ldR, iaR, faR, lenR, lenSR, ixR, exR, nchkR, mxR, csR, up, ZV.av, ZV.fit, zfits, fits, fitsL, cellsOf, down, downL, downLL, stR, mkR, bsR, boxR, alR, apR, cpR, srcQ, solid, killC, killV, killE, killO, killH, hget, hset, hdel, pubV, pubC, pubO, renV, renC, renO, reduceIte, reduceCtorEq, Nat.reduceEqDiff, Nat.reduceLT, Nat.reduceAdd, Int.reduceToNat, Nat.reduceLeDiff, Int.reducePow, Int.reduceLE, Int.reduceLT]
  rw [List.take_of_length_le (by omega)]
  exact fun _ => ⟨fun x hx => by simp [isB], ret1' (by simp only [retR, retA, retL, ret1, ret1L, eget, hget, hset, St.set, eset, List.map_cons, List.map_nil, reduceIte, reduceCtorEq, Nat.reduceEqDiff, Nat.reduceLT, true_and, and_true, false_or, or_true, true_or, List.drop_zero, List.take_length, scalE_I, scalE_B, scalE_S])⟩

end Go.Vc
