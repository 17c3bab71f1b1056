/-
  Parse: the program's and the document's.
-/
import Derived.Test.YtdlddbclcmecjaaNat19
import Derived.Test.YtdlddbclcmecjaaNat9
set_option linter.unusedVariables false
set_option linter.unusedSimpArgs false
namespace Go.Vc
open Go
open Go.Proofs

/-- nil as an empty list that is only read -/
theorem Ent.nilro {env : Env} {hp : Heap} {α : Type} (m : Nat) (fr : Bool) (sz : Nat) (enc : α → List DV) (hm : eget env m = .nilS) : Ent ⟨env, hp⟩ ⟨eset env m (.ro fr sz enc ([] : List α)), hp⟩ := fun B a w ρ h => by
  refine ⟨ρ, h.defers, h.size, h.ext, h.inj, h.lt, h.wr, h.hp, fun n => ?_, h.fixN, h.fix⟩
  show RepV _ (eget (eset env m _) n) _
  rw [eget_eset]
  by_cases e : m = n
  · subst e
    rw [if_pos rfl]
    have h1 := h.env m
    have h1 : RepV _ (eget env m) _ := h1
    rw [hm] at h1
    have h1 : a.tmps.getD m undef = .slice none 0 0 := h1
    rw [h1]
    exact nil_rep rfl
  · rw [if_neg e]; exact h.env n

/- natural.Parse: arguments 2, results in [4, 5, 6]; slots in use where its loops begin: [[0, 1, 30, 31], [0, 1, 8, 9, 10], [0, 1, 8, 9, 10, 11, 12, 13, 57, 58]] -/
def c36 : MC := .seq (.ops [ .op (some 4) none (.p (.mv .nil)), .op (some 5) none (.p (.mv (.i .i64 (0)))), .op (some 6) none (.p (.mv (.i .i64 (0)))), .gh (.drop [4, 5, 6])]) (.seq (.block 0 (.seq (.ops [ .op (some 16) none (.p (.mv (.t 0))), .op (some 17) none (.p (.lens (.t 16))), .op (some 18) none (.p (.bin .gtr (.t 17) (.i .i64 (65536)))), .op (some 15) none (.p (.mv (.t 18))), .gh (.drop [16, 17, 18])]) (.cond (.t 15) (.seq (.ops [ .op (some 4) none (.p (.mv .nil)), .op (some 5) none (.p (.mv (.i .i64 (65536)))), .op (some 6) none (.p (.mv (.i .i64 (4))))]) (.ret)) (.seq (.ops [ .op (some 20) none (.p (.mv (.t 1))), .op (some 21) none (.p (.bin .lss (.t 20) (.i .i64 (2)))), .op (some 22) none (.p (.mv (.t 21))), .op (some 23) (some (22, false)) (.p (.mv (.t 1))), .op (some 24) (some (22, false)) (.p (.bin .gtr (.t 23) (.i .i64 (36)))), .op (some 25) none (.pick (.t 22) (.b true) (.t 24)), .op (some 19) none (.p (.mv (.t 25))), .gh (.drop [20, 21, 22, 23, 24, 25])]) (.cond (.t 19) (.seq (.ops [ .op (some 4) none (.p (.mv .nil)), .op (some 5) none (.p (.mv (.i .i64 (0)))), .op (some 6) none (.p (.mv (.i .i64 (22))))]) (.ret)) (.seq (.ops [ .op (some 27) none (.p (.mv (.t 0))), .op (some 28) none (.p (.bin .eql (.t 27) (.s ⟨#[]⟩))), .op (some 26) none (.p (.mv (.t 28))), .gh (.drop [27, 28])]) (.cond (.t 26) (.seq (.ops [ .op (some 4) none (.p (.mv .nil)), .op (some 5) none (.p (.mv (.i .i64 (0)))), .op (some 6) none (.p (.mv (.i .i64 (5))))]) (.ret)) (.skip)))))))) (.seq (.seq (.ops [ .op (some 29) none (.p (.mv (.t 0))), .op (some 30) none (.p (.lens (.t 29))), .op (some 31) none (.p (.mv (.i .i64 (0)))), .gh (.drop [29])]) (.cut (.block 1 (.loop (.seq (.ops [ .op (some 32) none (.p (.bin .lss (.t 31) (.t 30)))]) (.seq (.cond (.t 32) (.skip) (.exit 1)) (.seq (.block 2 (.seq (.ops [ .op (some 33) none (.p (.mv (.t 31))), .op (some 7) none (.p (.mv (.t 33))), .gh (.drop [33])]) (.seq (.ops [ .op (some 34) none (.p (.mv (.t 0))), .op (some 35) none (.p (.mv (.t 7))), .op (some 36) none (.p (.ix (.t 34) (.t 35))), .op (some 37) none (.call 96 [(.t 36)]), .op (some 38) none (.p (.mv (.t 1))), .op (some 39) none (.p (.bin .geq (.t 37) (.t 38))), .gh (.drop [34, 35, 36, 37, 38])]) (.cond (.t 39) (.seq (.ops [ .op (some 40) none (.p (.mv (.t 7))), .op (some 4) none (.p (.mv .nil)), .op (some 5) none (.p (.mv (.t 40))), .op (some 6) none (.p (.mv (.i .i64 (5)))), .gh (.drop [7, 40])]) (.ret)) (.skip))))) (.ops [ .op (some 41) none (.p (.bin .add (.t 31) (.i .i64 (1)))), .op (some 31) none (.p (.mv (.t 41))), .gh (.drop [41])])))))))) (.seq (.ops [ .op (some 8) none (.p (.mv .nil))]) (.seq (.ops [ .op (some 43) none (.p (.mv (.t 1))), .op (some 44) none (.call 93 [(.t 43)]), .op (some 42) none (.p (.mv (.t 44))), .op (some 45) none (.p (.ex (.t 42) 0)), .op (some 46) none (.p (.ex (.t 42) 1)), .op (some 9) none (.p (.mv (.t 45))), .op (some 10) none (.p (.mv (.t 46))), .gh (.drop [42, 43, 44, 45, 46])]) (.seq (.cut (.block 3 (.loop (.seq (.seq (.ops [ .op (some 47) none (.p (.mv (.t 0))), .op (some 48) none (.p (.lens (.t 47))), .op (some 49) none (.p (.bin .gtr (.t 48) (.i .i64 (0)))), .gh (.drop [47, 48])]) (.cond (.t 49) (.skip) (.exit 3))) (.block 4 (.seq (.ops [ .op (some 50) none (.p (.mv (.t 0))), .op (some 51) none (.p (.lens (.t 50))), .op (some 52) none (.p (.mv (.t 10))), .op (some 53) none (.p (.bin .rem (.t 51) (.t 52))), .op (some 11) none (.p (.mv (.t 53))), .gh (.drop [50, 51, 52, 53])]) (.seq (.cut (.seq (.ops [ .op (some 54) none (.p (.mv (.t 11))), .op (some 55) none (.p (.bin .eql (.t 54) (.i .i64 (0)))), .gh (.drop [54])]) (.cond (.t 55) (.ops [ .op (some 56) none (.p (.mv (.t 10))), .op (some 11) none (.p (.mv (.t 56))), .gh (.drop [56])]) (.skip)))) (.seq (.ops [ .op (some 12) none (.p (.mv (.i .u32 (1)))), .op (some 13) none (.p (.mv (.i .u32 (0))))]) (.seq (.seq (.ops [ .op (some 57) none (.p (.mv (.t 11))), .op (some 58) none (.p (.mv (.i .i64 (0))))]) (.cut (.block 5 (.loop (.seq (.ops [ .op (some 59) none (.p (.bin .lss (.t 58) (.t 57)))]) (.seq (.cond (.t 59) (.skip) (.exit 5)) (.seq (.block 6 (.seq (.ops [ .op (some 60) none (.p (.mv (.t 58))), .op (some 14) none (.p (.mv (.t 60))), .gh (.drop [60])]) (.seq (.ops [ .op (some 61) none (.p (.mv (.t 12))), .op (some 62) none (.p (.mv (.t 1))), .op (some 63) none (.p (.cv .u32 (.t 62))), .op (some 64) none (.p (.bin .mul (.t 61) (.t 63))), .op (some 12) none (.p (.mv (.t 64))), .gh (.drop [61, 62, 63, 64])]) (.ops [ .op (some 65) none (.p (.mv (.t 13))), .op (some 66) none (.p (.mv (.t 1))), .op (some 67) none (.p (.cv .u32 (.t 66))), .op (some 68) none (.p (.bin .mul (.t 65) (.t 67))), .op (some 69) none (.p (.mv (.t 0))), .op (some 70) none (.p (.mv (.t 14))), .op (some 71) none (.p (.ix (.t 69) (.t 70))), .op (some 72) none (.call 96 [(.t 71)]), .op (some 73) none (.p (.cv .u32 (.t 72))), .op (some 74) none (.p (.bin .add (.t 68) (.t 73))), .op (some 13) none (.p (.mv (.t 74))), .gh (.drop [14, 65, 66, 67, 68, 69, 70, 71, 72, 73, 74])])))) (.ops [ .op (some 75) none (.p (.bin .add (.t 58) (.i .i64 (1)))), .op (some 58) none (.p (.mv (.t 75))), .gh (.drop [75])])))))))) (.seq (.cut (.seq (.ops [ .op (some 76) none (.p (.mv (.t 11))), .op (some 77) none (.p (.mv (.t 10))), .op (some 78) none (.p (.bin .eql (.t 76) (.t 77))), .gh (.drop [76, 77])]) (.cond (.t 78) (.ops [ .op (some 79) none (.p (.mv (.t 9))), .op (some 12) none (.p (.mv (.t 79))), .gh (.drop [79])]) (.skip)))) (.seq (.ops [ .op (some 80) none (.p (.mv (.t 8))), .op (some 81) none (.p (.mv (.t 12))), .op (some 82) none (.w (.bs 99 1 [(.t 81)])), .op (some 83) none (.call 98 [(.t 80), (.t 82)]), .op (some 84) none (.p (.mv (.t 13))), .op (some 85) none (.w (.bs 99 1 [(.t 84)])), .op (some 86) none (.call 97 [(.t 83), (.t 85)]), .op (some 87) none (.call 81 [(.t 86)]), .op (some 8) none (.p (.mv (.t 87))), .gh (.drop [12, 13, 80, 81, 82, 83, 84, 85, 86, 87])]) (.seq (.seq (.ops [ .op (some 88) none (.p (.mv (.t 8))), .op (some 89) none (.p (.len (.t 88))), .op (some 90) none (.p (.bin .gtr (.t 89) (.i .i64 (2048)))), .gh (.drop [88, 89])]) (.cond (.t 90) (.seq (.ops [ .op (some 4) none (.p (.mv .nil)), .op (some 5) none (.p (.mv (.i .i64 (0)))), .op (some 6) none (.p (.mv (.i .i64 (2))))]) (.ret)) (.skip))) (.ops [ .op (some 91) none (.p (.mv (.t 0))), .op (some 92) none (.p (.mv (.t 11))), .op (some 93) none (.p (.ss (.t 91) (some (.t 92)) none)), .op (some 0) none (.p (.mv (.t 93))), .gh (.drop [11, 91, 92, 93])]))))))))))))) (.seq (.ops [ .op (some 94) none (.p (.mv (.t 8))), .op (some 4) none (.p (.mv (.t 94))), .op (some 5) none (.p (.mv (.i .i64 (0)))), .op (some 6) none (.p (.mv (.i .i64 (0)))), .gh (.drop [8, 94])]) (.ret)))))))
theorem k36 : chkF Try.prog 36 2 [4, 5, 6] c36 = true := by kernel_rfl

/- sloperef1.Parse: arguments 2, results in [4, 5, 6]; slots in use where its loops begin: [[0, 1, 7], [0, 1, 8, 9]] -/
def c37 : MC := .seq (.ops [ .op (some 4) none (.p (.mv .nil)), .op (some 5) none (.p (.mv (.i .i64 (0)))), .op (some 6) none (.p (.mv (.i .i64 (0)))), .gh (.drop [4, 5, 6])]) (.seq (.seq (.ops [ .op (some 10) none (.p (.mv (.t 0))), .op (some 11) none (.p (.lens (.t 10))), .op (some 12) none (.p (.bin .gtr (.t 11) (.i .i64 (65536)))), .gh (.drop [10, 11])]) (.cond (.t 12) (.seq (.ops [ .op (some 4) none (.p (.mv .nil)), .op (some 5) none (.p (.mv (.i .i64 (65536)))), .op (some 6) none (.p (.mv (.i .i64 (4))))]) (.ret)) (.skip))) (.seq (.seq (.ops [ .op (some 13) none (.p (.mv (.t 1))), .op (some 14) none (.p (.bin .lss (.t 13) (.i .i64 (2)))), .op (some 15) none (.p (.mv (.t 14))), .op (some 16) (some (15, false)) (.p (.mv (.t 1))), .op (some 17) (some (15, false)) (.p (.bin .gtr (.t 16) (.i .i64 (36)))), .op (some 18) none (.pick (.t 15) (.b true) (.t 17)), .gh (.drop [13, 14, 15, 16, 17])]) (.cond (.t 18) (.seq (.ops [ .op (some 4) none (.p (.mv .nil)), .op (some 5) none (.p (.mv (.i .i64 (0)))), .op (some 6) none (.p (.mv (.i .i64 (22))))]) (.ret)) (.skip))) (.seq (.seq (.ops [ .op (some 19) none (.p (.mv (.t 0))), .op (some 20) none (.p (.lens (.t 19))), .op (some 21) none (.p (.bin .eql (.t 20) (.i .i64 (0)))), .gh (.drop [19, 20])]) (.cond (.t 21) (.seq (.ops [ .op (some 4) none (.p (.mv .nil)), .op (some 5) none (.p (.mv (.i .i64 (0)))), .op (some 6) none (.p (.mv (.i .i64 (5))))]) (.ret)) (.skip))) (.seq (.seq (.ops [ .op (some 7) none (.p (.mv (.i .i64 (0))))]) (.cut (.block 0 (.loop (.seq (.seq (.ops [ .op (some 22) none (.p (.mv (.t 7))), .op (some 23) none (.p (.mv (.t 0))), .op (some 24) none (.p (.lens (.t 23))), .op (some 25) none (.p (.bin .lss (.t 22) (.t 24))), .gh (.drop [22, 23, 24])]) (.cond (.t 25) (.skip) (.exit 0))) (.seq (.block 1 (.seq (.ops [ .op (some 28) none (.p (.mv (.t 0))), .op (some 29) none (.p (.mv (.t 7))), .op (some 30) none (.p (.ix (.t 28) (.t 29))), .op (some 31) none (.call 99 [(.t 30)]), .op (some 32) none (.p (.mv (.t 1))), .op (some 33) none (.p (.bin .geq (.t 31) (.t 32))), .gh (.drop [28, 29, 30, 31, 32])]) (.cond (.t 33) (.seq (.ops [ .op (some 34) none (.p (.mv (.t 7))), .op (some 4) none (.p (.mv .nil)), .op (some 5) none (.p (.mv (.t 34))), .op (some 6) none (.p (.mv (.i .i64 (5)))), .gh (.drop [7, 34])]) (.ret)) (.skip)))) (.ops [ .op (some 26) none (.p (.mv (.t 7))), .op (some 27) none (.p (.bin .add (.t 26) (.i .i64 (1)))), .op (some 7) none (.p (.mv (.t 27))), .gh (.drop [26, 27])]))))))) (.seq (.ops [ .op (some 8) none (.p (.mv .nil))]) (.seq (.seq (.ops [ .op (some 9) none (.p (.mv (.i .i64 (0))))]) (.cut (.block 2 (.loop (.seq (.seq (.ops [ .op (some 35) none (.p (.mv (.t 9))), .op (some 36) none (.p (.mv (.t 0))), .op (some 37) none (.p (.lens (.t 36))), .op (some 38) none (.p (.bin .lss (.t 35) (.t 37))), .gh (.drop [35, 36, 37])]) (.cond (.t 38) (.skip) (.exit 2))) (.seq (.block 3 (.seq (.dr (.op 0 (.op (some 41) none (.p (.mv (.t 8)))) (.op 1 (.op (some 42) none (.p (.mv (.t 1)))) (.op 5 (.op (some 46) none (.p (.mv (.t 0)))) (.op 6 (.op (some 47) none (.p (.mv (.t 9)))) (.alt (.op 2 (.op (some 43) none (.p (.cv .u64 (.t 42)))) (.alt (.op 3 (.op (some 44) none (.call 25 [(.t 43)])) (.alt (.op 4 (.op (some 45) none (.call 101 [(.t 41), (.t 44)])) (.op 7 (.op (some 48) none (.p (.ix (.t 46) (.t 47)))) (.op 8 (.op (some 49) none (.call 99 [(.t 48)])) (.op 9 (.op (some 50) none (.p (.cv .u64 (.t 49)))) (.op 10 (.op (some 51) none (.call 25 [(.t 50)])) (.op 11 (.op (some 52) none (.call 100 [(.t 45), (.t 51)])) (.op 12 (.op (some 53) none (.call 83 [(.t 52)])) (.op 13 (.op (some 8) none (.p (.mv (.t 53)))) (.nil))))))))) (.op 7 (.op (some 48) none (.p (.ix (.t 46) (.t 47)))) (.op 4 (.op (some 45) none (.call 101 [(.t 41), (.t 44)])) (.op 8 (.op (some 49) none (.call 99 [(.t 48)])) (.op 9 (.op (some 50) none (.p (.cv .u64 (.t 49)))) (.op 10 (.op (some 51) none (.call 25 [(.t 50)])) (.op 11 (.op (some 52) none (.call 100 [(.t 45), (.t 51)])) (.op 12 (.op (some 53) none (.call 83 [(.t 52)])) (.op 13 (.op (some 8) none (.p (.mv (.t 53)))) (.nil))))))))))) (.op 7 (.op (some 48) none (.p (.ix (.t 46) (.t 47)))) (.op 3 (.op (some 44) none (.call 25 [(.t 43)])) (.op 4 (.op (some 45) none (.call 101 [(.t 41), (.t 44)])) (.op 8 (.op (some 49) none (.call 99 [(.t 48)])) (.op 9 (.op (some 50) none (.p (.cv .u64 (.t 49)))) (.op 10 (.op (some 51) none (.call 25 [(.t 50)])) (.op 11 (.op (some 52) none (.call 100 [(.t 45), (.t 51)])) (.op 12 (.op (some 53) none (.call 83 [(.t 52)])) (.op 13 (.op (some 8) none (.p (.mv (.t 53)))) (.nil)))))))))))) (.op 7 (.op (some 48) none (.p (.ix (.t 46) (.t 47)))) (.op 2 (.op (some 43) none (.p (.cv .u64 (.t 42)))) (.op 3 (.op (some 44) none (.call 25 [(.t 43)])) (.op 4 (.op (some 45) none (.call 101 [(.t 41), (.t 44)])) (.op 8 (.op (some 49) none (.call 99 [(.t 48)])) (.op 9 (.op (some 50) none (.p (.cv .u64 (.t 49)))) (.op 10 (.op (some 51) none (.call 25 [(.t 50)])) (.op 11 (.op (some 52) none (.call 100 [(.t 45), (.t 51)])) (.op 12 (.op (some 53) none (.call 83 [(.t 52)])) (.op 13 (.op (some 8) none (.p (.mv (.t 53)))) (.nil))))))))))))))))) (.gh (.drop [41, 42, 43, 44, 45, 46, 47, 48, 49, 50, 51, 52, 53]) (.seq (.ops [ .op (some 54) none (.p (.mv (.t 8))), .op (some 55) none (.p (.len (.t 54))), .op (some 56) none (.p (.bin .gtr (.t 55) (.i .i64 (2048)))), .gh (.drop [54, 55])]) (.cond (.t 56) (.seq (.ops [ .op (some 4) none (.p (.mv .nil)), .op (some 5) none (.p (.mv (.i .i64 (0)))), .op (some 6) none (.p (.mv (.i .i64 (2))))]) (.ret)) (.skip)))))) (.ops [ .op (some 39) none (.p (.mv (.t 9))), .op (some 40) none (.p (.bin .add (.t 39) (.i .i64 (1)))), .op (some 9) none (.p (.mv (.t 40))), .gh (.drop [39, 40])]))))))) (.seq (.ops [ .op (some 57) none (.p (.mv (.t 8))), .op (some 4) none (.p (.mv (.t 57))), .op (some 5) none (.p (.mv (.i .i64 (0)))), .op (some 6) none (.p (.mv (.i .i64 (0)))), .gh (.drop [8, 57])]) (.ret))))))))
theorem k37 : chkF Try.prog 37 2 [4, 5, 6] c37 = true := by kernel_rfl



/-! ### plain -/
theorem fromL_val2 (v : Int) (h : inK .u64 v) : (fromL v).length ≤ 2 ∧ val (fromL v) = v := by
  refine ⟨trimL_len _, ?_⟩
  rw [fromL, val_trimL]
  simp only [val, inK] at *
  omega
/-- the digits of a text -/
def dsL (s : ByteArray) : List Int := s.data.toList.map fun c => dval (c.toNat : Int)
/-- their value, the greatest first -/
def bval (b : Int) (ds : List Int) : Int := ds.foldl (fun v d => v * b + d) 0
theorem bval_snoc (b : Int) (ds : List Int) (d : Int) : bval b (ds ++ [d]) = bval b ds * b + d := by simp [bval]
theorem dval_range {c : Int} (h : 0 ≤ c) : 0 ≤ dval c ∧ dval c ≤ 36 := by
  unfold dval
  repeat' split
  all_goals omega
theorem dsL_len (s : ByteArray) : (dsL s).length = s.size := by rw [dsL, List.length_map]; rfl
theorem dsL_range (s : ByteArray) {d : Int} (h : d ∈ dsL s) : 0 ≤ d ∧ d ≤ 36 := by
  obtain ⟨c, hc, rfl⟩ := List.mem_map.1 h
  exact dval_range (by omega)
theorem dsL_get {s : ByteArray} {i : Nat} (h : i < s.size) : (dsL s)[i]? = some (dval ((s.data.toList.getD i 0).toNat : Int)) := by
  have h2 : i < s.data.toList.length := h
  rw [dsL, List.getElem?_map, List.getD_eq_getElem?_getD, List.getElem?_eq_getElem h2]; rfl
theorem dsL_drop (s : ByteArray) (k : Nat) : dsL (s.extract k s.size) = (dsL s).drop k := by
  have h : (s.extract k s.size).data.toList = s.data.toList.drop k := by
    rw [ByteArray.data_extract, Array.toList_extract, List.extract_eq_take_drop, List.take_of_length_le (by rw [List.length_drop]; exact Nat.le_refl _)]
  rw [dsL, h, List.map_drop]; rfl
/-- the first that is no digit -/
def badAt (b : Int) (s : ByteArray) : Nat := (dsL s).findIdx fun d => decide (b ≤ d)
def parseR (s : ByteArray) (b : Int) : AV :=
  if 65536 < s.size then .tup [uL true [], .int .i64 65536, .int .i64 4]
  else if b < 2 ∨ 36 < b then .tup [uL true [], .int .i64 0, .int .i64 22]
  else if s.size = 0 then .tup [uL true [], .int .i64 0, .int .i64 5]
  else if badAt b s < s.size then .tup [uL true [], .int .i64 (badAt b s), .int .i64 5]
  else .tup [uL true (fitL (bval b (dsL s))), .int .i64 0, .int .i64 (fitE (bval b (dsL s)))]
theorem bval_from (b : Int) : ∀ (ds : List Int) (v : Int), ds.foldl (fun v d => v * b + d) v = v * b ^ ds.length + bval b ds := fun ds => by
  induction ds with
  | nil => intro v; simp [bval]
  | cons d ds ih =>
    intro v
    have h1 := ih (v * b + d)
    have h2 := ih d
    simp only [bval, List.foldl_cons, List.length_cons, Int.zero_mul, Int.zero_add] at *
    rw [h1, h2, Int.pow_succ, Int.add_mul, Int.mul_comm (b ^ ds.length) b, ← Int.mul_assoc]
    omega
theorem bval_append (b : Int) (p q : List Int) : bval b (p ++ q) = bval b p * b ^ q.length + bval b q := by
  rw [← bval_from, bval, List.foldl_append]; rfl
theorem bval_bound {b : Int} (hb : 1 ≤ b) (ds : List Int) (h : ∀ d, d ∈ ds → 0 ≤ d ∧ d < b) : 0 ≤ bval b ds ∧ bval b ds < b ^ ds.length := by
  induction ds with
  | nil => simp [bval]
  | cons d ds ih =>
    obtain ⟨i1, i2⟩ := ih fun x hx => h x (List.mem_cons_of_mem _ hx)
    obtain ⟨d1, d2⟩ := h d List.mem_cons_self
    have h1 := bval_append b [d] ds
    rw [List.singleton_append, show bval b [d] = d by simp [bval]] at h1
    have hp : 0 < b ^ ds.length := Int.pow_pos (by omega)
    have h2 : 0 ≤ d * b ^ ds.length := Int.mul_nonneg d1 (by omega)
    have h3 : (d + 1) * b ^ ds.length ≤ b * b ^ ds.length := Int.mul_le_mul_of_nonneg_right (by omega) (by omega)
    rw [Int.add_mul, Int.one_mul] at h3
    rw [List.length_cons, Int.pow_succ, Int.mul_comm _ b, h1]
    omega
theorem bval_mono {b : Int} (hb : 1 ≤ b) {ds : List Int} (h : ∀ d, d ∈ ds → 0 ≤ d ∧ d < b) (k : Nat) : 0 ≤ bval b (ds.take k) ∧ bval b (ds.take k) ≤ bval b ds := by
  have h1 := bval_bound hb (ds.take k) fun d hd => h d (List.mem_of_mem_take hd)
  have h2 := bval_bound hb (ds.drop k) fun d hd => h d (List.mem_of_mem_drop hd)
  have h3 := bval_append b (ds.take k) (ds.drop k)
  rw [List.take_append_drop] at h3
  have hp : (1 : Int) ≤ b ^ (ds.drop k).length := Int.pow_pos (by omega)
  have h4 : bval b (ds.take k) * 1 ≤ bval b (ds.take k) * b ^ (ds.drop k).length := Int.mul_le_mul_of_nonneg_left hp h1.1
  omega
theorem bad_none {b : Int} : ∀ {L : List Int}, (∀ x, x ∈ L → x < b) → L.findIdx (fun d => decide (b ≤ d)) = L.length := fun {L} => by
  induction L with
  | nil => intro _; rfl
  | cons x L ih =>
    intro h
    have h1 := h x List.mem_cons_self
    rw [List.findIdx_cons, ih fun y hy => h y (List.mem_cons_of_mem _ hy), decide_eq_false (by omega)]; rfl
theorem bad_found {b : Int} : ∀ {L : List Int} {i : Nat} {d : Int}, (∀ x, x ∈ L.take i → x < b) → L[i]? = some d → b ≤ d → L.findIdx (fun d => decide (b ≤ d)) = i := fun {L} => by
  induction L with
  | nil => intro i d _ h _; simp at h
  | cons x L ih =>
    intro i d h hi hd
    rw [List.findIdx_cons]
    cases i with
    | zero => obtain rfl : x = d := by simpa using hi
              rw [decide_eq_true hd]; rfl
    | succ i =>
      have h1 := h x (by simp)
      rw [ih (fun y hy => h y (by rw [List.take_succ_cons]; exact List.mem_cons_of_mem _ hy)) (by simpa using hi) hd, decide_eq_false (by omega)]; rfl
theorem natural_Parse (s : ByteArray) (b : Int) : FSpec0 Try.prog 36 [.str s, .int .i64 b] (fun r => r = parseR s b) := by
  refine FSpec0.of_facts fun hf => fspec0_of_run k36 ?_
  simp only [c36, W1, W2, W3, popTo, memb, res, wres, env0, byteAt, optI, cutB, cutL, sliceR, strR, ldCells, ldR, iaR, faR, lenR, lenSR, ixR, exR, nchkR, mxR, csR, up, ZV.av, ZV.fit, zfits, fits, fitsL, cellsOf, down, downL, downLL, stR, mkR, bsR, boxR, alR, apR, cpR, srcQ, solid, killC, killV, killE, killO, killH, hget, hset, hdel, pubV, pubC, pubO, renV, renC, renO, reduceIte, reduceCtorEq, Nat.reduceEqDiff, Nat.reduceLT, Nat.reduceAdd, Int.reduceToNat, Nat.reduceLeDiff, Int.reducePow, Int.reduceLE, Int.reduceLT]
  intro hs
  refine ⟨fun h => ret1' (by rw [parseR, if_pos (by omega)]; simp only [uL, retR, retA, retL, ret1, ret1L, eget, hget, hset, St.set, eset, List.map_cons, List.map_nil, reduceIte, reduceCtorEq, Nat.reduceEqDiff, Nat.reduceLT, true_and, and_true, false_or, or_true, true_or, List.drop_zero, List.take_length, scalE_I, scalE_B, scalE_S]; rfl), fun h => ⟨fun h1 => ret1' (by rw [parseR, if_neg (by omega), if_pos (by omega)]; simp only [uL, retR, retA, retL, ret1, ret1L, eget, hget, hset, St.set, eset, List.map_cons, List.map_nil, reduceIte, reduceCtorEq, Nat.reduceEqDiff, Nat.reduceLT, true_and, and_true, false_or, or_true, true_or, List.drop_zero, List.take_length, scalE_I, scalE_B, scalE_S]; rfl), fun h1 =>
    ⟨fun h2 => ret1' (by rw [parseR, if_neg (by omega), if_pos (by omega)]; simp only [uL, retR, retA, retL, ret1, ret1L, eget, hget, hset, St.set, eset, List.map_cons, List.map_nil, reduceIte, reduceCtorEq, Nat.reduceEqDiff, Nat.reduceLT, true_and, and_true, false_or, or_true, true_or, List.drop_zero, List.take_length, scalE_I, scalE_B, scalE_S]; rfl), fun h2 => ⟨fun h3 => ret1' (by rw [parseR, if_neg (by omega), if_neg (by omega), if_pos (by rw [h3]; rfl)]; simp only [uL, retR, retA, retL, ret1, ret1L, eget, hget, hset, St.set, eset, List.map_cons, List.map_nil, reduceIte, reduceCtorEq, Nat.reduceEqDiff, Nat.reduceLT, true_and, and_true, false_or, or_true, true_or, List.drop_zero, List.take_length, scalE_I, scalE_B, scalE_S]; rfl), fun h3 _ => ?_⟩⟩⟩⟩
  have hs0 : s.size ≠ 0 := fun h0 => h3 (ByteArray.ext (Array.eq_empty_of_size_eq_zero h0))
  refine cut_intro (fun st => (∀ d, d ∈ dsL s → d < b) ∧ st = ⟨[(0, .str s), (1, .int .i64 b)], []⟩) ?_ ?_
  · simp only [W1, W2, W3, popTo, memb, res, wres, env0, byteAt, optI, cutB, cutL, sliceR, strR, ldCells, ldR, iaR, faR, lenR, lenSR, ixR, exR, nchkR, mxR, csR, up, ZV.av, ZV.fit, zfits, fits, fitsL, cellsOf, down, downL, downLL, stR, mkR, bsR, boxR, alR, apR, cpR, srcQ, solid, killC, killV, killE, killO, killH, hget, hset, hdel, pubV, pubC, pubO, renV, renC, renO, reduceIte, reduceCtorEq, Nat.reduceEqDiff, Nat.reduceLT, Nat.reduceAdd, Int.reduceToNat, Nat.reduceLeDiff, Int.reducePow, Int.reduceLE, Int.reduceLT]
    refine loop_intro (fun m st => ∃ i : Nat, i ≤ s.size ∧ m = s.size - i ∧ (∀ d, d ∈ (dsL s).take i → d < b) ∧ st = ⟨[(0, .str s), (1, .int .i64 b), (30, .int .i64 s.size), (31, .int .i64 i)], []⟩) s.size
      [(0, .str s), (1, .int .i64 b), (30, .int .i64 s.size), (31, .int .i64 (0 : Nat))] (by simp [eget]) ⟨0, by omega, by omega, by simp, rfl⟩ ?_
    rintro m st ⟨i, hi, rfl, hd, rfl⟩
    simp only [W1, W2, W3, popTo, memb, res, wres, env0, byteAt, optI, cutB, cutL, sliceR, strR, ldCells, ldR, iaR, faR, lenR, lenSR, ixR, exR, nchkR, mxR, csR, up, ZV.av, ZV.fit, zfits, fits, fitsL, cellsOf, down, downL, downLL, stR, mkR, bsR, boxR, alR, apR, cpR, srcQ, solid, killC, killV, killE, killO, killH, hget, hset, hdel, pubV, pubC, pubO, renV, renC, renO, reduceIte, reduceCtorEq, Nat.reduceEqDiff, Nat.reduceLT, Nat.reduceAdd, Int.reduceToNat, Nat.reduceLeDiff, Int.reducePow, Int.reduceLE, Int.reduceLT]
    refine ⟨fun h0 => ⟨by omega, ?_⟩, fun h0 => ?_⟩
    · have hg := dsL_get (s := s) (i := i) (by omega)
      refine call1 (natural_value ((s.data.toList.getD i 0).toNat : Int)) (by repeat (first | exact subs_nil | refine subs_int ?_ | refine subs_ro ?_ | refine subs_bool ?_ | refine subs_str ?_ | refine subs_nilro ?_ | refine subs_lits rfl ?_ | refine subs_all rfl rfl (by simp) ?_ | refine subs_own rfl rfl ?_ | refine subs_fn ?_)) ?_; simp only [uL, W1, W2, W3, popTo, memb, res, wres, env0, byteAt, optI, cutB, cutL, sliceR, strR, ldCells, ldR, iaR, faR, lenR, lenSR, ixR, exR, nchkR, mxR, csR, up, ZV.av, ZV.fit, zfits, fits, fitsL, cellsOf, down, downL, downLL, stR, mkR, bsR, boxR, alR, apR, cpR, srcQ, solid, killC, killV, killE, killO, killH, hget, hset, hdel, pubV, pubC, pubO, renV, renC, renO, reduceIte, reduceCtorEq, Nat.reduceEqDiff, Nat.reduceLT, Nat.reduceAdd, Int.reduceToNat, Nat.reduceLeDiff, Int.reducePow, Int.reduceLE, Int.reduceLT]
      generalize dval ((s.data.toList.getD i 0).toNat : Int) = d at *
      refine ⟨fun h4 => ?_, fun h4 => ⟨by omega, ?_⟩⟩
      · have hf := bad_found hd hg h4
        exact ret1' (by rw [parseR, if_neg (by omega), if_neg (by omega), if_neg hs0, if_pos (by rw [badAt, hf]; omega), badAt, hf]; simp only [uL, retR, retA, retL, ret1, ret1L, eget, hget, hset, St.set, eset, List.map_cons, List.map_nil, reduceIte, reduceCtorEq, Nat.reduceEqDiff, Nat.reduceLT, true_and, and_true, false_or, or_true, true_or, List.drop_zero, List.take_length, scalE_I, scalE_B, scalE_S]; rfl)
      · refine back_intro [(0, .str s), (1, .int .i64 b), (30, .int .i64 s.size), (31, .int .i64 ((i + 1 : Nat) : Int))] (by simp [eget]) (by omega) ⟨i + 1, by omega, rfl, fun x hx => ?_, rfl⟩
        rw [take_step hg] at hx
        rcases List.mem_append.1 hx with h1 | h1
        · exact hd x h1
        · simp at h1; omega
    · refine join_intro [(0, .str s), (1, .int .i64 b)] (by simp [eget]) ⟨fun d hdd => hd d ?_, rfl⟩
      rw [List.take_of_length_le (by rw [dsL_len]; omega)]; exact hdd
  · rintro st ⟨hbad, rfl⟩
    simp only [W1, W2, W3, popTo, memb, res, wres, env0, byteAt, optI, cutB, cutL, sliceR, strR, ldCells, ldR, iaR, faR, lenR, lenSR, ixR, exR, nchkR, mxR, csR, up, ZV.av, ZV.fit, zfits, fits, fitsL, cellsOf, down, downL, downLL, stR, mkR, bsR, boxR, alR, apR, cpR, srcQ, solid, killC, killV, killE, killO, killH, hget, hset, hdel, pubV, pubC, pubO, renV, renC, renO, reduceIte, reduceCtorEq, Nat.reduceEqDiff, Nat.reduceLT, Nat.reduceAdd, Int.reduceToNat, Nat.reduceLeDiff, Int.reducePow, Int.reduceLE, Int.reduceLT]
    refine callK0 (natural_piece b (by omega) (by omega)) (by repeat (first | exact subs_nil | refine subs_int ?_)) fun r hr => ?_
    obtain ⟨z, z1, z2, z3, rfl⟩ := hr
    have hdr : ∀ d, d ∈ dsL s → 0 ≤ d ∧ d < b := fun d hd => ⟨(dsL_range s hd).1, hbad d hd⟩
    have hR : parseR s b = .tup [uL true (fitL (bval b (dsL s))), .int .i64 0, .int .i64 (fitE (bval b (dsL s)))] := by
      rw [parseR, if_neg (by omega), if_neg (by omega), if_neg hs0, if_neg (by rw [badAt, bad_none hbad, dsL_len]; omega)]
    rw [hR]
    have hmono := bval_mono (by omega) hdr
    have hlen := dsL_len s
    generalize hD : dsL s = D at *
    generalize hV : bval b D = V at *
    simp only [W1, W2, W3, popTo, memb, res, wres, env0, byteAt, optI, cutB, cutL, sliceR, strR, ldCells, ldR, iaR, faR, lenR, lenSR, ixR, exR, nchkR, mxR, csR, up, ZV.av, ZV.fit, zfits, fits, fitsL, cellsOf, down, downL, downLL, stR, mkR, bsR, boxR, alR, apR, cpR, srcQ, solid, killC, killV, killE, killO, killH, hget, hset, hdel, pubV, pubC, pubO, renV, renC, renO, reduceIte, reduceCtorEq, Nat.reduceEqDiff, Nat.reduceLT, Nat.reduceAdd, Int.reduceToNat, Nat.reduceLeDiff, Int.reducePow, Int.reduceLE, Int.reduceLT]
    refine cut_intro (fun st => (limbs V).length ≤ 2048 ∧ st = ⟨[(8, uL true (limbs V))], []⟩) ?_ ?_
    · simp only [W1, W2, W3, popTo, memb, res, wres, env0, byteAt, optI, cutB, cutL, sliceR, strR, ldCells, ldR, iaR, faR, lenR, lenSR, ixR, exR, nchkR, mxR, csR, up, ZV.av, ZV.fit, zfits, fits, fitsL, cellsOf, down, downL, downLL, stR, mkR, bsR, boxR, alR, apR, cpR, srcQ, solid, killC, killV, killE, killO, killH, hget, hset, hdel, pubV, pubC, pubO, renV, renC, renO, reduceIte, reduceCtorEq, Nat.reduceEqDiff, Nat.reduceLT, Nat.reduceAdd, Int.reduceToNat, Nat.reduceLeDiff, Int.reducePow, Int.reduceLE, Int.reduceLT]
      refine loop_introE (fun m st => ∃ (k : Nat) (t : ByteArray), k ≤ s.size ∧ m = s.size - k ∧ t.size = s.size - k ∧ dsL t = D.drop k ∧ (limbs (bval b (D.take k))).length ≤ 2048 ∧
        st = ⟨[(0, .str t), (1, .int .i64 b), (8, uL true (limbs (bval b (D.take k)))), (9, .int .u32 (b ^ z)), (10, .int .i64 z)], []⟩) s.size
        (Ent.trans (Ent.nilro 8 true 1 (encI .u32) rfl) (Ent.of_env (env' := [(0, .str s), (1, .int .i64 b), (8, uL true []), (9, .int .u32 (b ^ z)), (10, .int .i64 z)]) (by simp [eget, eset, uL])))
        ⟨0, s, by omega, by omega, by omega, by rw [hD, List.drop_zero], by simp [bval, limbs_zero], by simp [bval, limbs_zero]⟩ ?_
      rintro m st ⟨k, t, hk, rfl, hts, htd, hb, rfl⟩
      simp only [uL, W1, W2, W3, popTo, memb, res, wres, env0, byteAt, optI, cutB, cutL, sliceR, strR, ldCells, ldR, iaR, faR, lenR, lenSR, ixR, exR, nchkR, mxR, csR, up, ZV.av, ZV.fit, zfits, fits, fitsL, cellsOf, down, downL, downLL, stR, mkR, bsR, boxR, alR, apR, cpR, srcQ, solid, killC, killV, killE, killO, killH, hget, hset, hdel, pubV, pubC, pubO, renV, renC, renO, reduceIte, reduceCtorEq, Nat.reduceEqDiff, Nat.reduceLT, Nat.reduceAdd, Int.reduceToNat, Nat.reduceLeDiff, Int.reducePow, Int.reduceLE, Int.reduceLT]
      refine fun _ => ⟨fun h0 _ _ => ⟨by omega, ?_⟩, fun h0 => ?_⟩
      rotate_left
      · have hk2 : k = D.length := by omega
        rw [hk2, List.take_length, hV] at hb ⊢
        exact join_intro [(8, uL true (limbs V))] (by simp [eget, uL]) ⟨hb, rfl⟩
      have hvO : val (limbs (bval b (D.take k))) = bval b (D.take k) := limbs_val (hmono k).1
      generalize limbs (bval b (D.take k)) = O at *
      have hrange : ∀ i, 0 ≤ bval b ((D.drop k).take i) ∧ bval b ((D.drop k).take i) < b ^ ((D.drop k).take i).length := fun i => bval_bound (by omega) _ fun d hd => hdr d (List.mem_of_mem_drop (List.mem_of_mem_take hd))
      have hpow : ∀ i, i ≤ z → 0 < b ^ i ∧ b ^ i ≤ b ^ z := fun i hi => by
        have h1 : 0 < b ^ i := Int.pow_pos (by omega)
        have h2 : 0 < b ^ (z - i) := Int.pow_pos (by omega)
        have h3 : b ^ i * 1 ≤ b ^ i * b ^ (z - i) := Int.mul_le_mul_of_nonneg_left (by omega) (by omega)
        rw [← Int.pow_add, Nat.add_sub_cancel' hi] at h3
        omega
      refine cut_intro (fun st => ∃ n : Nat, 1 ≤ n ∧ n ≤ z ∧ n ≤ t.size ∧ st = ⟨[(0, .str t), (1, .int .i64 b), (8, uL true O), (9, .int .u32 (b ^ z)), (10, .int .i64 z), (11, .int .i64 n)], []⟩) ?_ ?_
      · simp only [W1, W2, W3, popTo, memb, res, wres, env0, byteAt, optI, cutB, cutL, sliceR, strR, ldCells, ldR, iaR, faR, lenR, lenSR, ixR, exR, nchkR, mxR, csR, up, ZV.av, ZV.fit, zfits, fits, fitsL, cellsOf, down, downL, downLL, stR, mkR, bsR, boxR, alR, apR, cpR, srcQ, solid, killC, killV, killE, killO, killH, hget, hset, hdel, pubV, pubC, pubO, renV, renC, renO, reduceIte, reduceCtorEq, Nat.reduceEqDiff, Nat.reduceLT, Nat.reduceAdd, Int.reduceToNat, Nat.reduceLeDiff, Int.reducePow, Int.reduceLE, Int.reduceLT]
        have m1 := Nat.mod_lt t.size (show z > 0 by omega)
        have m2 := Nat.mod_le t.size z
        have m3 : t.size < z → t.size % z = t.size := fun h => Nat.mod_eq_of_lt h
        have m4 : (t.size : Int) % (z : Int) = ((t.size % z : Nat) : Int) := rfl
        rw [m4]
        generalize t.size % z = q at *
        exact ⟨fun e0 => join_intro [(0, .str t), (1, .int .i64 b), (8, uL true O), (9, .int .u32 (b ^ z)), (10, .int .i64 z), (11, .int .i64 z)] (by simp [eget, uL]) ⟨z, by omega, by omega, by omega, rfl⟩,
          fun e0 => join_intro [(0, .str t), (1, .int .i64 b), (8, uL true O), (9, .int .u32 (b ^ z)), (10, .int .i64 z), (11, .int .i64 q)] (by simp [eget, uL]) ⟨q, by omega, by omega, by omega, rfl⟩⟩
      rintro st ⟨n, n1, n2, n3, rfl⟩
      simp only [uL, W1, W2, W3, popTo, memb, res, wres, env0, byteAt, optI, cutB, cutL, sliceR, strR, ldCells, ldR, iaR, faR, lenR, lenSR, ixR, exR, nchkR, mxR, csR, up, ZV.av, ZV.fit, zfits, fits, fitsL, cellsOf, down, downL, downLL, stR, mkR, bsR, boxR, alR, apR, cpR, srcQ, solid, killC, killV, killE, killO, killH, hget, hset, hdel, pubV, pubC, pubO, renV, renC, renO, reduceIte, reduceCtorEq, Nat.reduceEqDiff, Nat.reduceLT, Nat.reduceAdd, Int.reduceToNat, Nat.reduceLeDiff, Int.reducePow, Int.reduceLE, Int.reduceLT]
      refine cut_intro (fun st => st = ⟨[(0, .str t), (1, .int .i64 b), (8, uL true O), (9, .int .u32 (b ^ z)), (10, .int .i64 z), (11, .int .i64 n), (12, .int .u32 (b ^ n)), (13, .int .u32 (bval b ((D.drop k).take n)))], []⟩) ?_ ?_
      · simp only [W1, W2, W3, popTo, memb, res, wres, env0, byteAt, optI, cutB, cutL, sliceR, strR, ldCells, ldR, iaR, faR, lenR, lenSR, ixR, exR, nchkR, mxR, csR, up, ZV.av, ZV.fit, zfits, fits, fitsL, cellsOf, down, downL, downLL, stR, mkR, bsR, boxR, alR, apR, cpR, srcQ, solid, killC, killV, killE, killO, killH, hget, hset, hdel, pubV, pubC, pubO, renV, renC, renO, reduceIte, reduceCtorEq, Nat.reduceEqDiff, Nat.reduceLT, Nat.reduceAdd, Int.reduceToNat, Nat.reduceLeDiff, Int.reducePow, Int.reduceLE, Int.reduceLT]
        refine loop_intro (fun m st => ∃ i : Nat, i ≤ n ∧ m = n - i ∧ st = ⟨[(0, .str t), (1, .int .i64 b), (8, uL true O), (9, .int .u32 (b ^ z)), (10, .int .i64 z), (11, .int .i64 n), (12, .int .u32 (b ^ i)), (13, .int .u32 (bval b ((D.drop k).take i))), (57, .int .i64 n), (58, .int .i64 i)], []⟩) n
          [(0, .str t), (1, .int .i64 b), (8, uL true O), (9, .int .u32 (b ^ z)), (10, .int .i64 z), (11, .int .i64 n), (12, .int .u32 1), (13, .int .u32 0), (57, .int .i64 n), (58, .int .i64 (0 : Nat))] (by simp [eget, uL]) ⟨0, by omega, by omega, by simp [bval]⟩ ?_
        rintro m st ⟨i, hi, rfl, rfl⟩
        simp only [uL, W1, W2, W3, popTo, memb, res, wres, env0, byteAt, optI, cutB, cutL, sliceR, strR, ldCells, ldR, iaR, faR, lenR, lenSR, ixR, exR, nchkR, mxR, csR, up, ZV.av, ZV.fit, zfits, fits, fitsL, cellsOf, down, downL, downLL, stR, mkR, bsR, boxR, alR, apR, cpR, srcQ, solid, killC, killV, killE, killO, killH, hget, hset, hdel, pubV, pubC, pubO, renV, renC, renO, reduceIte, reduceCtorEq, Nat.reduceEqDiff, Nat.reduceLT, Nat.reduceAdd, Int.reduceToNat, Nat.reduceLeDiff, Int.reducePow, Int.reduceLE, Int.reduceLT]
        refine ⟨fun h4 => ⟨by omega, ?_⟩, fun h4 => ?_⟩
        · have hg := dsL_get (s := t) (i := i) (by omega)
          rw [htd] at hg
          refine call1 (natural_value ((t.data.toList.getD i 0).toNat : Int)) (by repeat (first | exact subs_nil | refine subs_int ?_ | refine subs_ro ?_ | refine subs_bool ?_ | refine subs_str ?_ | refine subs_nilro ?_ | refine subs_lits rfl ?_ | refine subs_all rfl rfl (by simp) ?_ | refine subs_own rfl rfl ?_ | refine subs_fn ?_)) ?_; simp only [uL, W1, W2, W3, popTo, memb, res, wres, env0, byteAt, optI, cutB, cutL, sliceR, strR, ldCells, ldR, iaR, faR, lenR, lenSR, ixR, exR, nchkR, mxR, csR, up, ZV.av, ZV.fit, zfits, fits, fitsL, cellsOf, down, downL, downLL, stR, mkR, bsR, boxR, alR, apR, cpR, srcQ, solid, killC, killV, killE, killO, killH, hget, hset, hdel, pubV, pubC, pubO, renV, renC, renO, reduceIte, reduceCtorEq, Nat.reduceEqDiff, Nat.reduceLT, Nat.reduceAdd, Int.reduceToNat, Nat.reduceLeDiff, Int.reducePow, Int.reduceLE, Int.reduceLT]
          generalize dval ((t.data.toList.getD i 0).toNat : Int) = d at *
          obtain ⟨d1, d2⟩ := hdr d (List.mem_of_mem_drop (List.mem_of_getElem? hg))
          have hP1 : ((D.drop k).take (i + 1)).length = i + 1 := by rw [List.length_take, List.length_drop]; omega
          obtain ⟨r1, r2⟩ := hrange (i + 1)
          obtain ⟨r3, r4⟩ := hrange i
          obtain ⟨p1, p2⟩ := hpow (i + 1) (by omega)
          obtain ⟨p3, p4⟩ := hpow i (by omega)
          rw [hP1] at r2
          have hw : bval b ((D.drop k).take (i + 1)) = bval b ((D.drop k).take i) * b + d := by rw [take_step hg, bval_snoc]
          have hw0 : 0 ≤ bval b ((D.drop k).take i) * b := Int.mul_nonneg r3 (by omega)
          have hb1 : b % 4294967296 = b := by omega
          rw [hb1, ← Int.pow_succ, show b ^ (i + 1) % 4294967296 = b ^ (i + 1) by omega, show bval b ((D.drop k).take i) * b % 4294967296 = bval b ((D.drop k).take i) * b by omega, show d % 4294967296 = d by omega,
            ← hw, show bval b ((D.drop k).take (i + 1)) % 4294967296 = bval b ((D.drop k).take (i + 1)) by omega]
          refine ⟨by omega, back_intro [(0, .str t), (1, .int .i64 b), (8, uL true O), (9, .int .u32 (b ^ z)), (10, .int .i64 z), (11, .int .i64 n), (12, .int .u32 (b ^ (i + 1))), (13, .int .u32 (bval b ((D.drop k).take (i + 1)))), (57, .int .i64 n), (58, .int .i64 ((i + 1 : Nat) : Int))] (by simp [eget, uL]) (by omega) ⟨i + 1, by omega, rfl, rfl⟩⟩
        · obtain rfl : i = n := by omega
          exact join_intro [(0, .str t), (1, .int .i64 b), (8, uL true O), (9, .int .u32 (b ^ z)), (10, .int .i64 z), (11, .int .i64 i), (12, .int .u32 (b ^ i)), (13, .int .u32 (bval b ((D.drop k).take i)))] (by simp [eget, uL]) rfl
      rintro st rfl
      simp only [uL, W1, W2, W3, popTo, memb, res, wres, env0, byteAt, optI, cutB, cutL, sliceR, strR, ldCells, ldR, iaR, faR, lenR, lenSR, ixR, exR, nchkR, mxR, csR, up, ZV.av, ZV.fit, zfits, fits, fitsL, cellsOf, down, downL, downLL, stR, mkR, bsR, boxR, alR, apR, cpR, srcQ, solid, killC, killV, killE, killO, killH, hget, hset, hdel, pubV, pubC, pubO, renV, renC, renO, reduceIte, reduceCtorEq, Nat.reduceEqDiff, Nat.reduceLT, Nat.reduceAdd, Int.reduceToNat, Nat.reduceLeDiff, Int.reducePow, Int.reduceLE, Int.reduceLT]
      refine cut_intro (fun st => st = ⟨[(0, .str t), (1, .int .i64 b), (8, uL true O), (9, .int .u32 (b ^ z)), (10, .int .i64 z), (11, .int .i64 n), (12, .int .u32 (b ^ n)), (13, .int .u32 (bval b ((D.drop k).take n)))], []⟩) ?_ ?_
      · simp only [W1, W2, W3, popTo, memb, res, wres, env0, byteAt, optI, cutB, cutL, sliceR, strR, ldCells, ldR, iaR, faR, lenR, lenSR, ixR, exR, nchkR, mxR, csR, up, ZV.av, ZV.fit, zfits, fits, fitsL, cellsOf, down, downL, downLL, stR, mkR, bsR, boxR, alR, apR, cpR, srcQ, solid, killC, killV, killE, killO, killH, hget, hset, hdel, pubV, pubC, pubO, renV, renC, renO, reduceIte, reduceCtorEq, Nat.reduceEqDiff, Nat.reduceLT, Nat.reduceAdd, Int.reduceToNat, Nat.reduceLeDiff, Int.reducePow, Int.reduceLE, Int.reduceLT]
        refine ⟨fun e0 => join_intro [(0, .str t), (1, .int .i64 b), (8, uL true O), (9, .int .u32 (b ^ z)), (10, .int .i64 z), (11, .int .i64 n), (12, .int .u32 (b ^ n)), (13, .int .u32 (bval b ((D.drop k).take n)))] (by simp [eget, uL]; rw [show n = z by omega]) rfl,
          fun e0 => join_intro [(0, .str t), (1, .int .i64 b), (8, uL true O), (9, .int .u32 (b ^ z)), (10, .int .i64 z), (11, .int .i64 n), (12, .int .u32 (b ^ n)), (13, .int .u32 (bval b ((D.drop k).take n)))] (by simp [eget, uL]) rfl⟩
      rintro st rfl
      simp only [uL, W1, W2, W3, popTo, memb, res, wres, env0, byteAt, optI, cutB, cutL, sliceR, strR, ldCells, ldR, iaR, faR, lenR, lenSR, ixR, exR, nchkR, mxR, csR, up, ZV.av, ZV.fit, zfits, fits, fitsL, cellsOf, down, downL, downLL, stR, mkR, bsR, boxR, alR, apR, cpR, srcQ, solid, killC, killV, killE, killO, killH, hget, hset, hdel, pubV, pubC, pubO, renV, renC, renO, reduceIte, reduceCtorEq, Nat.reduceEqDiff, Nat.reduceLT, Nat.reduceAdd, Int.reduceToNat, Nat.reduceLeDiff, Int.reducePow, Int.reduceLE, Int.reduceLT]
      have hPl : ((D.drop k).take n).length = n := by rw [List.length_take, List.length_drop]; omega
      obtain ⟨r1, r2⟩ := hrange n
      obtain ⟨p1, p2⟩ := hpow n n2
      rw [hPl] at r2
      refine callK0 (natural_school true true O [b ^ n] (by simp; omega)) (by repeat (first | exact subs_nil | refine subs_ro ?_ | refine subs_lits' rfl ?_)) fun r hr => ?_
      obtain ⟨zs, rfl, lz, zlen, zval⟩ := hr
      simp only [uL, W1, W2, W3, popTo, memb, res, wres, env0, byteAt, optI, cutB, cutL, sliceR, strR, ldCells, ldR, iaR, faR, lenR, lenSR, ixR, exR, nchkR, mxR, csR, up, ZV.av, ZV.fit, zfits, fits, fitsL, cellsOf, down, downL, downLL, stR, mkR, bsR, boxR, alR, apR, cpR, srcQ, solid, killC, killV, killE, killO, killH, hget, hset, hdel, pubV, pubC, pubO, renV, renC, renO, reduceIte, reduceCtorEq, Nat.reduceEqDiff, Nat.reduceLT, Nat.reduceAdd, Int.reduceToNat, Nat.reduceLeDiff, Int.reducePow, Int.reduceLE, Int.reduceLT]
      refine callK0 (natural_plus true true zs [bval b ((D.drop k).take n)] (by simp at zlen; omega) (by simp)) (by repeat (first | exact subs_nil | refine subs_ro ?_ | refine subs_lits' rfl ?_)) fun r hr => ?_
      obtain ⟨ws, rfl, lw, wlen, wval⟩ := hr
      simp only [uL, W1, W2, W3, popTo, memb, res, wres, env0, byteAt, optI, cutB, cutL, sliceR, strR, ldCells, ldR, iaR, faR, lenR, lenSR, ixR, exR, nchkR, mxR, csR, up, ZV.av, ZV.fit, zfits, fits, fitsL, cellsOf, down, downL, downLL, stR, mkR, bsR, boxR, alR, apR, cpR, srcQ, solid, killC, killV, killE, killO, killH, hget, hset, hdel, pubV, pubC, pubO, renV, renC, renO, reduceIte, reduceCtorEq, Nat.reduceEqDiff, Nat.reduceLT, Nat.reduceAdd, Int.reduceToNat, Nat.reduceLeDiff, Int.reducePow, Int.reduceLE, Int.reduceLT]
      simp only [List.length_cons, List.length_nil] at zlen wlen
      refine call1 (natural_trim true ws (by omega)) (by repeat (first | exact subs_nil | refine subs_int ?_ | refine subs_ro ?_ | refine subs_bool ?_ | refine subs_str ?_ | refine subs_nilro ?_ | refine subs_lits rfl ?_ | refine subs_all rfl rfl (by simp) ?_ | refine subs_own rfl rfl ?_ | refine subs_fn ?_)) ?_
      have hv2 : val ws = bval b (D.take (k + n)) := by
        rw [wval, zval, hvO, List.take_add, bval_append, hPl]; simp [val]
      rw [trimL_limbs lw, hv2]
      simp only [uL, W1, W2, W3, popTo, memb, res, wres, env0, byteAt, optI, cutB, cutL, sliceR, strR, ldCells, ldR, iaR, faR, lenR, lenSR, ixR, exR, nchkR, mxR, csR, up, ZV.av, ZV.fit, zfits, fits, fitsL, cellsOf, down, downL, downLL, stR, mkR, bsR, boxR, alR, apR, cpR, srcQ, solid, killC, killV, killE, killO, killH, hget, hset, hdel, pubV, pubC, pubO, renV, renC, renO, reduceIte, reduceCtorEq, Nat.reduceEqDiff, Nat.reduceLT, Nat.reduceAdd, Int.reduceToNat, Nat.reduceLeDiff, Int.reducePow, Int.reduceLE, Int.reduceLT]
      have hsz : (t.extract n t.size).size = s.size - (k + n) := by rw [ByteArray.size_extract]; omega
      obtain ⟨v1, v2⟩ := hmono (k + n)
      refine fun _ => ⟨fun h4 => ?_, fun h4 => ⟨by omega, back_intro [(0, .str (t.extract n t.size)), (1, .int .i64 b), (8, uL true (limbs (bval b (D.take (k + n))))), (9, .int .u32 (b ^ z)), (10, .int .i64 z)] (by simp [eget, uL]) (by omega)
        ⟨k + n, _, by omega, rfl, hsz, by rw [dsL_drop, htd, List.drop_drop], by omega, rfl⟩⟩⟩
      have hbig : ¬ (limbs V).length ≤ 2048 := fun hl => by have := limbs_mono v1 v2 hl; omega
      exact ret1' (by rw [fitL, fitE, if_neg hbig, if_neg hbig]; simp only [uL, retR, retA, retL, ret1, ret1L, eget, hget, hset, St.set, eset, List.map_cons, List.map_nil, reduceIte, reduceCtorEq, Nat.reduceEqDiff, Nat.reduceLT, true_and, and_true, false_or, or_true, true_or, List.drop_zero, List.take_length, scalE_I, scalE_B, scalE_S]; rfl)
    · rintro st ⟨hb, rfl⟩
      simp only [uL, W1, W2, W3, popTo, memb, res, wres, env0, byteAt, optI, cutB, cutL, sliceR, strR, ldCells, ldR, iaR, faR, lenR, lenSR, ixR, exR, nchkR, mxR, csR, up, ZV.av, ZV.fit, zfits, fits, fitsL, cellsOf, down, downL, downLL, stR, mkR, bsR, boxR, alR, apR, cpR, srcQ, solid, killC, killV, killE, killO, killH, hget, hset, hdel, pubV, pubC, pubO, renV, renC, renO, reduceIte, reduceCtorEq, Nat.reduceEqDiff, Nat.reduceLT, Nat.reduceAdd, Int.reduceToNat, Nat.reduceLeDiff, Int.reducePow, Int.reduceLE, Int.reduceLT]
      exact ret1' (by simp only [uL, fitL, fitE, if_pos hb, retR, retA, retL, ret1, ret1L, eget, hget, hset, St.set, eset, List.map_cons, List.map_nil, reduceIte, reduceCtorEq, Nat.reduceEqDiff, Nat.reduceLT, true_and, and_true, false_or, or_true, true_or, List.drop_zero, List.take_length, scalE_I, scalE_B, scalE_S])

theorem sloperef1_Parse (s : ByteArray) (b : Int) : FSpec0 Try.prog 37 [.str s, .int .i64 b] (fun r => r = parseR s b) := by
  refine FSpec0.of_facts fun hf => fspec0_of_run k37 ?_
  simp only [c37, W1, W2, W3, popTo, memb, res, wres, env0, byteAt, optI, cutB, cutL, sliceR, strR, ldCells, ldR, iaR, faR, lenR, lenSR, ixR, exR, nchkR, mxR, csR, up, ZV.av, ZV.fit, zfits, fits, fitsL, cellsOf, down, downL, downLL, stR, mkR, bsR, boxR, alR, apR, cpR, srcQ, solid, killC, killV, killE, killO, killH, hget, hset, hdel, pubV, pubC, pubO, renV, renC, renO, reduceIte, reduceCtorEq, Nat.reduceEqDiff, Nat.reduceLT, Nat.reduceAdd, Int.reduceToNat, Nat.reduceLeDiff, Int.reducePow, Int.reduceLE, Int.reduceLT]
  intro hs
  refine ⟨fun h => ret1' (by rw [parseR, if_pos (by omega)]; simp only [uL, retR, retA, retL, ret1, ret1L, eget, hget, hset, St.set, eset, List.map_cons, List.map_nil, reduceIte, reduceCtorEq, Nat.reduceEqDiff, Nat.reduceLT, true_and, and_true, false_or, or_true, true_or, List.drop_zero, List.take_length, scalE_I, scalE_B, scalE_S]; rfl), fun h => ⟨fun h1 => ret1' (by rw [parseR, if_neg (by omega), if_pos (by omega)]; simp only [uL, retR, retA, retL, ret1, ret1L, eget, hget, hset, St.set, eset, List.map_cons, List.map_nil, reduceIte, reduceCtorEq, Nat.reduceEqDiff, Nat.reduceLT, true_and, and_true, false_or, or_true, true_or, List.drop_zero, List.take_length, scalE_I, scalE_B, scalE_S]; rfl), fun h1 =>
    ⟨fun h2 => ret1' (by rw [parseR, if_neg (by omega), if_pos (by omega)]; simp only [uL, retR, retA, retL, ret1, ret1L, eget, hget, hset, St.set, eset, List.map_cons, List.map_nil, reduceIte, reduceCtorEq, Nat.reduceEqDiff, Nat.reduceLT, true_and, and_true, false_or, or_true, true_or, List.drop_zero, List.take_length, scalE_I, scalE_B, scalE_S]; rfl), fun h2 _ => ⟨fun h3 => ret1' (by rw [parseR, if_neg (by omega), if_neg (by omega), if_pos (by omega)]; simp only [uL, retR, retA, retL, ret1, ret1L, eget, hget, hset, St.set, eset, List.map_cons, List.map_nil, reduceIte, reduceCtorEq, Nat.reduceEqDiff, Nat.reduceLT, true_and, and_true, false_or, or_true, true_or, List.drop_zero, List.take_length, scalE_I, scalE_B, scalE_S]; rfl), fun h3 => ?_⟩⟩⟩⟩
  have hs0 : s.size ≠ 0 := by omega
  refine cut_intro (fun st => (∀ d, d ∈ dsL s → d < b) ∧ st = ⟨[(0, .str s), (1, .int .i64 b)], []⟩) ?_ ?_
  · simp only [W1, W2, W3, popTo, memb, res, wres, env0, byteAt, optI, cutB, cutL, sliceR, strR, ldCells, ldR, iaR, faR, lenR, lenSR, ixR, exR, nchkR, mxR, csR, up, ZV.av, ZV.fit, zfits, fits, fitsL, cellsOf, down, downL, downLL, stR, mkR, bsR, boxR, alR, apR, cpR, srcQ, solid, killC, killV, killE, killO, killH, hget, hset, hdel, pubV, pubC, pubO, renV, renC, renO, reduceIte, reduceCtorEq, Nat.reduceEqDiff, Nat.reduceLT, Nat.reduceAdd, Int.reduceToNat, Nat.reduceLeDiff, Int.reducePow, Int.reduceLE, Int.reduceLT]
    refine loop_intro (fun m st => ∃ i : Nat, i ≤ s.size ∧ m = s.size - i ∧ (∀ d, d ∈ (dsL s).take i → d < b) ∧ st = ⟨[(0, .str s), (1, .int .i64 b), (7, .int .i64 i)], []⟩) s.size
      [(0, .str s), (1, .int .i64 b), (7, .int .i64 (0 : Nat))] (by simp [eget]) ⟨0, by omega, by omega, by simp, rfl⟩ ?_
    rintro m st ⟨i, hi, rfl, hd, rfl⟩
    simp only [W1, W2, W3, popTo, memb, res, wres, env0, byteAt, optI, cutB, cutL, sliceR, strR, ldCells, ldR, iaR, faR, lenR, lenSR, ixR, exR, nchkR, mxR, csR, up, ZV.av, ZV.fit, zfits, fits, fitsL, cellsOf, down, downL, downLL, stR, mkR, bsR, boxR, alR, apR, cpR, srcQ, solid, killC, killV, killE, killO, killH, hget, hset, hdel, pubV, pubC, pubO, renV, renC, renO, reduceIte, reduceCtorEq, Nat.reduceEqDiff, Nat.reduceLT, Nat.reduceAdd, Int.reduceToNat, Nat.reduceLeDiff, Int.reducePow, Int.reduceLE, Int.reduceLT]
    refine fun _ => ⟨fun h0 => ⟨by omega, ?_⟩, fun h0 => ?_⟩
    · have hg := dsL_get (s := s) (i := i) (by omega)
      refine call1 (sloperef1_Digit ((s.data.toList.getD i 0).toNat : Int)) (by repeat (first | exact subs_nil | refine subs_int ?_ | refine subs_ro ?_ | refine subs_bool ?_ | refine subs_str ?_ | refine subs_nilro ?_ | refine subs_lits rfl ?_ | refine subs_all rfl rfl (by simp) ?_ | refine subs_own rfl rfl ?_ | refine subs_fn ?_)) ?_; simp only [uL, W1, W2, W3, popTo, memb, res, wres, env0, byteAt, optI, cutB, cutL, sliceR, strR, ldCells, ldR, iaR, faR, lenR, lenSR, ixR, exR, nchkR, mxR, csR, up, ZV.av, ZV.fit, zfits, fits, fitsL, cellsOf, down, downL, downLL, stR, mkR, bsR, boxR, alR, apR, cpR, srcQ, solid, killC, killV, killE, killO, killH, hget, hset, hdel, pubV, pubC, pubO, renV, renC, renO, reduceIte, reduceCtorEq, Nat.reduceEqDiff, Nat.reduceLT, Nat.reduceAdd, Int.reduceToNat, Nat.reduceLeDiff, Int.reducePow, Int.reduceLE, Int.reduceLT]
      generalize dval ((s.data.toList.getD i 0).toNat : Int) = d at *
      refine ⟨fun h4 => ?_, fun h4 => ⟨by omega, ?_⟩⟩
      · have hf := bad_found hd hg h4
        exact ret1' (by rw [parseR, if_neg (by omega), if_neg (by omega), if_neg hs0, if_pos (by rw [badAt, hf]; omega), badAt, hf]; simp only [uL, retR, retA, retL, ret1, ret1L, eget, hget, hset, St.set, eset, List.map_cons, List.map_nil, reduceIte, reduceCtorEq, Nat.reduceEqDiff, Nat.reduceLT, true_and, and_true, false_or, or_true, true_or, List.drop_zero, List.take_length, scalE_I, scalE_B, scalE_S]; rfl)
      · refine back_intro [(0, .str s), (1, .int .i64 b), (7, .int .i64 ((i + 1 : Nat) : Int))] (by simp [eget]) (by omega) ⟨i + 1, by omega, rfl, fun x hx => ?_, rfl⟩
        rw [take_step hg] at hx
        rcases List.mem_append.1 hx with h1 | h1
        · exact hd x h1
        · simp at h1; omega
    · refine join_intro [(0, .str s), (1, .int .i64 b)] (by simp [eget]) ⟨fun d hdd => hd d ?_, rfl⟩
      rw [List.take_of_length_le (by rw [dsL_len]; omega)]; exact hdd
  rintro st ⟨hbad, rfl⟩
  have hdr : ∀ d, d ∈ dsL s → 0 ≤ d ∧ d < b := fun d hd => ⟨(dsL_range s hd).1, hbad d hd⟩
  have hR : parseR s b = .tup [uL true (fitL (bval b (dsL s))), .int .i64 0, .int .i64 (fitE (bval b (dsL s)))] := by
    rw [parseR, if_neg (by omega), if_neg (by omega), if_neg hs0, if_neg (by rw [badAt, bad_none hbad, dsL_len]; omega)]
  rw [hR]
  have hmono := bval_mono (by omega) hdr
  have hlen := dsL_len s
  have hget := fun i => dsL_get (s := s) (i := i)
  generalize dsL s = D at *
  generalize hV : bval b D = V at *
  simp only [W1, W2, W3, popTo, memb, res, wres, env0, byteAt, optI, cutB, cutL, sliceR, strR, ldCells, ldR, iaR, faR, lenR, lenSR, ixR, exR, nchkR, mxR, csR, up, ZV.av, ZV.fit, zfits, fits, fitsL, cellsOf, down, downL, downLL, stR, mkR, bsR, boxR, alR, apR, cpR, srcQ, solid, killC, killV, killE, killO, killH, hget, hset, hdel, pubV, pubC, pubO, renV, renC, renO, reduceIte, reduceCtorEq, Nat.reduceEqDiff, Nat.reduceLT, Nat.reduceAdd, Int.reduceToNat, Nat.reduceLeDiff, Int.reducePow, Int.reduceLE, Int.reduceLT]
  refine cut_intro (fun st => (limbs V).length ≤ 2048 ∧ st = ⟨[(8, uL true (limbs V))], []⟩) ?_ ?_
  · simp only [W1, W2, W3, popTo, memb, res, wres, env0, byteAt, optI, cutB, cutL, sliceR, strR, ldCells, ldR, iaR, faR, lenR, lenSR, ixR, exR, nchkR, mxR, csR, up, ZV.av, ZV.fit, zfits, fits, fitsL, cellsOf, down, downL, downLL, stR, mkR, bsR, boxR, alR, apR, cpR, srcQ, solid, killC, killV, killE, killO, killH, hget, hset, hdel, pubV, pubC, pubO, renV, renC, renO, reduceIte, reduceCtorEq, Nat.reduceEqDiff, Nat.reduceLT, Nat.reduceAdd, Int.reduceToNat, Nat.reduceLeDiff, Int.reducePow, Int.reduceLE, Int.reduceLT]
    refine loop_introE (fun m st => ∃ (k : Nat), k ≤ s.size ∧ m = s.size - k ∧ (limbs (bval b (D.take k))).length ≤ 2048 ∧
      st = ⟨[(0, .str s), (1, .int .i64 b), (8, uL true (limbs (bval b (D.take k)))), (9, .int .i64 k)], []⟩) s.size
      (Ent.trans (Ent.nilro 8 true 1 (encI .u32) rfl) (Ent.of_env (env' := [(0, .str s), (1, .int .i64 b), (8, uL true []), (9, .int .i64 (0 : Nat))]) (by simp [eget, eset, uL])))
      ⟨0, by omega, by omega, by simp [bval, limbs_zero], by simp [bval, limbs_zero]⟩ ?_
    rintro m st ⟨k, hk, rfl, hb, rfl⟩
    simp only [uL, W1, W2, W3, popTo, memb, res, wres, env0, byteAt, optI, cutB, cutL, sliceR, strR, ldCells, ldR, iaR, faR, lenR, lenSR, ixR, exR, nchkR, mxR, csR, up, ZV.av, ZV.fit, zfits, fits, fitsL, cellsOf, down, downL, downLL, stR, mkR, bsR, boxR, alR, apR, cpR, srcQ, solid, killC, killV, killE, killO, killH, hget, hset, hdel, pubV, pubC, pubO, renV, renC, renO, reduceIte, reduceCtorEq, Nat.reduceEqDiff, Nat.reduceLT, Nat.reduceAdd, Int.reduceToNat, Nat.reduceLeDiff, Int.reducePow, Int.reduceLE, Int.reduceLT]
    refine fun _ => ⟨fun h4 => ?_, fun h4 => ?_⟩
    rotate_left
    · have hk2 : k = D.length := by omega
      rw [hk2, List.take_length, hV] at hb ⊢
      exact join_intro [(8, uL true (limbs V))] (by simp [eget, uL]) ⟨hb, rfl⟩
    have hg := hget k (by omega)
    have hvO : val (limbs (bval b (D.take k))) = bval b (D.take k) := limbs_val (hmono k).1
    obtain ⟨v1, v2⟩ := hmono (k + 1)
    have hw : bval b (D.take (k + 1)) = bval b (D.take k) * b + dval ((s.data.toList.getD k 0).toNat : Int) := by rw [take_step hg, bval_snoc]
    obtain ⟨d1, d2⟩ := hdr _ (List.mem_of_getElem? hg)
    rw [show b % 18446744073709551616 = b by omega]
    obtain ⟨fb1, fb2⟩ := fromL_val2 b ⟨by omega, by omega⟩
    obtain ⟨fd1, fd2⟩ := fromL_val2 (dval ((s.data.toList.getD k 0).toNat : Int)) ⟨by omega, by omega⟩
    generalize limbs (bval b (D.take k)) = O at *
    refine ⟨⟨?_, by omega, ?_⟩, by omega, ?_⟩
    all_goals
      refine call1 (sloperef1_From b) (by repeat (first | exact subs_nil | refine subs_int ?_ | refine subs_ro ?_ | refine subs_bool ?_ | refine subs_str ?_ | refine subs_nilro ?_ | refine subs_lits rfl ?_ | refine subs_all rfl rfl (by simp) ?_ | refine subs_own rfl rfl ?_ | refine subs_fn ?_)) ?_
      simp only [uL, W1, W2, W3, popTo, memb, res, wres, env0, byteAt, optI, cutB, cutL, sliceR, strR, ldCells, ldR, iaR, faR, lenR, lenSR, ixR, exR, nchkR, mxR, csR, up, ZV.av, ZV.fit, zfits, fits, fitsL, cellsOf, down, downL, downLL, stR, mkR, bsR, boxR, alR, apR, cpR, srcQ, solid, killC, killV, killE, killO, killH, hget, hset, hdel, pubV, pubC, pubO, renV, renC, renO, reduceIte, reduceCtorEq, Nat.reduceEqDiff, Nat.reduceLT, Nat.reduceAdd, Int.reduceToNat, Nat.reduceLeDiff, Int.reducePow, Int.reduceLE, Int.reduceLT]
    all_goals repeat' (first | omega | with_reducible refine And.intro ?_ ?_)
    all_goals
      refine callK0 (sloperef1_times true true O (fromL b) (by omega)) (by repeat (first | exact subs_nil | refine subs_int ?_ | refine subs_ro ?_ | refine subs_bool ?_ | refine subs_str ?_ | refine subs_nilro ?_ | refine subs_lits rfl ?_ | refine subs_all rfl rfl (by simp) ?_ | refine subs_own rfl rfl ?_ | refine subs_fn ?_)) fun r hr => ?_
      obtain ⟨zs, rfl, lz, zlen, zval⟩ := hr
      simp only [uL, W1, W2, W3, popTo, memb, res, wres, env0, byteAt, optI, cutB, cutL, sliceR, strR, ldCells, ldR, iaR, faR, lenR, lenSR, ixR, exR, nchkR, mxR, csR, up, ZV.av, ZV.fit, zfits, fits, fitsL, cellsOf, down, downL, downLL, stR, mkR, bsR, boxR, alR, apR, cpR, srcQ, solid, killC, killV, killE, killO, killH, hget, hset, hdel, pubV, pubC, pubO, renV, renC, renO, reduceIte, reduceCtorEq, Nat.reduceEqDiff, Nat.reduceLT, Nat.reduceAdd, Int.reduceToNat, Nat.reduceLeDiff, Int.reducePow, Int.reduceLE, Int.reduceLT]
    all_goals repeat' (first | omega | with_reducible refine And.intro ?_ ?_)
    all_goals
      refine call1 (sloperef1_Digit ((s.data.toList.getD k 0).toNat : Int)) (by repeat (first | exact subs_nil | refine subs_int ?_ | refine subs_ro ?_ | refine subs_bool ?_ | refine subs_str ?_ | refine subs_nilro ?_ | refine subs_lits rfl ?_ | refine subs_all rfl rfl (by simp) ?_ | refine subs_own rfl rfl ?_ | refine subs_fn ?_)) ?_
      simp only [uL, W1, W2, W3, popTo, memb, res, wres, env0, byteAt, optI, cutB, cutL, sliceR, strR, ldCells, ldR, iaR, faR, lenR, lenSR, ixR, exR, nchkR, mxR, csR, up, ZV.av, ZV.fit, zfits, fits, fitsL, cellsOf, down, downL, downLL, stR, mkR, bsR, boxR, alR, apR, cpR, srcQ, solid, killC, killV, killE, killO, killH, hget, hset, hdel, pubV, pubC, pubO, renV, renC, renO, reduceIte, reduceCtorEq, Nat.reduceEqDiff, Nat.reduceLT, Nat.reduceAdd, Int.reduceToNat, Nat.reduceLeDiff, Int.reducePow, Int.reduceLE, Int.reduceLT]
      generalize dval ((s.data.toList.getD k 0).toNat : Int) = d at *
      rw [show d % 18446744073709551616 = d by omega]
      refine call1 (sloperef1_From d) (by repeat (first | exact subs_nil | refine subs_int ?_ | refine subs_ro ?_ | refine subs_bool ?_ | refine subs_str ?_ | refine subs_nilro ?_ | refine subs_lits rfl ?_ | refine subs_all rfl rfl (by simp) ?_ | refine subs_own rfl rfl ?_ | refine subs_fn ?_)) ?_
      simp only [uL, W1, W2, W3, popTo, memb, res, wres, env0, byteAt, optI, cutB, cutL, sliceR, strR, ldCells, ldR, iaR, faR, lenR, lenSR, ixR, exR, nchkR, mxR, csR, up, ZV.av, ZV.fit, zfits, fits, fitsL, cellsOf, down, downL, downLL, stR, mkR, bsR, boxR, alR, apR, cpR, srcQ, solid, killC, killV, killE, killO, killH, hget, hset, hdel, pubV, pubC, pubO, renV, renC, renO, reduceIte, reduceCtorEq, Nat.reduceEqDiff, Nat.reduceLT, Nat.reduceAdd, Int.reduceToNat, Nat.reduceLeDiff, Int.reducePow, Int.reduceLE, Int.reduceLT]
      refine callK0 (sloperef1_plus true true zs (fromL d) (by omega) (by omega)) (by repeat (first | exact subs_nil | refine subs_int ?_ | refine subs_ro ?_ | refine subs_bool ?_ | refine subs_str ?_ | refine subs_nilro ?_ | refine subs_lits rfl ?_ | refine subs_all rfl rfl (by simp) ?_ | refine subs_own rfl rfl ?_ | refine subs_fn ?_)) fun r hr => ?_
      obtain ⟨ws, rfl, lw, wlen, wval⟩ := hr
      simp only [uL, W1, W2, W3, popTo, memb, res, wres, env0, byteAt, optI, cutB, cutL, sliceR, strR, ldCells, ldR, iaR, faR, lenR, lenSR, ixR, exR, nchkR, mxR, csR, up, ZV.av, ZV.fit, zfits, fits, fitsL, cellsOf, down, downL, downLL, stR, mkR, bsR, boxR, alR, apR, cpR, srcQ, solid, killC, killV, killE, killO, killH, hget, hset, hdel, pubV, pubC, pubO, renV, renC, renO, reduceIte, reduceCtorEq, Nat.reduceEqDiff, Nat.reduceLT, Nat.reduceAdd, Int.reduceToNat, Nat.reduceLeDiff, Int.reducePow, Int.reduceLE, Int.reduceLT]
      refine call1 (sloperef1_Trim true ws (by omega)) (by repeat (first | exact subs_nil | refine subs_int ?_ | refine subs_ro ?_ | refine subs_bool ?_ | refine subs_str ?_ | refine subs_nilro ?_ | refine subs_lits rfl ?_ | refine subs_all rfl rfl (by simp) ?_ | refine subs_own rfl rfl ?_ | refine subs_fn ?_)) ?_
      rw [trimL_limbs lw, show val ws = bval b (D.take (k + 1)) by rw [wval, zval, hvO, fb2, fd2, hw]]
      simp only [uL, W1, W2, W3, popTo, memb, res, wres, env0, byteAt, optI, cutB, cutL, sliceR, strR, ldCells, ldR, iaR, faR, lenR, lenSR, ixR, exR, nchkR, mxR, csR, up, ZV.av, ZV.fit, zfits, fits, fitsL, cellsOf, down, downL, downLL, stR, mkR, bsR, boxR, alR, apR, cpR, srcQ, solid, killC, killV, killE, killO, killH, hget, hset, hdel, pubV, pubC, pubO, renV, renC, renO, reduceIte, reduceCtorEq, Nat.reduceEqDiff, Nat.reduceLT, Nat.reduceAdd, Int.reduceToNat, Nat.reduceLeDiff, Int.reducePow, Int.reduceLE, Int.reduceLT]
      refine fun _ => ⟨fun h5 => ?_, fun h5 => ⟨by omega, back_intro [(0, .str s), (1, .int .i64 b), (8, uL true (limbs (bval b (D.take (k + 1))))), (9, .int .i64 ((k + 1 : Nat) : Int))] (by simp [eget, uL]) (by omega)
        ⟨k + 1, by omega, rfl, by omega, rfl⟩⟩⟩
      have hbig : ¬ (limbs V).length ≤ 2048 := fun hl => by have := limbs_mono v1 v2 hl; omega
      exact ret1' (by rw [fitL, fitE, if_neg hbig, if_neg hbig]; simp only [uL, retR, retA, retL, ret1, ret1L, eget, hget, hset, St.set, eset, List.map_cons, List.map_nil, reduceIte, reduceCtorEq, Nat.reduceEqDiff, Nat.reduceLT, true_and, and_true, false_or, or_true, true_or, List.drop_zero, List.take_length, scalE_I, scalE_B, scalE_S]; rfl)
  · rintro st ⟨hb, rfl⟩
    simp only [uL, W1, W2, W3, popTo, memb, res, wres, env0, byteAt, optI, cutB, cutL, sliceR, strR, ldCells, ldR, iaR, faR, lenR, lenSR, ixR, exR, nchkR, mxR, csR, up, ZV.av, ZV.fit, zfits, fits, fitsL, cellsOf, down, downL, downLL, stR, mkR, bsR, boxR, alR, apR, cpR, srcQ, solid, killC, killV, killE, killO, killH, hget, hset, hdel, pubV, pubC, pubO, renV, renC, renO, reduceIte, reduceCtorEq, Nat.reduceEqDiff, Nat.reduceLT, Nat.reduceAdd, Int.reduceToNat, Nat.reduceLeDiff, Int.reducePow, Int.reduceLE, Int.reduceLT]
    exact ret1' (by simp only [uL, fitL, fitE, if_pos hb, retR, retA, retL, ret1, ret1L, eget, hget, hset, St.set, eset, List.map_cons, List.map_nil, reduceIte, reduceCtorEq, Nat.reduceEqDiff, Nat.reduceLT, true_and, and_true, false_or, or_true, true_or, List.drop_zero, List.take_length, scalE_I, scalE_B, scalE_S])

end Go.Vc
