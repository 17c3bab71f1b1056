/-
  Lists of limbs: trim, May, From, Uint, same: what each hands back.
-/
import Derived.Test.YtdlddbclcmecjaaVc25
import Derived.Test.YtdlddbclcmecjaaProg
import Derived.KernelRfl
set_option linter.unusedVariables false
set_option linter.unusedSimpArgs false
namespace Go.Vc
open Go
open Go.Proofs

/- natural.trim: arguments 1, results in [2]; slots in use where its loops begin: [[0, 3]] -/
def c81 : MC := .seq (.ops [ .op (some 2) none (.p (.mv .nil)), .gh (.drop [2])]) (.seq (.ops [ .op (some 4) none (.p (.mv (.t 0))), .op (some 5) none (.p (.len (.t 4))), .op (some 3) none (.p (.mv (.t 5))), .gh (.drop [4, 5])]) (.seq (.block 0 (.loop (.seq (.seq (.ops [ .op (some 6) none (.p (.mv (.t 3))), .op (some 7) none (.p (.bin .gtr (.t 6) (.i .i64 (0)))), .op (some 8) none (.p (.mv (.t 7))), .op (some 9) (some (8, true)) (.p (.mv (.t 0))), .op (some 10) (some (8, true)) (.p (.mv (.t 3))), .op (some 11) (some (8, true)) (.p (.bin .sub (.t 10) (.i .i64 (1)))), .op (some 12) (some (8, true)) (.p (.ia 1 (.t 9) (.t 11))), .op (some 13) (some (8, true)) (.p (.ld 1 false (.t 12))), .op (some 14) (some (8, true)) (.p (.bin .eql (.t 13) (.i .u32 (0)))), .op (some 15) none (.pick (.t 8) (.t 14) (.b false)), .gh (.drop [6, 7, 8, 9, 10, 11, 12, 13, 14])]) (.cond (.t 15) (.skip) (.exit 0))) (.block 1 (.ops [ .op (some 16) none (.p (.mv (.t 3))), .op (some 17) none (.p (.bin .sub (.t 16) (.i .i64 (1)))), .op (some 3) none (.p (.mv (.t 17))), .gh (.drop [16, 17])]))))) (.seq (.seq (.ops [ .op (some 18) none (.p (.mv (.t 3))), .op (some 19) none (.p (.bin .eql (.t 18) (.i .i64 (0)))), .gh (.drop [18])]) (.cond (.t 19) (.seq (.ops [ .op (some 2) none (.p (.mv .nil))]) (.ret)) (.skip))) (.seq (.dr (.op 0 (.op (some 20) none (.p (.mv (.t 3)))) (.op 2 (.op (some 22) none (.p (.mv (.t 0)))) (.op 3 (.op (some 23) none (.p (.mv (.t 3)))) (.alt (.op 1 (.op (some 21) none (.w (.mk 99 1 4 [.int .u32] (encI .u32) (0 : Int) (.i .i64 (0)) (.t 20)))) (.op 4 (.op (some 24) none (.p (.sl 1 (.t 22) none (some (.t 23)) none))) (.op 5 (.op (some 25) none (.w (.ap 99 1 4 (encI .u32) (.t 21) (.t 24)))) (.op 6 (.op (some 2) none (.p (.mv (.t 25)))) (.nil))))) (.op 4 (.op (some 24) none (.p (.sl 1 (.t 22) none (some (.t 23)) none))) (.op 1 (.op (some 21) none (.w (.mk 99 1 4 [.int .u32] (encI .u32) (0 : Int) (.i .i64 (0)) (.t 20)))) (.op 5 (.op (some 25) none (.w (.ap 99 1 4 (encI .u32) (.t 21) (.t 24)))) (.op 6 (.op (some 2) none (.p (.mv (.t 25)))) (.nil)))))))))) (.gh (.drop [0, 3, 20, 21, 22, 23, 24, 25]) (.ret))))))
theorem k81 : chkF Try.prog 81 1 [2] c81 = true := by kernel_rfl

/- sloperef1.Trim: arguments 1, results in [2]; slots in use where its loops begin: [[0, 3], [0, 3, 4, 5]] -/
def c83 : MC := .seq (.ops [ .op (some 2) none (.p (.mv .nil)), .gh (.drop [2])]) (.seq (.ops [ .op (some 6) none (.p (.mv (.t 0))), .op (some 7) none (.p (.len (.t 6))), .op (some 3) none (.p (.mv (.t 7))), .gh (.drop [6, 7])]) (.seq (.cut (.block 0 (.loop (.seq (.seq (.ops [ .op (some 8) none (.p (.mv (.t 3))), .op (some 9) none (.p (.bin .gtr (.t 8) (.i .i64 (0)))), .op (some 10) none (.p (.mv (.t 9))), .op (some 11) (some (10, true)) (.p (.mv (.t 0))), .op (some 12) (some (10, true)) (.p (.mv (.t 3))), .op (some 13) (some (10, true)) (.p (.bin .sub (.t 12) (.i .i64 (1)))), .op (some 14) (some (10, true)) (.p (.ia 1 (.t 11) (.t 13))), .op (some 15) (some (10, true)) (.p (.ld 1 false (.t 14))), .op (some 16) (some (10, true)) (.p (.bin .eql (.t 15) (.i .u32 (0)))), .op (some 17) none (.pick (.t 10) (.t 16) (.b false)), .gh (.drop [8, 9, 10, 11, 12, 13, 14, 15, 16])]) (.cond (.t 17) (.skip) (.exit 0))) (.block 1 (.ops [ .op (some 18) none (.p (.mv (.t 3))), .op (some 19) none (.p (.bin .sub (.t 18) (.i .i64 (1)))), .op (some 3) none (.p (.mv (.t 19))), .gh (.drop [18, 19])])))))) (.seq (.ops [ .op (some 20) none (.p (.mv (.t 3))), .op (some 21) none (.w (.mk 99 1 4 [.int .u32] (encI .u32) (0 : Int) (.t 20) (.t 20))), .op (some 4) none (.p (.mv (.t 21))), .gh (.drop [20, 21])]) (.seq (.seq (.ops [ .op (some 5) none (.p (.mv (.i .i64 (0))))]) (.cut (.block 2 (.loop (.seq (.seq (.ops [ .op (some 22) none (.p (.mv (.t 5))), .op (some 23) none (.p (.mv (.t 3))), .op (some 24) none (.p (.bin .lss (.t 22) (.t 23))), .gh (.drop [22, 23])]) (.cond (.t 24) (.skip) (.exit 2))) (.seq (.block 3 (.ops [ .op (some 27) none (.p (.mv (.t 4))), .op (some 28) none (.p (.mv (.t 5))), .op (some 29) none (.p (.mv (.t 0))), .op (some 30) none (.p (.mv (.t 5))), .op (some 31) none (.p (.ia 1 (.t 29) (.t 30))), .op (some 32) none (.p (.ld 1 false (.t 31))), .op (some 33) none (.p (.ia 1 (.t 27) (.t 28))), .op none none (.w (.st 1 (.t 33) (.t 32))), .gh (.drop [27, 28, 29, 30, 31, 32, 33])])) (.ops [ .op (some 25) none (.p (.mv (.t 5))), .op (some 26) none (.p (.bin .add (.t 25) (.i .i64 (1)))), .op (some 5) none (.p (.mv (.t 26))), .gh (.drop [25, 26])]))))))) (.seq (.ops [ .op (some 34) none (.p (.mv (.t 4))), .op (some 2) none (.p (.mv (.t 34))), .gh (.drop [4, 34])]) (.ret))))))
theorem k83 : chkF Try.prog 83 1 [2] c83 = true := by kernel_rfl

/- natural.May: arguments 1, results in [2]; slots in use where its loops begin: [] -/
def c79 : MC := .seq (.ops [ .op (some 2) none (.p (.mv (.b false))), .gh (.drop [2])]) (.seq (.ops [ .op (some 3) none (.p (.mv (.t 0))), .op (some 4) none (.p (.len (.t 3))), .op (some 5) none (.p (.bin .leq (.t 4) (.i .i64 (2048)))), .op (some 6) none (.p (.mv (.t 5))), .op (some 7) (some (6, true)) (.p (.mv (.t 0))), .op (some 8) (some (6, true)) (.p (.len (.t 7))), .op (some 9) (some (6, true)) (.p (.bin .eql (.t 8) (.i .i64 (0)))), .op (some 10) (some (6, true)) (.p (.mv (.t 9))), .op (some 11) (some (10, false)) (.p (.mv (.t 0))), .op (some 12) (some (10, false)) (.p (.mv (.t 0))), .op (some 13) (some (10, false)) (.p (.len (.t 12))), .op (some 14) (some (10, false)) (.p (.bin .sub (.t 13) (.i .i64 (1)))), .op (some 15) (some (10, false)) (.p (.ia 1 (.t 11) (.t 14))), .op (some 16) (some (10, false)) (.p (.ld 1 false (.t 15))), .op (some 17) (some (10, false)) (.p (.bin .neq (.t 16) (.i .u32 (0)))), .op (some 18) (some (6, true)) (.pick (.t 10) (.b true) (.t 17)), .op (some 19) none (.pick (.t 6) (.t 18) (.b false)), .op (some 2) none (.p (.mv (.t 19))), .gh (.drop [0, 3, 4, 5, 6, 7, 8, 9, 10, 11, 12, 13, 14, 15, 16, 17, 18, 19])]) (.ret))
theorem k79 : chkF Try.prog 79 1 [2] c79 = true := by kernel_rfl

/- sloperef1.May: arguments 1, results in [2]; slots in use where its loops begin: [] -/
def c85 : MC := .seq (.ops [ .op (some 2) none (.p (.mv (.b false))), .gh (.drop [2])]) (.seq (.seq (.ops [ .op (some 3) none (.p (.mv (.t 0))), .op (some 4) none (.p (.len (.t 3))), .op (some 5) none (.p (.bin .gtr (.t 4) (.i .i64 (2048)))), .gh (.drop [3, 4])]) (.cond (.t 5) (.seq (.ops [ .op (some 2) none (.p (.mv (.b false)))]) (.ret)) (.skip))) (.seq (.ops [ .op (some 6) none (.p (.mv (.t 0))), .op (some 7) none (.p (.len (.t 6))), .op (some 8) none (.p (.bin .eql (.t 7) (.i .i64 (0)))), .op (some 9) none (.p (.mv (.t 8))), .op (some 10) (some (9, false)) (.p (.mv (.t 0))), .op (some 11) (some (9, false)) (.p (.mv (.t 0))), .op (some 12) (some (9, false)) (.p (.len (.t 11))), .op (some 13) (some (9, false)) (.p (.bin .sub (.t 12) (.i .i64 (1)))), .op (some 14) (some (9, false)) (.p (.ia 1 (.t 10) (.t 13))), .op (some 15) (some (9, false)) (.p (.ld 1 false (.t 14))), .op (some 16) (some (9, false)) (.p (.bin .neq (.t 15) (.i .u32 (0)))), .op (some 17) none (.pick (.t 9) (.b true) (.t 16)), .op (some 2) none (.p (.mv (.t 17))), .gh (.drop [0, 6, 7, 8, 9, 10, 11, 12, 13, 14, 15, 16, 17])]) (.ret)))
theorem k85 : chkF Try.prog 85 1 [2] c85 = true := by kernel_rfl

/- slopeplain.SameNat: arguments 2, results in [4]; slots in use where its loops begin: [[0, 1, 5]] -/
def c82 : MC := .seq (.ops [ .op (some 4) none (.p (.mv (.b false))), .gh (.drop [4])]) (.seq (.seq (.ops [ .op (some 6) none (.p (.mv (.t 0))), .op (some 7) none (.p (.len (.t 6))), .op (some 8) none (.p (.mv (.t 1))), .op (some 9) none (.p (.len (.t 8))), .op (some 10) none (.p (.bin .neq (.t 7) (.t 9))), .gh (.drop [6, 7, 8, 9])]) (.cond (.t 10) (.seq (.ops [ .op (some 4) none (.p (.mv (.b false)))]) (.ret)) (.skip))) (.seq (.seq (.ops [ .op (some 5) none (.p (.mv (.i .i64 (0))))]) (.cut (.block 0 (.loop (.seq (.seq (.ops [ .op (some 11) none (.p (.mv (.t 5))), .op (some 12) none (.p (.mv (.t 0))), .op (some 13) none (.p (.len (.t 12))), .op (some 14) none (.p (.bin .lss (.t 11) (.t 13))), .gh (.drop [11, 12, 13])]) (.cond (.t 14) (.skip) (.exit 0))) (.seq (.block 1 (.seq (.ops [ .op (some 17) none (.p (.mv (.t 0))), .op (some 18) none (.p (.mv (.t 5))), .op (some 19) none (.p (.ia 1 (.t 17) (.t 18))), .op (some 20) none (.p (.ld 1 false (.t 19))), .op (some 21) none (.p (.mv (.t 1))), .op (some 22) none (.p (.mv (.t 5))), .op (some 23) none (.p (.ia 1 (.t 21) (.t 22))), .op (some 24) none (.p (.ld 1 false (.t 23))), .op (some 25) none (.p (.bin .neq (.t 20) (.t 24)))]) (.gh (.drop [17, 18, 19, 20, 21, 22, 23, 24]) (.cond (.t 25) (.seq (.ops [ .op (some 4) none (.p (.mv (.b false)))]) (.ret)) (.skip))))) (.ops [ .op (some 15) none (.p (.mv (.t 5))), .op (some 16) none (.p (.bin .add (.t 15) (.i .i64 (1)))), .op (some 5) none (.p (.mv (.t 16))), .gh (.drop [15, 16])]))))))) (.seq (.ops [ .op (some 4) none (.p (.mv (.b true)))]) (.ret))))
theorem k82 : chkF Try.prog 82 2 [4] c82 = true := by kernel_rfl

/- slopelaw1.same: arguments 2, results in [4]; slots in use where its loops begin: [] -/
def c24 : MC := .seq (.ops [ .op (some 4) none (.p (.mv (.b false))), .gh (.drop [4])]) (.seq (.ops [ .op (some 5) none (.p (.mv (.t 0))), .op (some 6) none (.p (.mv (.t 1))), .op (some 7) none (.call 82 [(.t 5), (.t 6)]), .op (some 4) none (.p (.mv (.t 7))), .gh (.drop [0, 1, 5, 6, 7])]) (.ret))
theorem k24 : chkF Try.prog 24 2 [4] c24 = true := by kernel_rfl

/- slopelaw1.num: arguments 1, results in [2]; slots in use where its loops begin: [] -/
def c31 : MC := .seq (.ops [ .op (some 2) none (.p (.mv (.i .i64 (0)))), .gh (.drop [2])]) (.seq (.ops [ .op (some 3) none (.p (.mv (.t 0))), .op (some 2) none (.p (.mv (.t 3))), .gh (.drop [0, 3])]) (.ret))
theorem k31 : chkF Try.prog 31 1 [2] c31 = true := by kernel_rfl

/- natural.From: arguments 1, results in [2]; slots in use where its loops begin: [] -/
def c22 : MC := .seq (.ops [ .op (some 2) none (.p (.mv .nil)), .gh (.drop [2])]) (.seq (.ops [ .op (some 3) none (.p (.mv (.t 0))), .op (some 4) none (.p (.cv .u32 (.t 3))), .op (some 5) none (.p (.mv (.t 0))), .op (some 6) none (.p (.bin .shr (.t 5) (.i .u64 (32)))), .op (some 7) none (.p (.cv .u32 (.t 6))), .op (some 8) none (.w (.bs 99 1 [(.t 4), (.t 7)])), .op (some 9) none (.call 81 [(.t 8)]), .op (some 2) none (.p (.mv (.t 9))), .gh (.drop [0, 3, 4, 5, 6, 7, 8, 9])]) (.ret))
theorem k22 : chkF Try.prog 22 1 [2] c22 = true := by kernel_rfl

/- sloperef1.From: arguments 1, results in [2]; slots in use where its loops begin: [] -/
def c25 : MC := .seq (.ops [ .op (some 2) none (.p (.mv .nil)), .gh (.drop [2])]) (.seq (.ops [ .op (some 3) none (.p (.mv (.t 0))), .op (some 4) none (.p (.cv .u32 (.t 3))), .op (some 5) none (.p (.mv (.t 0))), .op (some 6) none (.p (.bin .shr (.t 5) (.i .u64 (32)))), .op (some 7) none (.p (.cv .u32 (.t 6))), .op (some 8) none (.w (.bs 99 1 [(.t 4), (.t 7)])), .op (some 9) none (.call 83 [(.t 8)]), .op (some 2) none (.p (.mv (.t 9))), .gh (.drop [0, 3, 4, 5, 6, 7, 8, 9])]) (.ret))
theorem k25 : chkF Try.prog 25 1 [2] c25 = true := by kernel_rfl

/- natural.Uint: arguments 1, results in [2, 3]; slots in use where its loops begin: [[0, 4, 5]] -/
def c23 : MC := .seq (.ops [ .op (some 2) none (.p (.mv (.i .u64 (0)))), .op (some 3) none (.p (.mv (.b false))), .gh (.drop [2, 3])]) (.seq (.seq (.ops [ .op (some 6) none (.p (.mv (.t 0))), .op (some 7) none (.call 79 [(.t 6)]), .op (some 8) none (.p (.un .not (.t 7))), .op (some 9) none (.p (.mv (.t 8))), .op (some 10) (some (9, false)) (.p (.mv (.t 0))), .op (some 11) (some (9, false)) (.p (.len (.t 10))), .op (some 12) (some (9, false)) (.p (.bin .gtr (.t 11) (.i .i64 (2)))), .op (some 13) none (.pick (.t 9) (.b true) (.t 12)), .gh (.drop [6, 7, 8, 9, 10, 11, 12])]) (.cond (.t 13) (.seq (.ops [ .op (some 2) none (.p (.mv (.i .u64 (0)))), .op (some 3) none (.p (.mv (.b false)))]) (.ret)) (.skip))) (.seq (.ops [ .op (some 4) none (.p (.mv (.i .u64 (0))))]) (.seq (.seq (.ops [ .op (some 14) none (.p (.mv (.t 0))), .op (some 15) none (.p (.len (.t 14))), .op (some 16) none (.p (.bin .sub (.t 15) (.i .i64 (1)))), .op (some 5) none (.p (.mv (.t 16))), .gh (.drop [14, 15, 16])]) (.block 0 (.loop (.seq (.seq (.ops [ .op (some 17) none (.p (.mv (.t 5))), .op (some 18) none (.p (.bin .geq (.t 17) (.i .i64 (0)))), .gh (.drop [17])]) (.cond (.t 18) (.skip) (.exit 0))) (.seq (.block 1 (.ops [ .op (some 21) none (.p (.mv (.t 4))), .op (some 22) none (.p (.bin .shl (.t 21) (.i .u64 (32)))), .op (some 23) none (.p (.mv (.t 0))), .op (some 24) none (.p (.mv (.t 5))), .op (some 25) none (.p (.ia 1 (.t 23) (.t 24))), .op (some 26) none (.p (.ld 1 false (.t 25))), .op (some 27) none (.p (.cv .u64 (.t 26))), .op (some 28) none (.p (.bin .or (.t 22) (.t 27))), .op (some 4) none (.p (.mv (.t 28))), .gh (.drop [21, 22, 23, 24, 25, 26, 27, 28])])) (.ops [ .op (some 19) none (.p (.mv (.t 5))), .op (some 20) none (.p (.bin .sub (.t 19) (.i .i64 (1)))), .op (some 5) none (.p (.mv (.t 20))), .gh (.drop [19, 20])])))))) (.seq (.ops [ .op (some 29) none (.p (.mv (.t 4))), .op (some 2) none (.p (.mv (.t 29))), .op (some 3) none (.p (.mv (.b true))), .gh (.drop [4, 29])]) (.ret)))))
theorem k23 : chkF Try.prog 23 1 [2, 3] c23 = true := by kernel_rfl



/-! ### plain -/
/-- without the zeros on top -/
def trimL (xs : List Int) : List Int := (xs.reverse.dropWhile (· == 0)).reverse

theorem trimL_take {xs : List Int} {n : Nat} (hn : n ≤ xs.length) (hz : ∀ x, x ∈ xs.drop n → x = 0) (ht : 0 < n → xs[n-1]? ≠ some 0) : trimL xs = xs.take n := by
  unfold trimL
  conv => lhs; rw [← List.take_append_drop n xs, List.reverse_append]
  have h1 : ∀ l : List Int, (∀ x, x ∈ l → x = 0) → ∀ m : List Int, (l ++ m).dropWhile (· == 0) = m.dropWhile (· == 0) := by
    intro l
    induction l with
    | nil => intro _ m; rfl
    | cons a t ih =>
      intro h m
      obtain rfl := h a (by simp)
      simp only [List.cons_append, List.dropWhile_cons, beq_self_eq_true, if_true]
      exact ih (fun x hx => h x (by simp [hx])) m
  rw [h1 _ (fun x hx => hz x (by simpa using hx))]
  cases n with
  | zero => simp
  | succ n =>
    have hlt : n < xs.length := by omega
    have e : xs.take (n + 1) = xs.take n ++ [xs[n]] := by rw [List.take_succ_eq_append_getElem hlt]
    have hne : xs[n] ≠ 0 := by
      intro e0
      exact ht (by omega) (by simp [List.getElem?_eq_getElem hlt, e0])
    rw [e, List.reverse_append]
    simp [List.dropWhile_cons, hne]

/-- may it be a natural? -/
def may (xs : List Int) : Prop := xs.length ≤ 2048 ∧ xs[xs.length - 1]? ≠ some 0
instance (xs : List Int) : Decidable (may xs) := inferInstanceAs (Decidable (_ ∧ _))

theorem take_step {α : Type} {xs : List α} {i : Nat} {e : α} (h : xs[i]? = some e) : xs.take (i + 1) = xs.take i ++ [e] := by
  obtain ⟨h1, rfl⟩ := get_of_some h
  exact List.take_succ_eq_append_getElem h1

theorem set_fill {xs : List Int} {n i : Nat} {e : Int} (h : xs[i]? = some e) (hi : i < n) : (xs.take i ++ List.replicate (n - i) 0).set i e = xs.take (i + 1) ++ List.replicate (n - (i + 1)) 0 := by
  obtain ⟨h1, _⟩ := get_of_some h
  have hl : (xs.take i).length = i := by rw [List.length_take]; omega
  rw [take_step h, List.set_append, if_neg (by omega), hl, Nat.sub_self, show n - i = (n - (i + 1)) + 1 by omega, List.replicate_succ, List.set_cons_zero, List.append_assoc, List.singleton_append]

theorem trimL_spec (xs : List Int) : ∃ n, n ≤ xs.length ∧ (∀ x, x ∈ xs.drop n → x = 0) ∧ (0 < n → xs[n-1]? ≠ some 0) ∧ trimL xs = xs.take n := by
  have key : ∀ n, n ≤ xs.length → (∀ x, x ∈ xs.drop n → x = 0) → ∃ n, n ≤ xs.length ∧ (∀ x, x ∈ xs.drop n → x = 0) ∧ (0 < n → xs[n-1]? ≠ some 0) := by
    intro n
    induction n with
    | zero => intro h1 h2; exact ⟨0, h1, h2, fun h => by omega⟩
    | succ n ih =>
      intro h1 h2
      by_cases h : xs[n]? = some 0
      · refine ih (by omega) fun x hx => ?_
        rw [List.drop_eq_getElem_cons (by omega)] at hx
        rcases List.mem_cons.1 hx with rfl | hx
        · exact (get_of_some h).2
        · exact h2 x hx
      · exact ⟨n + 1, h1, h2, fun _ => h⟩
  obtain ⟨n, h1, h2, h3⟩ := key xs.length (Nat.le_refl _) (by simp)
  exact ⟨n, h1, h2, h3, trimL_take h1 h2 h3⟩

theorem trimL_len (xs : List Int) : (trimL xs).length ≤ xs.length := by
  obtain ⟨n, h1, _, _, e⟩ := trimL_spec xs
  rw [e, List.length_take]; omega

theorem trimL_may {xs : List Int} (h : (trimL xs).length ≤ 2048) : may (trimL xs) := by
  obtain ⟨n, h1, h2, h3, e⟩ := trimL_spec xs
  refine ⟨h, ?_⟩
  rw [e, List.length_take, Nat.min_eq_left h1]
  cases n with
  | zero => simp
  | succ n =>
    rw [Nat.add_sub_cancel, List.getElem?_take, if_pos (by omega)]
    exact h3 (by omega)

/-! ### trim -/
theorem natural_trim (fr : Bool) (xs : List Int) (hb : xs.length * 4 ≤ 140737488355328) : FSpec0 Try.prog 81 [uL fr xs] (fun r => r = uL true (trimL xs)) := by
  refine fspec0_of_run k81 ?_
  simp only [uL, c81, W1, W2, W3, popTo, memb, res, wres, env0, byteAt, optI, cutB, cutL, sliceR, strR, ldCells, ldR, iaR, faR, lenR, lenSR, ixR, exR, nchkR, mxR, csR, up, ZV.av, ZV.fit, zfits, fits, fitsL, cellsOf, down, downL, downLL, stR, mkR, bsR, boxR, alR, apR, cpR, srcQ, solid, killC, killV, killE, killO, killH, hget, hset, hdel, pubV, pubC, pubO, renV, renC, renO, reduceIte, reduceCtorEq, Nat.reduceEqDiff, Nat.reduceLT, Nat.reduceAdd, Int.reduceToNat, Nat.reduceLeDiff, Int.reducePow, Int.reduceLE, Int.reduceLT]
  intro hlen
  refine loop_intro (fun n st => ∃ i : Nat, n = i ∧ i ≤ xs.length ∧ (∀ x, x ∈ xs.drop i → x = 0) ∧ st = ⟨[(0, .ro fr 1 (encI .u32) xs), (3, .int .i64 i)], []⟩) xs.length [(0, .ro fr 1 (encI .u32) xs), (3, .int .i64 xs.length)] (by simp [eget]) ⟨_, rfl, Nat.le_refl _, by simp, rfl⟩ ?_
  rintro n st ⟨i, rfl, hi, hz, rfl⟩
  simp only [W1, W2, W3, popTo, memb, res, wres, env0, byteAt, optI, cutB, cutL, sliceR, strR, ldCells, ldR, iaR, faR, lenR, lenSR, ixR, exR, nchkR, mxR, csR, up, ZV.av, ZV.fit, zfits, fits, fitsL, cellsOf, down, downL, downLL, stR, mkR, bsR, boxR, alR, apR, cpR, srcQ, solid, killC, killV, killE, killO, killH, hget, hset, hdel, pubV, pubC, pubO, renV, renC, renO, reduceIte, reduceCtorEq, Nat.reduceEqDiff, Nat.reduceLT, Nat.reduceAdd, Int.reduceToNat, Nat.reduceLeDiff, Int.reducePow, Int.reduceLE, Int.reduceLT]
  have hnil : (n : Int) = 0 → trimL xs = [] := fun h0 => by
    have h0 : n = 0 := by omega
    rw [trimL_take hi hz (fun h => by omega)]; simp [h0]
  refine ⟨fun h0 => ⟨by omega, by omega, fun e he => ⟨fun e0 => ⟨by omega, ?_⟩, fun e0 => ?_⟩⟩, fun h0 => ?_⟩
  · refine back_intro [(0, .ro fr 1 (encI .u32) xs), (3, .int .i64 ((n - 1 : Nat) : Int))] (by simp [eget]; omega) (by omega) ⟨n - 1, rfl, by omega, fun x hx => ?_, rfl⟩
    rw [show (↑n - 1 : Int).toNat = n - 1 by omega] at he
    rw [List.drop_eq_getElem_cons (by omega)] at hx
    rcases List.mem_cons.1 hx with rfl | hx
    · obtain ⟨_, h2⟩ := get_of_some he
      rw [h2, e0]
    · exact hz x (by rwa [show n - 1 + 1 = n by omega] at hx)
  · have hx : trimL xs = xs.take n := trimL_take hi hz (fun h => by
      rw [show (↑n - 1 : Int).toNat = n - 1 by omega] at he
      rw [he]; simpa using e0)
    refine ⟨fun hn => by omega, fun hn => ⟨⟨by omega, by omega, ?_⟩, by omega, by omega, ?_⟩⟩
    all_goals
      refine ⟨xs.take n, ⟨rfl, by rw [List.length_take]; omega⟩, ?_⟩
      refine ret0 (.ro true 1 (encI .u32) (xs.take n)) ?_ (by rw [hx])
      simp only [retR, retA, retL, ret1, ret1L, eget, hget, hset, St.set, eset, List.map_cons, List.map_nil, reduceIte, reduceCtorEq, Nat.reduceEqDiff, Nat.reduceLT, true_and, and_true, false_or, or_true, true_or, List.drop_zero, List.take_length, scalE_I, scalE_B, scalE_S]
  · refine ⟨fun hn => ret0 (.ro true 1 (encI .u32) []) (by simp only [retR, retA, retL, ret1, ret1L, eget, hget, hset, St.set, eset, List.map_cons, List.map_nil, reduceIte, reduceCtorEq, Nat.reduceEqDiff, Nat.reduceLT, true_and, and_true, false_or, or_true, true_or, List.drop_zero, List.take_length, scalE_I, scalE_B, scalE_S]; rfl) (by rw [hnil hn]), fun hn => by omega⟩

theorem sloperef1_Trim (fr : Bool) (xs : List Int) (hb : xs.length * 4 ≤ 140737488355328) : FSpec0 Try.prog 83 [uL fr xs] (fun r => r = uL true (trimL xs)) := by
  refine fspec0_of_run k83 ?_
  simp only [uL, c83, W1, W2, W3, popTo, memb, res, wres, env0, byteAt, optI, cutB, cutL, sliceR, strR, ldCells, ldR, iaR, faR, lenR, lenSR, ixR, exR, nchkR, mxR, csR, up, ZV.av, ZV.fit, zfits, fits, fitsL, cellsOf, down, downL, downLL, stR, mkR, bsR, boxR, alR, apR, cpR, srcQ, solid, killC, killV, killE, killO, killH, hget, hset, hdel, pubV, pubC, pubO, renV, renC, renO, reduceIte, reduceCtorEq, Nat.reduceEqDiff, Nat.reduceLT, Nat.reduceAdd, Int.reduceToNat, Nat.reduceLeDiff, Int.reducePow, Int.reduceLE, Int.reduceLT]
  intro hlen
  refine cut_intro (fun st => ∃ n : Nat, n ≤ xs.length ∧ trimL xs = xs.take n ∧ st = ⟨[(0, .ro fr 1 (encI .u32) xs), (3, .int .i64 n)], []⟩) ?_ ?_
  · simp only [W1, W2, W3, popTo, memb, res, wres, env0, byteAt, optI, cutB, cutL, sliceR, strR, ldCells, ldR, iaR, faR, lenR, lenSR, ixR, exR, nchkR, mxR, csR, up, ZV.av, ZV.fit, zfits, fits, fitsL, cellsOf, down, downL, downLL, stR, mkR, bsR, boxR, alR, apR, cpR, srcQ, solid, killC, killV, killE, killO, killH, hget, hset, hdel, pubV, pubC, pubO, renV, renC, renO, reduceIte, reduceCtorEq, Nat.reduceEqDiff, Nat.reduceLT, Nat.reduceAdd, Int.reduceToNat, Nat.reduceLeDiff, Int.reducePow, Int.reduceLE, Int.reduceLT]
    refine loop_intro (fun n st => ∃ i : Nat, n = i ∧ i ≤ xs.length ∧ (∀ x, x ∈ xs.drop i → x = 0) ∧ st = ⟨[(0, .ro fr 1 (encI .u32) xs), (3, .int .i64 i)], []⟩) xs.length [(0, .ro fr 1 (encI .u32) xs), (3, .int .i64 xs.length)] (by simp [eget]) ⟨_, rfl, Nat.le_refl _, by simp, rfl⟩ ?_
    rintro n st ⟨i, rfl, hi, hz, rfl⟩
    simp only [W1, W2, W3, popTo, memb, res, wres, env0, byteAt, optI, cutB, cutL, sliceR, strR, ldCells, ldR, iaR, faR, lenR, lenSR, ixR, exR, nchkR, mxR, csR, up, ZV.av, ZV.fit, zfits, fits, fitsL, cellsOf, down, downL, downLL, stR, mkR, bsR, boxR, alR, apR, cpR, srcQ, solid, killC, killV, killE, killO, killH, hget, hset, hdel, pubV, pubC, pubO, renV, renC, renO, reduceIte, reduceCtorEq, Nat.reduceEqDiff, Nat.reduceLT, Nat.reduceAdd, Int.reduceToNat, Nat.reduceLeDiff, Int.reducePow, Int.reduceLE, Int.reduceLT]
    refine ⟨fun h0 => ⟨by omega, by omega, fun e he => ⟨fun e0 => ⟨by omega, ?_⟩, fun e0 => ?_⟩⟩, fun h0 => ?_⟩
    · refine back_intro [(0, .ro fr 1 (encI .u32) xs), (3, .int .i64 ((n - 1 : Nat) : Int))] (by simp [eget]; omega) (by omega) ⟨n - 1, rfl, by omega, fun x hx => ?_, rfl⟩
      rw [show (↑n - 1 : Int).toNat = n - 1 by omega] at he
      rw [List.drop_eq_getElem_cons (by omega)] at hx
      rcases List.mem_cons.1 hx with rfl | hx
      · obtain ⟨_, h2⟩ := get_of_some he
        rw [h2, e0]
      · exact hz x (by rwa [show n - 1 + 1 = n by omega] at hx)
    · refine join_intro [(0, .ro fr 1 (encI .u32) xs), (3, .int .i64 n)] (by simp [eget]) ⟨n, hi, trimL_take hi hz (fun h => ?_), rfl⟩
      rw [show (↑n - 1 : Int).toNat = n - 1 by omega] at he
      rw [he]; simpa using e0
    · refine join_intro [(0, .ro fr 1 (encI .u32) xs), (3, .int .i64 n)] (by simp [eget]) ⟨n, hi, trimL_take hi hz (fun h => by omega), rfl⟩
  · rintro st ⟨n, hn, ht, rfl⟩
    simp only [W1, W2, W3, popTo, memb, res, wres, env0, byteAt, optI, cutB, cutL, sliceR, strR, ldCells, ldR, iaR, faR, lenR, lenSR, ixR, exR, nchkR, mxR, csR, up, ZV.av, ZV.fit, zfits, fits, fitsL, cellsOf, down, downL, downLL, stR, mkR, bsR, boxR, alR, apR, cpR, srcQ, solid, killC, killV, killE, killO, killH, hget, hset, hdel, pubV, pubC, pubO, renV, renC, renO, reduceIte, reduceCtorEq, Nat.reduceEqDiff, Nat.reduceLT, Nat.reduceAdd, Int.reduceToNat, Nat.reduceLeDiff, Int.reducePow, Int.reduceLE, Int.reduceLT]
    refine ⟨by omega, ?_⟩
    refine cut_intro (fun st => st = ⟨[(4, .own 21 0 n true)], [(21, .arr 99 true true 1 (encI .u32) (xs.take n))]⟩) ?_ ?_
    · simp only [W1, W2, W3, popTo, memb, res, wres, env0, byteAt, optI, cutB, cutL, sliceR, strR, ldCells, ldR, iaR, faR, lenR, lenSR, ixR, exR, nchkR, mxR, csR, up, ZV.av, ZV.fit, zfits, fits, fitsL, cellsOf, down, downL, downLL, stR, mkR, bsR, boxR, alR, apR, cpR, srcQ, solid, killC, killV, killE, killO, killH, hget, hset, hdel, pubV, pubC, pubO, renV, renC, renO, reduceIte, reduceCtorEq, Nat.reduceEqDiff, Nat.reduceLT, Nat.reduceAdd, Int.reduceToNat, Nat.reduceLeDiff, Int.reducePow, Int.reduceLE, Int.reduceLT]
      refine loop_intro (fun m st => ∃ i : Nat, i ≤ n ∧ m = n - i ∧ st = ⟨[(0, .ro fr 1 (encI .u32) xs), (3, .int .i64 n), (4, .own 21 0 n true), (5, .int .i64 i)], [(21, .arr 99 true true 1 (encI .u32) (xs.take i ++ List.replicate (n - i) 0))]⟩) n
        [(0, .ro fr 1 (encI .u32) xs), (3, .int .i64 n), (4, .own 21 0 n true), (5, .int .i64 (0 : Nat))] (by simp [eget]) ⟨0, by omega, by omega, by simp⟩ ?_
      rintro m st ⟨i, hi, rfl, rfl⟩
      simp only [W1, W2, W3, popTo, memb, res, wres, env0, byteAt, optI, cutB, cutL, sliceR, strR, ldCells, ldR, iaR, faR, lenR, lenSR, ixR, exR, nchkR, mxR, csR, up, ZV.av, ZV.fit, zfits, fits, fitsL, cellsOf, down, downL, downLL, stR, mkR, bsR, boxR, alR, apR, cpR, srcQ, solid, killC, killV, killE, killO, killH, hget, hset, hdel, pubV, pubC, pubO, renV, renC, renO, reduceIte, reduceCtorEq, Nat.reduceEqDiff, Nat.reduceLT, Nat.reduceAdd, Int.reduceToNat, Nat.reduceLeDiff, Int.reducePow, Int.reduceLE, Int.reduceLT]
      refine ⟨fun h0 => ⟨by omega, fun e he => fun _ => ⟨by omega, by simp; omega, e, rfl, by omega, ?_⟩⟩, fun h0 => ?_⟩
      · rw [set_fill he (by omega)]
        refine back_intro [(0, .ro fr 1 (encI .u32) xs), (3, .int .i64 n), (4, .own 21 0 n true), (5, .int .i64 ((i + 1 : Nat) : Int))] (by simp [eget]) (by omega) ⟨i + 1, by omega, rfl, rfl⟩
      · obtain rfl : i = n := by omega
        rw [Nat.sub_self, List.replicate_zero, List.append_nil]
        exact join_intro [(4, .own 21 0 i true)] (by simp [eget]) rfl
    · rintro st rfl
      simp only [W1, W2, W3, popTo, memb, res, wres, env0, byteAt, optI, cutB, cutL, sliceR, strR, ldCells, ldR, iaR, faR, lenR, lenSR, ixR, exR, nchkR, mxR, csR, up, ZV.av, ZV.fit, zfits, fits, fitsL, cellsOf, down, downL, downLL, stR, mkR, bsR, boxR, alR, apR, cpR, srcQ, solid, killC, killV, killE, killO, killH, hget, hset, hdel, pubV, pubC, pubO, renV, renC, renO, reduceIte, reduceCtorEq, Nat.reduceEqDiff, Nat.reduceLT, Nat.reduceAdd, Int.reduceToNat, Nat.reduceLeDiff, Int.reducePow, Int.reduceLE, Int.reduceLT]
      exact ret0 (uL true (trimL xs)) (by rw [ht]; simp only [uL, retR, retA, retL, ret1, ret1L, eget, hget, hset, St.set, eset, List.map_cons, List.map_nil, reduceIte, reduceCtorEq, Nat.reduceEqDiff, Nat.reduceLT, true_and, and_true, false_or, or_true, true_or, List.drop_zero, List.take_length, scalE_I, scalE_B, scalE_S]; rw [List.take_of_length_le (show (List.take n xs).length ≤ n by rw [List.length_take]; omega)]) rfl

theorem natural_May (fr : Bool) (xs : List Int) : FSpec0 Try.prog 79 [uL fr xs] (fun r => r = .bool (decide (may xs))) := by
  refine fspec0_of_run k79 ?_
  simp only [uL, c79, W1, W2, W3, popTo, memb, res, wres, env0, byteAt, optI, cutB, cutL, sliceR, strR, ldCells, ldR, iaR, faR, lenR, lenSR, ixR, exR, nchkR, mxR, csR, up, ZV.av, ZV.fit, zfits, fits, fitsL, cellsOf, down, downL, downLL, stR, mkR, bsR, boxR, alR, apR, cpR, srcQ, solid, killC, killV, killE, killO, killH, hget, hset, hdel, pubV, pubC, pubO, renV, renC, renO, reduceIte, reduceCtorEq, Nat.reduceEqDiff, Nat.reduceLT, Nat.reduceAdd, Int.reduceToNat, Nat.reduceLeDiff, Int.reducePow, Int.reduceLE, Int.reduceLT]
  intro hlen
  have key : ∀ b : Prop, [Decidable b] → (b ↔ may xs) → AV.bool (decide b) = AV.bool (decide (may xs)) := fun b _ h => by congr 1; simp [h]
  refine ⟨fun h1 => fun _ => ⟨fun h2 => ?_, fun h2 => fun _ => ⟨by omega, by omega, fun e he => ?_⟩⟩, fun h1 => ?_⟩
  · refine ret0 (.bool true) (by simp only [retR, retA, retL, ret1, ret1L, eget, hget, hset, St.set, eset, List.map_cons, List.map_nil, reduceIte, reduceCtorEq, Nat.reduceEqDiff, Nat.reduceLT, true_and, and_true, false_or, or_true, true_or, List.drop_zero, List.take_length, scalE_I, scalE_B, scalE_S]) ?_
    have : xs = [] := List.eq_nil_of_length_eq_zero (by omega)
    subst this; simp [may]
  · rw [show (↑xs.length - 1 : Int).toNat = xs.length - 1 by omega] at he
    refine ret0 (.bool (decide ¬ e = 0)) (by simp only [retR, retA, retL, ret1, ret1L, eget, hget, hset, St.set, eset, List.map_cons, List.map_nil, reduceIte, reduceCtorEq, Nat.reduceEqDiff, Nat.reduceLT, true_and, and_true, false_or, or_true, true_or, List.drop_zero, List.take_length, scalE_I, scalE_B, scalE_S]) (key _ ?_)
    unfold may
    rw [he]; simp; omega
  · refine ret0 (.bool false) (by simp only [retR, retA, retL, ret1, ret1L, eget, hget, hset, St.set, eset, List.map_cons, List.map_nil, reduceIte, reduceCtorEq, Nat.reduceEqDiff, Nat.reduceLT, true_and, and_true, false_or, or_true, true_or, List.drop_zero, List.take_length, scalE_I, scalE_B, scalE_S]) ?_
    have : ¬ may xs := fun h => h1 (by have := h.1; omega)
    simp [this]

theorem sloperef1_May (fr : Bool) (xs : List Int) : FSpec0 Try.prog 85 [uL fr xs] (fun r => r = .bool (decide (may xs))) := by
  refine fspec0_of_run k85 ?_
  simp only [uL, c85, W1, W2, W3, popTo, memb, res, wres, env0, byteAt, optI, cutB, cutL, sliceR, strR, ldCells, ldR, iaR, faR, lenR, lenSR, ixR, exR, nchkR, mxR, csR, up, ZV.av, ZV.fit, zfits, fits, fitsL, cellsOf, down, downL, downLL, stR, mkR, bsR, boxR, alR, apR, cpR, srcQ, solid, killC, killV, killE, killO, killH, hget, hset, hdel, pubV, pubC, pubO, renV, renC, renO, reduceIte, reduceCtorEq, Nat.reduceEqDiff, Nat.reduceLT, Nat.reduceAdd, Int.reduceToNat, Nat.reduceLeDiff, Int.reducePow, Int.reduceLE, Int.reduceLT]
  intro hlen
  have key : ∀ b : Prop, [Decidable b] → (b ↔ may xs) → AV.bool (decide b) = AV.bool (decide (may xs)) := fun b _ h => by congr 1; simp [h]
  refine ⟨fun h1 => ?_, fun h1 => fun _ => ⟨fun h2 => ?_, fun h2 => fun _ => ⟨by omega, by omega, fun e he => ?_⟩⟩⟩
  · refine ret0 (.bool false) (by simp only [retR, retA, retL, ret1, ret1L, eget, hget, hset, St.set, eset, List.map_cons, List.map_nil, reduceIte, reduceCtorEq, Nat.reduceEqDiff, Nat.reduceLT, true_and, and_true, false_or, or_true, true_or, List.drop_zero, List.take_length, scalE_I, scalE_B, scalE_S]) ?_
    have : ¬ may xs := fun h => by have := h.1; omega
    simp [this]
  · refine ret0 (.bool true) (by simp only [retR, retA, retL, ret1, ret1L, eget, hget, hset, St.set, eset, List.map_cons, List.map_nil, reduceIte, reduceCtorEq, Nat.reduceEqDiff, Nat.reduceLT, true_and, and_true, false_or, or_true, true_or, List.drop_zero, List.take_length, scalE_I, scalE_B, scalE_S]) ?_
    have : xs = [] := List.eq_nil_of_length_eq_zero (by omega)
    subst this; simp [may]
  · rw [show (↑xs.length - 1 : Int).toNat = xs.length - 1 by omega] at he
    refine ret0 (.bool (decide ¬ e = 0)) (by simp only [retR, retA, retL, ret1, ret1L, eget, hget, hset, St.set, eset, List.map_cons, List.map_nil, reduceIte, reduceCtorEq, Nat.reduceEqDiff, Nat.reduceLT, true_and, and_true, false_or, or_true, true_or, List.drop_zero, List.take_length, scalE_I, scalE_B, scalE_S]) (key _ ?_)
    unfold may
    rw [he]; simp; omega

theorem slopeplain_SameNat (fr fr' : Bool) (xs ys : List Int) : FSpec0 Try.prog 82 [uL fr xs, uL fr' ys] (fun r => r = .bool (decide (xs = ys))) := by
  refine fspec0_of_run k82 ?_
  simp only [uL, c82, W1, W2, W3, popTo, memb, res, wres, env0, byteAt, optI, cutB, cutL, sliceR, strR, ldCells, ldR, iaR, faR, lenR, lenSR, ixR, exR, nchkR, mxR, csR, up, ZV.av, ZV.fit, zfits, fits, fitsL, cellsOf, down, downL, downLL, stR, mkR, bsR, boxR, alR, apR, cpR, srcQ, solid, killC, killV, killE, killO, killH, hget, hset, hdel, pubV, pubC, pubO, renV, renC, renO, reduceIte, reduceCtorEq, Nat.reduceEqDiff, Nat.reduceLT, Nat.reduceAdd, Int.reduceToNat, Nat.reduceLeDiff, Int.reducePow, Int.reduceLE, Int.reduceLT]
  intro hlx hly
  refine ⟨fun h1 => ?_, fun h1 => ?_⟩
  · refine ret0 (.bool false) (by simp only [retR, retA, retL, ret1, ret1L, eget, hget, hset, St.set, eset, List.map_cons, List.map_nil, reduceIte, reduceCtorEq, Nat.reduceEqDiff, Nat.reduceLT, true_and, and_true, false_or, or_true, true_or, List.drop_zero, List.take_length, scalE_I, scalE_B, scalE_S]) ?_
    have : ¬ xs = ys := fun h => h1 (by rw [h])
    simp [this]
  have hl : xs.length = ys.length := by omega
  refine cut_intro (fun st => xs = ys ∧ st = ⟨[], []⟩) ?_ ?_
  · simp only [W1, W2, W3, popTo, memb, res, wres, env0, byteAt, optI, cutB, cutL, sliceR, strR, ldCells, ldR, iaR, faR, lenR, lenSR, ixR, exR, nchkR, mxR, csR, up, ZV.av, ZV.fit, zfits, fits, fitsL, cellsOf, down, downL, downLL, stR, mkR, bsR, boxR, alR, apR, cpR, srcQ, solid, killC, killV, killE, killO, killH, hget, hset, hdel, pubV, pubC, pubO, renV, renC, renO, reduceIte, reduceCtorEq, Nat.reduceEqDiff, Nat.reduceLT, Nat.reduceAdd, Int.reduceToNat, Nat.reduceLeDiff, Int.reducePow, Int.reduceLE, Int.reduceLT]
    refine loop_intro (fun m st => ∃ i : Nat, i ≤ xs.length ∧ m = xs.length - i ∧ xs.take i = ys.take i ∧ st = ⟨[(0, .ro fr 1 (encI .u32) xs), (1, .ro fr' 1 (encI .u32) ys), (5, .int .i64 i)], []⟩) xs.length
      [(0, .ro fr 1 (encI .u32) xs), (1, .ro fr' 1 (encI .u32) ys), (5, .int .i64 (0 : Nat))] (by simp [eget]) ⟨0, by omega, by omega, by simp, rfl⟩ ?_
    rintro m st ⟨i, hi, rfl, he, rfl⟩
    simp only [W1, W2, W3, popTo, memb, res, wres, env0, byteAt, optI, cutB, cutL, sliceR, strR, ldCells, ldR, iaR, faR, lenR, lenSR, ixR, exR, nchkR, mxR, csR, up, ZV.av, ZV.fit, zfits, fits, fitsL, cellsOf, down, downL, downLL, stR, mkR, bsR, boxR, alR, apR, cpR, srcQ, solid, killC, killV, killE, killO, killH, hget, hset, hdel, pubV, pubC, pubO, renV, renC, renO, reduceIte, reduceCtorEq, Nat.reduceEqDiff, Nat.reduceLT, Nat.reduceAdd, Int.reduceToNat, Nat.reduceLeDiff, Int.reducePow, Int.reduceLE, Int.reduceLT]
    intro _
    refine ⟨fun h0 => ⟨by omega, fun e hx => ⟨by omega, fun e' hy => ⟨fun hne => ?_, fun heq => ⟨by omega, ?_⟩⟩⟩⟩, fun h0 => ?_⟩
    · refine ret0 (.bool false) (by simp only [retR, retA, retL, ret1, ret1L, eget, hget, hset, St.set, eset, List.map_cons, List.map_nil, reduceIte, reduceCtorEq, Nat.reduceEqDiff, Nat.reduceLT, true_and, and_true, false_or, or_true, true_or, List.drop_zero, List.take_length, scalE_I, scalE_B, scalE_S]) ?_
      have : ¬ xs = ys := fun h => hne (by subst h; rw [hx] at hy; simpa using hy)
      simp [this]
    · refine back_intro [(0, .ro fr 1 (encI .u32) xs), (1, .ro fr' 1 (encI .u32) ys), (5, .int .i64 ((i + 1 : Nat) : Int))] (by simp [eget]) (by omega) ⟨i + 1, by omega, rfl, ?_, rfl⟩
      rw [take_step hx, take_step hy, he, Classical.not_not.1 heq]
    · refine join_intro [] (by simp) ⟨?_, rfl⟩
      rw [List.take_of_length_le (by omega), List.take_of_length_le (by omega)] at he
      exact he
  · rintro st ⟨rfl, rfl⟩
    simp only [W1, W2, W3, popTo, memb, res, wres, env0, byteAt, optI, cutB, cutL, sliceR, strR, ldCells, ldR, iaR, faR, lenR, lenSR, ixR, exR, nchkR, mxR, csR, up, ZV.av, ZV.fit, zfits, fits, fitsL, cellsOf, down, downL, downLL, stR, mkR, bsR, boxR, alR, apR, cpR, srcQ, solid, killC, killV, killE, killO, killH, hget, hset, hdel, pubV, pubC, pubO, renV, renC, renO, reduceIte, reduceCtorEq, Nat.reduceEqDiff, Nat.reduceLT, Nat.reduceAdd, Int.reduceToNat, Nat.reduceLeDiff, Int.reducePow, Int.reduceLE, Int.reduceLT]
    exact ret0 (.bool true) (by simp only [retR, retA, retL, ret1, ret1L, eget, hget, hset, St.set, eset, List.map_cons, List.map_nil, reduceIte, reduceCtorEq, Nat.reduceEqDiff, Nat.reduceLT, true_and, and_true, false_or, or_true, true_or, List.drop_zero, List.take_length, scalE_I, scalE_B, scalE_S]) (by simp)

theorem slopelaw1_same (fr fr' : Bool) (xs ys : List Int) : FSpec0 Try.prog 24 [uL fr xs, uL fr' ys] (fun r => r = .bool (decide (xs = ys))) := by
  refine fspec0_of_run k24 ?_
  simp only [uL, c24, W1, W2, W3, popTo, memb, res, wres, env0, byteAt, optI, cutB, cutL, sliceR, strR, ldCells, ldR, iaR, faR, lenR, lenSR, ixR, exR, nchkR, mxR, csR, up, ZV.av, ZV.fit, zfits, fits, fitsL, cellsOf, down, downL, downLL, stR, mkR, bsR, boxR, alR, apR, cpR, srcQ, solid, killC, killV, killE, killO, killH, hget, hset, hdel, pubV, pubC, pubO, renV, renC, renO, reduceIte, reduceCtorEq, Nat.reduceEqDiff, Nat.reduceLT, Nat.reduceAdd, Int.reduceToNat, Nat.reduceLeDiff, Int.reducePow, Int.reduceLE, Int.reduceLT]
  refine callK0 (slopeplain_SameNat fr fr' xs ys) (by simp only [uL, subs, subA, sub, subL, lends, lend, hget, true_and, and_true, reduceIte, reduceCtorEq, Nat.reduceEqDiff, imp_self, or_true, true_or, false_implies, Bool.false_eq_true, List.length_nil, List.map_cons, List.map_nil, encI_app, encB_app, encS_app, encR_app]) fun r hr => ?_
  subst hr
  simp only [W1, W2, W3, popTo, memb, res, wres, env0, byteAt, optI, cutB, cutL, sliceR, strR, ldCells, ldR, iaR, faR, lenR, lenSR, ixR, exR, nchkR, mxR, csR, up, ZV.av, ZV.fit, zfits, fits, fitsL, cellsOf, down, downL, downLL, stR, mkR, bsR, boxR, alR, apR, cpR, srcQ, solid, killC, killV, killE, killO, killH, hget, hset, hdel, pubV, pubC, pubO, renV, renC, renO, reduceIte, reduceCtorEq, Nat.reduceEqDiff, Nat.reduceLT, Nat.reduceAdd, Int.reduceToNat, Nat.reduceLeDiff, Int.reducePow, Int.reduceLE, Int.reduceLT]
  exact ret0 _ (by simp only [retR, retA, retL, ret1, ret1L, eget, hget, hset, St.set, eset, List.map_cons, List.map_nil, reduceIte, reduceCtorEq, Nat.reduceEqDiff, Nat.reduceLT, true_and, and_true, false_or, or_true, true_or, List.drop_zero, List.take_length, scalE_I, scalE_B, scalE_S]) rfl

theorem slopelaw1_num (n : Int) : FSpec0 Try.prog 31 [.int .i64 n] (fun r => r = .int .i64 n) := by
  refine fspec0_of_run k31 ?_
  simp only [c31, W1, W2, W3, popTo, memb, res, wres, env0, byteAt, optI, cutB, cutL, sliceR, strR, ldCells, ldR, iaR, faR, lenR, lenSR, ixR, exR, nchkR, mxR, csR, up, ZV.av, ZV.fit, zfits, fits, fitsL, cellsOf, down, downL, downLL, stR, mkR, bsR, boxR, alR, apR, cpR, srcQ, solid, killC, killV, killE, killO, killH, hget, hset, hdel, pubV, pubC, pubO, renV, renC, renO, reduceIte, reduceCtorEq, Nat.reduceEqDiff, Nat.reduceLT, Nat.reduceAdd, Int.reduceToNat, Nat.reduceLeDiff, Int.reducePow, Int.reduceLE, Int.reduceLT]
  exact ret0 (.int .i64 n) (by simp only [retR, retA, retL, ret1, ret1L, eget, hget, hset, St.set, eset, List.map_cons, List.map_nil, reduceIte, reduceCtorEq, Nat.reduceEqDiff, Nat.reduceLT, true_and, and_true, false_or, or_true, true_or, List.drop_zero, List.take_length, scalE_I, scalE_B, scalE_S]) rfl

/-! ### From, Uint -/
def fromL (v : Int) : List Int := trimL [v % 4294967296, v / 4294967296]

theorem natural_From (v : Int) : FSpec0 Try.prog 22 [.int .u64 v] (fun r => r = uL true (fromL v)) := by
  refine FSpec0.of_facts fun hf => fspec0_of_run k22 ?_
  have hv : inK .u64 v := hf.1
  simp only [c22, W1, W2, W3, popTo, memb, res, wres, env0, byteAt, optI, cutB, cutL, sliceR, strR, ldCells, ldR, iaR, faR, lenR, lenSR, ixR, exR, nchkR, mxR, csR, up, ZV.av, ZV.fit, zfits, fits, fitsL, cellsOf, down, downL, downLL, stR, mkR, bsR, boxR, alR, apR, cpR, srcQ, solid, killC, killV, killE, killO, killH, hget, hset, hdel, pubV, pubC, pubO, renV, renC, renO, reduceIte, reduceCtorEq, Nat.reduceEqDiff, Nat.reduceLT, Nat.reduceAdd, Int.reduceToNat, Nat.reduceLeDiff, Int.reducePow, Int.reduceLE, Int.reduceLT]
  intro _
  simp only [inK] at hv
  have e : v / 4294967296 % 4294967296 = v / 4294967296 := by omega
  refine callK0 (natural_trim true [v % 4294967296, v / 4294967296] (by simp)) (by simp only [uL, subs, subA, sub, subL, lends, lend, hget, true_and, and_true, reduceIte, reduceCtorEq, Nat.reduceEqDiff, imp_self, or_true, true_or, false_implies, Bool.false_eq_true, List.length_nil, List.map_cons, List.map_nil, encI_app, encB_app, encS_app, encR_app, e]) fun r hr => ?_
  subst hr
  simp only [W1, W2, W3, popTo, memb, res, wres, env0, byteAt, optI, cutB, cutL, sliceR, strR, ldCells, ldR, iaR, faR, lenR, lenSR, ixR, exR, nchkR, mxR, csR, up, ZV.av, ZV.fit, zfits, fits, fitsL, cellsOf, down, downL, downLL, stR, mkR, bsR, boxR, alR, apR, cpR, srcQ, solid, killC, killV, killE, killO, killH, hget, hset, hdel, pubV, pubC, pubO, renV, renC, renO, reduceIte, reduceCtorEq, Nat.reduceEqDiff, Nat.reduceLT, Nat.reduceAdd, Int.reduceToNat, Nat.reduceLeDiff, Int.reducePow, Int.reduceLE, Int.reduceLT]
  exact ret0 (uL true (fromL v)) (by simp only [uL, fromL, retR, retA, retL, ret1, ret1L, eget, hget, hset, St.set, eset, List.map_cons, List.map_nil, reduceIte, reduceCtorEq, Nat.reduceEqDiff, Nat.reduceLT, true_and, and_true, false_or, or_true, true_or, List.drop_zero, List.take_length, scalE_I, scalE_B, scalE_S]) rfl

theorem sloperef1_From (v : Int) : FSpec0 Try.prog 25 [.int .u64 v] (fun r => r = uL true (fromL v)) := by
  refine FSpec0.of_facts fun hf => fspec0_of_run k25 ?_
  have hv : inK .u64 v := hf.1
  simp only [c25, W1, W2, W3, popTo, memb, res, wres, env0, byteAt, optI, cutB, cutL, sliceR, strR, ldCells, ldR, iaR, faR, lenR, lenSR, ixR, exR, nchkR, mxR, csR, up, ZV.av, ZV.fit, zfits, fits, fitsL, cellsOf, down, downL, downLL, stR, mkR, bsR, boxR, alR, apR, cpR, srcQ, solid, killC, killV, killE, killO, killH, hget, hset, hdel, pubV, pubC, pubO, renV, renC, renO, reduceIte, reduceCtorEq, Nat.reduceEqDiff, Nat.reduceLT, Nat.reduceAdd, Int.reduceToNat, Nat.reduceLeDiff, Int.reducePow, Int.reduceLE, Int.reduceLT]
  intro _
  simp only [inK] at hv
  have e : v / 4294967296 % 4294967296 = v / 4294967296 := by omega
  refine callK0 (sloperef1_Trim true [v % 4294967296, v / 4294967296] (by simp)) (by simp only [uL, subs, subA, sub, subL, lends, lend, hget, true_and, and_true, reduceIte, reduceCtorEq, Nat.reduceEqDiff, imp_self, or_true, true_or, false_implies, Bool.false_eq_true, List.length_nil, List.map_cons, List.map_nil, encI_app, encB_app, encS_app, encR_app, e]) fun r hr => ?_
  subst hr
  simp only [W1, W2, W3, popTo, memb, res, wres, env0, byteAt, optI, cutB, cutL, sliceR, strR, ldCells, ldR, iaR, faR, lenR, lenSR, ixR, exR, nchkR, mxR, csR, up, ZV.av, ZV.fit, zfits, fits, fitsL, cellsOf, down, downL, downLL, stR, mkR, bsR, boxR, alR, apR, cpR, srcQ, solid, killC, killV, killE, killO, killH, hget, hset, hdel, pubV, pubC, pubO, renV, renC, renO, reduceIte, reduceCtorEq, Nat.reduceEqDiff, Nat.reduceLT, Nat.reduceAdd, Int.reduceToNat, Nat.reduceLeDiff, Int.reducePow, Int.reduceLE, Int.reduceLT]
  exact ret0 (uL true (fromL v)) (by simp only [uL, fromL, retR, retA, retL, ret1, ret1L, eget, hget, hset, St.set, eset, List.map_cons, List.map_nil, reduceIte, reduceCtorEq, Nat.reduceEqDiff, Nat.reduceLT, true_and, and_true, false_or, or_true, true_or, List.drop_zero, List.take_length, scalE_I, scalE_B, scalE_S]) rfl

def uintV (xs : List Int) : Int := xs.getD 0 0 + xs.getD 1 0 * 4294967296

/-- the limbs from place i on, as a number -/
def val : List Int → Int
  | [] => 0
  | x :: xs => x + 4294967296 * val xs

theorem lim.tail {x : Int} {xs : List Int} (h : lim (x :: xs)) : lim xs := fun y hy => h y (List.mem_cons_of_mem _ hy)
theorem lim.head {x : Int} {xs : List Int} (h : lim (x :: xs)) : 0 ≤ x ∧ x < 4294967296 := h x List.mem_cons_self
theorem lim.drop {xs : List Int} (h : lim xs) (n : Nat) : lim (xs.drop n) := fun y hy => h y (List.mem_of_mem_drop hy)
theorem lim.take {xs : List Int} (h : lim xs) (n : Nat) : lim (xs.take n) := fun y hy => h y (List.mem_of_mem_take hy)
theorem lim.get {xs : List Int} (h : lim xs) {i : Nat} {e : Int} (he : xs[i]? = some e) : 0 ≤ e ∧ e < 4294967296 := h e (List.mem_of_getElem? he)

theorem val_bound : ∀ {xs : List Int}, lim xs → 0 ≤ val xs ∧ val xs < 4294967296 ^ xs.length
  | [], _ => by simp [val]
  | x :: xs, h => by
    obtain ⟨h1, h2⟩ := val_bound h.tail
    have h3 := h.head
    simp only [val, List.length_cons, Int.pow_succ]
    refine ⟨by omega, ?_⟩
    generalize (4294967296 : Int) ^ xs.length = p at *
    omega

theorem val_drop {xs : List Int} {i : Nat} {e : Int} (h : xs[i]? = some e) : val (xs.drop i) = e + 4294967296 * val (xs.drop (i + 1)) := by
  obtain ⟨h1, rfl⟩ := get_of_some h
  rw [List.drop_eq_getElem_cons h1]; rfl

theorem val_zero : ∀ {xs : List Int}, (∀ x, x ∈ xs → x = 0) → val xs = 0
  | [], _ => rfl
  | x :: xs, h => by
    have h1 := h x List.mem_cons_self
    have h2 := val_zero fun y hy => h y (List.mem_cons_of_mem x hy)
    simp [val, h1, h2]

theorem val_append : ∀ (xs ys : List Int), val (xs ++ ys) = val xs + 4294967296 ^ xs.length * val ys
  | [], ys => by simp [val]
  | x :: xs, ys => by
    simp only [List.cons_append, val, val_append xs ys, List.length_cons, Int.pow_succ]
    rw [Int.mul_add, Int.add_assoc, ← Int.mul_assoc, Int.mul_comm (4294967296 ^ xs.length) 4294967296]

theorem val_trimL (xs : List Int) : val (trimL xs) = val xs := by
  obtain ⟨n, h1, h2, h3, e⟩ := trimL_spec xs
  conv => rhs; rw [← List.take_append_drop n xs, val_append, val_zero h2]
  rw [e]; simp

theorem trimL_lim {xs : List Int} (h : lim xs) : lim (trimL xs) := by
  obtain ⟨n, h1, h2, h3, e⟩ := trimL_spec xs
  rw [e]; exact h.take n

theorem or_add (a e : Int) (ha : 0 ≤ a) (h0 : 0 ≤ e) (he : e < 4294967296) : (((a * 4294967296).toNat ||| e.toNat : Nat) : Int) = e + 4294967296 * a := by
  obtain ⟨a, rfl⟩ := Int.eq_ofNat_of_zero_le ha
  obtain ⟨e, rfl⟩ := Int.eq_ofNat_of_zero_le h0
  have h1 : ((a : Int) * 4294967296).toNat = a <<< 32 := by rw [Nat.shiftLeft_eq]; omega
  have h2 : ((e : Int)).toNat = e := Int.toNat_natCast e
  rw [h1, h2, ← Nat.shiftLeft_add_eq_or_of_lt (by omega) a, Nat.shiftLeft_eq]
  omega

theorem natural_Uint (fr : Bool) (xs : List Int) : FSpec0 Try.prog 23 [uL fr xs] (fun r => r = if may xs ∧ xs.length ≤ 2 then .tup [.int .u64 (val xs), .bool true] else .tup [.int .u64 0, .bool false]) := by
  refine FSpec0.of_facts fun hf => fspec0_of_run k23 ?_
  have hl : lim xs := lim_of_factL hf.1
  simp only [uL, c23, W1, W2, W3, popTo, memb, res, wres, env0, byteAt, optI, cutB, cutL, sliceR, strR, ldCells, ldR, iaR, faR, lenR, lenSR, ixR, exR, nchkR, mxR, csR, up, ZV.av, ZV.fit, zfits, fits, fitsL, cellsOf, down, downL, downLL, stR, mkR, bsR, boxR, alR, apR, cpR, srcQ, solid, killC, killV, killE, killO, killH, hget, hset, hdel, pubV, pubC, pubO, renV, renC, renO, reduceIte, reduceCtorEq, Nat.reduceEqDiff, Nat.reduceLT, Nat.reduceAdd, Int.reduceToNat, Nat.reduceLeDiff, Int.reducePow, Int.reduceLE, Int.reduceLT]
  refine callK0 (natural_May fr xs) (by simp only [uL, subs, subA, sub, subL, lends, lend, hget, true_and, and_true, reduceIte, reduceCtorEq, Nat.reduceEqDiff, imp_self, or_true, true_or, false_implies, Bool.false_eq_true, List.length_nil, List.map_cons, List.map_nil, encI_app, encB_app, encS_app, encR_app]) fun r hr => ?_
  subst hr
  simp only [W1, W2, W3, popTo, memb, res, wres, env0, byteAt, optI, cutB, cutL, sliceR, strR, ldCells, ldR, iaR, faR, lenR, lenSR, ixR, exR, nchkR, mxR, csR, up, ZV.av, ZV.fit, zfits, fits, fitsL, cellsOf, down, downL, downLL, stR, mkR, bsR, boxR, alR, apR, cpR, srcQ, solid, killC, killV, killE, killO, killH, hget, hset, hdel, pubV, pubC, pubO, renV, renC, renO, reduceIte, reduceCtorEq, Nat.reduceEqDiff, Nat.reduceLT, Nat.reduceAdd, Int.reduceToNat, Nat.reduceLeDiff, Int.reducePow, Int.reduceLE, Int.reduceLT]
  have bad : ¬ (may xs ∧ xs.length ≤ 2) → ∀ env, eget env 2 = .int .u64 0 → eget env 3 = .bool false → Ret0 [2, 3] (fun r => r = if may xs ∧ xs.length ≤ 2 then .tup [.int .u64 (val xs), .bool true] else .tup [.int .u64 0, .bool false]) ⟨env, []⟩ := fun hn env h2 h3 =>
    ret0 (.tup [.int .u64 0, .bool false]) (by simp only [h2, h3, retR, retA, retL, ret1, ret1L, eget, hget, hset, St.set, eset, List.map_cons, List.map_nil, reduceIte, reduceCtorEq, Nat.reduceEqDiff, Nat.reduceLT, true_and, and_true, false_or, or_true, true_or, List.drop_zero, List.take_length, scalE_I, scalE_B, scalE_S]) (by rw [if_neg hn])
  refine ⟨fun hm => bad (fun h => hm h.1) _ rfl rfl, fun hm => fun _ => ⟨fun h2 => bad (fun h => by omega) _ rfl rfl, fun h2 => fun _ => ⟨by omega, ?_⟩⟩⟩
  have hm : may xs := Classical.not_not.1 hm
  refine loop_intro (fun m st => ∃ i : Nat, i ≤ xs.length ∧ m = i ∧ st = ⟨[(0, .ro fr 1 (encI .u32) xs), (4, .int .u64 (val (xs.drop i))), (5, .int .i64 ((i : Int) - 1))], []⟩) xs.length
    [(0, .ro fr 1 (encI .u32) xs), (4, .int .u64 0), (5, .int .i64 ((xs.length : Int) - 1))] (by simp [eget]) ⟨xs.length, by omega, rfl, by simp [val]⟩ ?_
  rintro m st ⟨i, hi, rfl, rfl⟩
  simp only [W1, W2, W3, popTo, memb, res, wres, env0, byteAt, optI, cutB, cutL, sliceR, strR, ldCells, ldR, iaR, faR, lenR, lenSR, ixR, exR, nchkR, mxR, csR, up, ZV.av, ZV.fit, zfits, fits, fitsL, cellsOf, down, downL, downLL, stR, mkR, bsR, boxR, alR, apR, cpR, srcQ, solid, killC, killV, killE, killO, killH, hget, hset, hdel, pubV, pubC, pubO, renV, renC, renO, reduceIte, reduceCtorEq, Nat.reduceEqDiff, Nat.reduceLT, Nat.reduceAdd, Int.reduceToNat, Nat.reduceLeDiff, Int.reducePow, Int.reduceLE, Int.reduceLT]
  refine ⟨fun h0 => ⟨by omega, fun e he => ?_⟩, fun h0 => ?_⟩
  · intro _ _
    have hb := val_bound (hl.drop m)
    have hlt : val (xs.drop m) < 4294967296 := by
      have : (xs.drop m).length ≤ 1 := by rw [List.length_drop]; omega
      generalize hq : (xs.drop m).length = q at *
      match q, this with
      | 0, _ => omega
      | 1, _ => omega
    have hle := hl.get he
    have e1 : val (xs.drop m) * 4294967296 % 18446744073709551616 = val (xs.drop m) * 4294967296 := by omega
    rw [e1, or_add _ _ hb.1 hle.1 hle.2]
    refine ⟨by omega, by omega, ?_⟩
    rw [show (↑m - 1 : Int).toNat = m - 1 by omega] at he
    refine back_intro [(0, .ro fr 1 (encI .u32) xs), (4, .int .u64 (val (xs.drop (m - 1)))), (5, .int .i64 (((m - 1 : Nat) : Int) - 1))] ?_ (by omega) ⟨m - 1, by omega, rfl, rfl⟩
    rw [val_drop he, show m - 1 + 1 = m by omega]
    simp [eget]; omega
  · obtain rfl : m = 0 := by omega
    refine ret0 (.tup [.int .u64 (val xs), .bool true]) (by simp only [retR, retA, retL, ret1, ret1L, eget, hget, hset, St.set, eset, List.map_cons, List.map_nil, reduceIte, reduceCtorEq, Nat.reduceEqDiff, Nat.reduceLT, true_and, and_true, false_or, or_true, true_or, List.drop_zero, List.take_length, scalE_I, scalE_B, scalE_S]) (by rw [if_pos ⟨hm, by omega⟩])

end Go.Vc
