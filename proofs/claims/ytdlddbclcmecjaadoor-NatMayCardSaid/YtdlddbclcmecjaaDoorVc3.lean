/-
  Vc3: the operations that leave the world alone do what their short forms say.
-/
import Derived.Test.YtdlddbclcmecjaaDoorVc2
set_option linter.unusedVariables false
set_option linter.unusedSimpArgs false
namespace Go.Vc
open Go

section
variable {P : Program} {B : Base} {st : St} {a : Act} {w : World} {ρ : Nat → Option (Nat × Nat)} {o : Oper} {K : AV → Prop}

def Yield (P : Program) (B : Base) (st : St) (a : Act) (w : World) (ρ : Nat → Option (Nat × Nat)) (o : Oper) (K : AV → Prop) : Prop :=
  ∃ v x, (execOp a.eval o).run P w = .ok (.value x) w ∧ RepV (ctxOf B st.hp w ρ) v x ∧ K v

/-- The same, whatever the world. -/
def YieldF (P : Program) (B : Base) (st : St) (a : Act) (w : World) (ρ : Nat → Option (Nat × Nat)) (o : Oper) (K : AV → Prop) : Prop :=
  ∃ v x, (∀ w', (execOp a.eval o).run P w' = .ok (.value x) w') ∧ RepV (ctxOf B st.hp w ρ) v x ∧ K v
theorem YieldF.yield (h : YieldF P B st a w ρ o K) : Yield P B st a w ρ o K := by
  obtain ⟨v, x, h1, h2, h3⟩ := h
  exact ⟨v, x, h1 w, h2, h3⟩

theorem eval_int (h : RepS B st a w ρ) {y : Operand} {x : X} (hc : chkX y x = true) {k : IntKind} {n : Int} (e : evX st x = .int k n) : a.eval y = .int k n ∧ inK k n := by
  have := chkX_ok h hc
  rw [e] at this
  exact this
theorem eval_bool (h : RepS B st a w ρ) {y : Operand} {x : X} (hc : chkX y x = true) {b : Bool} (e : evX st x = .bool b) : a.eval y = .bool b := by
  have := chkX_ok h hc
  rw [e] at this
  exact this
theorem eval_str (h : RepS B st a w ρ) {y : Operand} {x : X} (hc : chkX y x = true) {s : ByteArray} (e : evX st x = .str s) : a.eval y = .string s ∧ s.size ≤ 281474976710656 := by
  have := chkX_ok h hc
  rw [e] at this
  exact this

theorem pm_mv (h : RepS B st a w ρ) (x : X) (hc : chkPM P o (.mv x) = true) (hk : (res st (.mv x)).holds K) : Yield P B st a w ρ o K := by
  simp only [res, Res.holds, true_implies, true_and] at hk
  obtain ⟨dst, op, type, pos, after, guard⟩ := o
  cases op <;> simp only [chkPM, Bool.false_eq_true] at hc
  · exact ⟨_, _, rfl, chkX_ok h hc, hk⟩
  · exact ⟨_, _, rfl, chkX_ok h hc, hk⟩

theorem pm_nchkF (h : RepS B st a w ρ) (x : X) (hc : chkPM P o (.nchk x) = true) (hk : (res st (.nchk x)).holds K) : YieldF P B st a w ρ o K := by
  simp only [res] at hk
  obtain ⟨dst, op, type, pos, after, guard⟩ := o
  cases op <;> simp only [chkPM, Bool.false_eq_true] at hc
  rename_i y
  have hr := chkX_ok h hc
  generalize e : evX st x = v at hk hr
  cases v <;> simp only [nchkR, Res.holds, true_implies, true_and] at hk
  · obtain ⟨b, off, e1, h1, h2⟩ := hr
    refine ⟨_, .pointer (some ⟨b, off, none⟩), fun w' => ?_, show RepV _ (.rptr _ _) _ from ⟨b, off, rfl, h1, h2⟩, hk⟩
    simp [execOp, e1, pure, Sem.run]
  · obtain ⟨sz, n, g, cap, h1, h2, h3, h4, e1⟩ := hr
    refine ⟨_, _, fun w' => ?_, show RepV _ (.optr _ _ _) _ from ⟨sz, n, g, cap, h1, h2, h3, h4, rfl⟩, hk⟩
    simp [execOp, e1, pure, Sem.run]
  · obtain ⟨n, g, cap, h1, h2, e1⟩ := hr
    refine ⟨_, _, fun w' => ?_, show RepV _ (.bptr _ _) _ from ⟨n, g, cap, h1, h2, rfl⟩, hk⟩
    simp [execOp, e1, pure, Sem.run]

theorem pm_nchk (h : RepS B st a w ρ) (x : X) (hc : chkPM P o (.nchk x) = true) (hk : (res st (.nchk x)).holds K) : Yield P B st a w ρ o K := (pm_nchkF h x hc hk).yield

theorem repInt {c : Ctx} {k : IntKind} {n : Int} (h : inK k n) : RepV c (.int k n) (.int k n) := ⟨rfl, h⟩
theorem repBool {c : Ctx} (b : Bool) : RepV c (.bool b) (.bool b) := rfl

/-! numbers -/
theorem bits_eq (k : IntKind) : k.bits = bitW k := by cases k <;> rfl

theorem toNat_lt {k : IntKind} {n : Int} (h : inK k n) (h0 : 0 ≤ n) : n.toNat < 2 ^ k.bits := by
  cases k <;> simp only [inK] at h <;> simp only [IntKind.bits] <;> simp <;> omega

theorem ofInt_toNat {k : IntKind} {n : Int} (h : inK k n) (h0 : 0 ≤ n) : (BitVec.ofInt k.bits n).toNat = n.toNat := by
  have := toNat_lt h h0
  rw [BitVec.toNat_ofInt]
  have e : n % ((2 : Int) ^ k.bits) = n := Int.emod_eq_of_lt h0 (by
    have : (n.toNat : Int) < ((2 ^ k.bits : Nat) : Int) := by exact_mod_cast this
    rw [Int.toNat_of_nonneg h0] at this
    simpa using this)
  simp [e]

theorem wrap_small {k : IntKind} {x : Nat} {n : Int} (h : inK k n) (h0 : 0 ≤ n) (hx : (x : Int) ≤ topK k) : k.wrap (x : Int) = x := by
  apply wrap_of_inK
  cases k <;> simp only [topK] at hx <;> simp only [inK] <;> omega

theorem le_top {k : IntKind} {n : Int} (h : inK k n) : n ≤ topK k := by
  cases k <;> simp only [inK] at h <;> simp only [topK] <;> omega

theorem or_le {k : IntKind} {x y : Int} (hx : inK k x) (hy : inK k y) (x0 : 0 ≤ x) (y0 : 0 ≤ y) : ((x.toNat ||| y.toNat : Nat) : Int) ≤ topK k ∧ ((x.toNat ^^^ y.toNat : Nat) : Int) ≤ topK k := by
  obtain ⟨m, hm, ht⟩ : ∃ m, (∀ z : Int, inK k z → 0 ≤ z → z.toNat < 2 ^ m) ∧ topK k = ((2 ^ m - 1 : Nat) : Int) := by
    cases k
    · exact ⟨7, fun z hz h0 => by simp only [inK] at hz; simp; omega, by simp [topK]⟩
    · exact ⟨15, fun z hz h0 => by simp only [inK] at hz; simp; omega, by simp [topK]⟩
    · exact ⟨31, fun z hz h0 => by simp only [inK] at hz; simp; omega, by simp [topK]⟩
    · exact ⟨63, fun z hz h0 => by simp only [inK] at hz; simp; omega, by simp [topK]⟩
    · exact ⟨8, fun z hz h0 => by simp only [inK] at hz; simp; omega, by simp [topK]⟩
    · exact ⟨16, fun z hz h0 => by simp only [inK] at hz; simp; omega, by simp [topK]⟩
    · exact ⟨32, fun z hz h0 => by simp only [inK] at hz; simp; omega, by simp [topK]⟩
    · exact ⟨64, fun z hz h0 => by simp only [inK] at hz; simp; omega, by simp [topK]⟩
  have h1 := Nat.or_lt_two_pow (hm x hx x0) (hm y hy y0)
  have h2 := Nat.xor_lt_two_pow (hm x hx x0) (hm y hy y0)
  rw [ht]
  exact ⟨by omega, by omega⟩

theorem run_bits (op : BinOp) {k : IntKind} {x y : Int} (hx : inK k x) (hy : inK k y) (x0 : 0 ≤ x) (y0 : 0 ≤ y) (w : World) :
    (op = .and → (Op.intBits op k x y).run P w = .ok (.int k ((x.toNat &&& y.toNat : Nat) : Int)) w) ∧
    (op = .or → (Op.intBits op k x y).run P w = .ok (.int k ((x.toNat ||| y.toNat : Nat) : Int)) w) ∧
    (op = .xor → (Op.intBits op k x y).run P w = .ok (.int k ((x.toNat ^^^ y.toNat : Nat) : Int)) w) ∧
    (op = .andNot → (Op.intBits op k x y).run P w = .ok (.int k ((x.toNat ^^^ (x.toNat &&& y.toNat) : Nat) : Int)) w) := by
  have h1 := or_le hx hy x0 y0
  have h2 : ((x.toNat &&& y.toNat : Nat) : Int) ≤ topK k := by
    have := Nat.and_le_left (n := x.toNat) (m := y.toNat); have := le_top hx; omega
  have hxy : inK k ((x.toNat &&& y.toNat : Nat) : Int) := by
    have := Nat.and_le_left (n := x.toNat) (m := y.toNat)
    cases k <;> simp only [inK] at hx ⊢ <;> omega
  have h3 := (or_le hx hxy x0 (by omega)).2
  refine ⟨?_, ?_, ?_, ?_⟩ <;> rintro rfl <;> simp only [Op.intBits, pure, Sem.run]
  · rw [BitVec.toNat_and, ofInt_toNat hx x0, ofInt_toNat hy y0, wrap_small hx x0 h2]
  · rw [BitVec.toNat_or, ofInt_toNat hx x0, ofInt_toNat hy y0, wrap_small hx x0 h1.1]
  · rw [BitVec.toNat_xor, ofInt_toNat hx x0, ofInt_toNat hy y0, wrap_small hx x0 h1.2]
  · have e : (BitVec.ofInt k.bits x &&& ~~~ BitVec.ofInt k.bits y) = (BitVec.ofInt k.bits x ^^^ (BitVec.ofInt k.bits x &&& BitVec.ofInt k.bits y)) := by
      ext i hi
      simp only [BitVec.getElem_and, BitVec.getElem_not, BitVec.getElem_xor]
      cases (BitVec.ofInt k.bits x)[i] <;> cases (BitVec.ofInt k.bits y)[i] <;> rfl
    rw [e, BitVec.toNat_xor, BitVec.toNat_and, ofInt_toNat hx x0, ofInt_toNat hy y0, wrap_small hx x0 (by simpa using h3)]

theorem intR_ok {op : BinOp} {k : IntKind} {x y : Int} (hx : inK k x) (hy : inK k y) (w : World) (hk : (intR op k x y).holds K) :
    ∃ v x', (match op with
      | .add | .sub | .mul => Op.intArith op k x y
      | .quo | .rem => Op.intDiv op k x y
      | .and | .or | .xor | .andNot => Op.intBits op k x y
      | _ => Op.intCmp op x y).run P w = .ok x' w ∧ RepV (ctxOf B st.hp w ρ) v x' ∧ K v := by
  have hax : ∀ r, (arith k r).holds K → ∃ v x', (pure (.int k (k.wrap r)) : Sem Value).run P w = .ok x' w ∧ RepV (ctxOf B st.hp w ρ) v x' ∧ K v := fun r hr =>
    ⟨_, _, rfl, repInt (wrap_inK k r), arith_ok hr⟩
  cases op <;> simp only [intR, Res.holds] at hk
  case add => exact hax _ hk
  case sub => exact hax _ hk
  case mul => exact hax _ hk
  case quo =>
    obtain ⟨⟨x0, y0⟩, hK⟩ := hk ⟨hx, hy⟩
    have e : x.tdiv y = x / y := Int.tdiv_eq_ediv_of_nonneg x0
    have hin : inK k (x / y) := by
      have h1 : x / y ≤ x := Int.ediv_le_self _ x0
      have h2 : 0 ≤ x / y := Int.ediv_nonneg x0 (by omega)
      cases k <;> simp only [inK] at hx ⊢ <;> omega
    refine ⟨_, _, ?_, repInt hin, hK⟩
    simp only [Op.intDiv, if_neg (show ¬ y = 0 by omega), pure, Sem.run, e, wrap_of_inK hin]
  case rem =>
    obtain ⟨⟨x0, y0⟩, hK⟩ := hk ⟨hx, hy⟩
    have e : x.tmod y = x % y := Int.tmod_eq_emod_of_nonneg x0
    have hin : inK k (x % y) := by
      have h1 : x % y < y := Int.emod_lt_of_pos _ y0
      have h2 : 0 ≤ x % y := Int.emod_nonneg _ (by omega)
      cases k <;> simp only [inK] at hy ⊢ <;> omega
    refine ⟨_, _, ?_, repInt hin, hK⟩
    simp only [Op.intDiv, if_neg (show ¬ y = 0 by omega), pure, Sem.run, e]
  case and =>
    obtain ⟨⟨x0, y0⟩, hK⟩ := hk ⟨hx, hy⟩
    refine ⟨_, _, (run_bits .and hx hy x0 y0 w).1 rfl, repInt ?_, hK⟩
    have := Nat.and_le_left (n := x.toNat) (m := y.toNat)
    cases k <;> simp only [inK] at hx ⊢ <;> omega
  case or =>
    obtain ⟨⟨x0, y0⟩, hK⟩ := hk ⟨hx, hy⟩
    refine ⟨_, _, (run_bits .or hx hy x0 y0 w).2.1 rfl, repInt ?_, hK⟩
    have := (or_le hx hy x0 y0).1
    cases k <;> simp only [topK] at this <;> simp only [inK] <;> omega
  case xor =>
    obtain ⟨⟨x0, y0⟩, hK⟩ := hk ⟨hx, hy⟩
    refine ⟨_, _, (run_bits .xor hx hy x0 y0 w).2.2.1 rfl, repInt ?_, hK⟩
    have := (or_le hx hy x0 y0).2
    cases k <;> simp only [topK] at this <;> simp only [inK] <;> omega
  case andNot =>
    obtain ⟨⟨x0, y0⟩, hK⟩ := hk ⟨hx, hy⟩
    refine ⟨_, _, (run_bits .andNot hx hy x0 y0 w).2.2.2 rfl, repInt ?_, hK⟩
    have hxy : inK k ((x.toNat &&& y.toNat : Nat) : Int) := by
      have := Nat.and_le_left (n := x.toNat) (m := y.toNat)
      cases k <;> simp only [inK] at hx ⊢ <;> omega
    have := (or_le hx hxy x0 (by omega)).2
    simp only [Int.toNat_natCast] at this
    cases k <;> simp only [topK] at this <;> simp only [inK] <;> omega
  case eql => exact ⟨_, _, by simp only [Op.intCmp, pure, Sem.run]; rfl, repBool _, by
    have e : (x == y) = decide (x = y) := by by_cases h : x = y <;> simp [h]
    rw [e]; simpa using hk⟩
  case neq => exact ⟨_, _, by simp only [Op.intCmp, pure, Sem.run]; rfl, repBool _, by
    have e : (x != y) = decide (¬ x = y) := by by_cases h : x = y <;> simp [h]
    rw [e]; simpa using hk⟩
  case lss => exact ⟨_, _, by simp only [Op.intCmp, pure, Sem.run]; rfl, repBool _, by simpa using hk⟩
  case leq => exact ⟨_, _, by simp only [Op.intCmp, pure, Sem.run]; rfl, repBool _, by simpa using hk⟩
  case gtr => exact ⟨_, _, by simp only [Op.intCmp, pure, Sem.run]; rfl, repBool _, by simpa using hk⟩
  case geq => exact ⟨_, _, by simp only [Op.intCmp, pure, Sem.run]; rfl, repBool _, by simpa using hk⟩

theorem shR_ok {op : BinOp} {k yk : IntKind} {x y : Int} (hx : inK k x) (w : World) (hk : (shR op k x y).holds K) :
    ∃ v x', (Op.shift op k x yk y).run P w = .ok x' w ∧ RepV (ctxOf B st.hp w ρ) v x' ∧ K v := by
  cases op <;> simp only [shR, Res.holds] at hk
  case shl =>
    have key : 0 ≤ y ∧ y ≤ bitW k ∧ K (.int k (k.wrap (x * 2 ^ y.toNat))) := by
      generalize ha : arith k (x * 2 ^ y.toNat) = r at hk
      cases r with
      | val asm p v =>
        simp only [Res.holds] at hk
        have hasm : asm := by cases k <;> simp only [arith, Res.val.injEq] at ha <;> exact ha.1 ▸ trivial
        obtain ⟨⟨h1, h2, h3⟩, h4⟩ := hk hasm
        refine ⟨h1, h2, arith_ok (K := K) ?_⟩
        rw [ha]
        exact fun _ => ⟨h3, h4⟩
      | el asm p xs i f => cases k <;> simp [arith] at ha
      | bad => exact hk.elim
    obtain ⟨h0, h1, h2⟩ := key
    have e : min y.toNat k.bits = y.toNat := by rw [bits_eq]; omega
    refine ⟨_, _, ?_, repInt (wrap_inK k _), h2⟩
    simp only [Op.shift, if_neg (show ¬ y < 0 by omega), pure, Sem.run, e]
  case shr =>
    obtain ⟨h0, h2⟩ := hk hx
    have hp : (0 : Int) < 2 ^ (min y.toNat (bitW k)) := Int.pow_pos (by decide)
    have e : x.fdiv (2 ^ (min y.toNat (bitW k))) = x / 2 ^ (min y.toNat (bitW k)) := Int.fdiv_eq_ediv_of_nonneg x (by omega)
    have hin : inK k (x / 2 ^ (min y.toNat (bitW k))) := by
      have hq : (1 : Int) ≤ 2 ^ (min y.toNat (bitW k)) := by omega
      generalize (2 : Int) ^ (min y.toNat (bitW k)) = q at hp hq
      have : x / q ≤ max x 0 ∧ min x 0 ≤ x / q := by
        rcases Int.le_total 0 x with hx0 | hx0
        · have := Int.ediv_le_self q hx0; have := Int.ediv_nonneg hx0 (show 0 ≤ q by omega); omega
        · have h1 : x / q ≤ 0 := Int.ediv_nonpos_of_nonpos_of_neg hx0 (by omega)
          have h2 : x ≤ x / q := by
            rw [Int.le_ediv_iff_mul_le hp]
            have := Int.mul_le_mul_of_nonpos_left (a := x) hx0 hq
            omega
          omega
      cases k <;> simp only [inK] at hx ⊢ <;> omega
    refine ⟨_, _, ?_, repInt hin, h2⟩
    simp only [Op.shift, if_neg (show ¬ y < 0 by omega), pure, Sem.run, bits_eq, e]

theorem guard_int (op : BinOp) (t : TypeId) (x y : Operand) (k k' : IntKind) (p q : Int) (w : World) : (eqGuard op t x y (.int k p) (.int k' q)).run P w = .ok () w := by
  cases op <;> simp [eqGuard, pure, Sem.run]
theorem guard_bool (op : BinOp) (t : TypeId) (x y : Operand) (p q : Bool) (w : World) : (eqGuard op t x y (.bool p) (.bool q)).run P w = .ok () w := by
  cases op <;> simp [eqGuard, pure, Sem.run]
theorem guard_str (op : BinOp) (t : TypeId) (x y : Operand) (p q : ByteArray) (w : World) : (eqGuard op t x y (.string p) (.string q)).run P w = .ok () w := by
  cases op <;> simp [eqGuard, pure, Sem.run]

theorem run_bin {op : BinOp} {t ty : TypeId} {x y : Operand} {r : Value} {dst type pos after guard} (h1 : (eqGuard op t x y (a.eval x) (a.eval y)).run P w = .ok () w) (h2 : (binOp op t (a.eval x) (a.eval y)).run P w = .ok r w) :
    (execOp a.eval ⟨dst, .binOp op t x y ty, type, pos, after, guard⟩).run P w = .ok (.value r) w := by
  simp only [execOp]
  simp [h1, h2, Result.andThen, pure, Sem.run]

theorem toList_inj' {s t : ByteArray} (h : s.toList = t.toList) : s = t := by
  have e : ∀ s : ByteArray, s.toList = s.data.toList := fun s => ByteArray.toList_eq s
  rw [e, e] at h
  cases s; cases t
  simp only [ByteArray.mk.injEq]
  exact Array.toList_inj.1 h
theorem toList_inj {s t : ByteArray} (h : s.toList = t.toList) : s = t := by
  exact Go.Vc.toList_inj' h

theorem pm_bin (h : RepS B st a w ρ) (op : BinOp) (x y : X) (hc : chkPM P o (.bin op x y) = true) (hk : (res st (.bin op x y)).holds K) : Yield P B st a w ρ o K := by
  simp only [res] at hk
  obtain ⟨dst, op', type, pos, after, guard⟩ := o
  cases op' <;> simp only [chkPM, Bool.false_eq_true] at hc
  rename_i op2 t x' y' ty
  simp only [Bool.and_eq_true, beq_iff_eq] at hc
  obtain ⟨⟨rfl, hx⟩, hy⟩ := hc
  generalize ex : evX st x = vx at hk
  generalize ey : evX st y = vy at hk
  cases vx <;> (try simp only [binR] at hk) <;> (try exact False.elim hk)
  case int k p =>
    cases vy <;> (try simp only [binR] at hk) <;> (try exact False.elim hk)
    rename_i k' q
    obtain ⟨e1, i1⟩ := eval_int h hx ex
    obtain ⟨e2, i2⟩ := eval_int h hy ey
    have key : ∃ v x', (binOp op t (.int k p) (.int k' q)).run P w = .ok x' w ∧ RepV (ctxOf B st.hp w ρ) v x' ∧ K v := by
      cases op
      case shl => exact shR_ok (yk := k') i1 w hk
      case shr => exact shR_ok (yk := k') i1 w hk
      all_goals
        by_cases hkk : k = k'
        · subst hkk
          rw [if_pos rfl] at hk
          have := intR_ok (P := P) (B := B) (st := st) (ρ := ρ) i1 i2 w hk
          simpa [binOp] using this
        · rw [if_neg hkk] at hk
          exact hk.elim
    obtain ⟨v, x1, hr, hv, hK⟩ := key
    exact ⟨v, x1, run_bin (by rw [e1, e2]; exact guard_int ..) (by rw [e1, e2]; exact hr), hv, hK⟩
  case str s =>
    cases vy <;> (try simp only [binR] at hk) <;> (try exact False.elim hk)
    rename_i s'
    obtain ⟨e1, i1⟩ := eval_str h hx ex
    obtain ⟨e2, i2⟩ := eval_str h hy ey
    have hb : (s.toList == s'.toList) = decide (s = s') := by
      by_cases e : s = s'
      · simp [e]
      · simp only [e, decide_false, beq_eq_false_iff_ne]; exact fun hh => e (toList_inj hh)
    cases op <;> simp only [Res.holds, true_implies, true_and] at hk
    case add =>
      obtain ⟨h1, h2⟩ := hk ⟨i1, i2⟩
      refine ⟨_, .string (s ++ s'), run_bin (by rw [e1, e2]; exact guard_str ..) ?_, show RepV _ (.str _) _ from ⟨rfl, by simpa using h1⟩, h2⟩
      rw [e1, e2]
      simp only [binOp, Op.stringOp, IntKind.max, IntKind.signed, IntKind.bits]
      rw [if_neg (by simp; omega)]
      rfl
    case eql =>
      refine ⟨_, .bool (decide (s = s')), run_bin (by rw [e1, e2]; exact guard_str ..) ?_, repBool _, hk⟩
      rw [e1, e2]
      simp only [binOp, Op.stringOp, pure, Sem.run, hb]
    case neq =>
      refine ⟨_, .bool (!decide (s = s')), run_bin (by rw [e1, e2]; exact guard_str ..) ?_, repBool _, by simpa using hk⟩
      rw [e1, e2]
      simp only [binOp, Op.stringOp, pure, Sem.run, hb]

theorem pm_bb (h : RepS B st a w ρ) (op : BinOp) (x y : X) (hc : chkPM P o (.bb op x y) = true) (hk : (res st (.bb op x y)).holds K) : Yield P B st a w ρ o K := by
  simp only [res] at hk
  obtain ⟨dst, op', type, pos, after, guard⟩ := o
  cases op' <;> simp only [chkPM, Bool.false_eq_true] at hc
  rename_i op2 t x' y' ty
  simp only [Bool.and_eq_true, beq_iff_eq] at hc
  obtain ⟨⟨⟨rfl, hx⟩, hy⟩, ht⟩ := hc
  have hu : P.underlying t = some .bool := by
    revert ht
    split
    · intro _; assumption
    · intro h; cases h
  generalize ex : evX st x = vx at hk
  generalize ey : evX st y = vy at hk
  cases vx <;> (try simp only [boolR] at hk) <;> (try exact False.elim hk)
  cases vy <;> (try simp only [boolR] at hk) <;> (try exact False.elim hk)
  rename_i p q
  have e1 := eval_bool h hx ex
  have e2 := eval_bool h hy ey
  have hq : (Op.equal t (.bool p) (.bool q)).run P w = .ok (p == q) w := by
    unfold Op.equal
    rw [show Op.maxDepth = 9999 + 1 from rfl, Op.equalIn]
    simp [run_underlying hu, Result.andThen, pure, Sem.run]
  cases op <;> simp only [Res.holds, true_implies, true_and] at hk
  · refine ⟨_, .bool (p == q), run_bin (by rw [e1, e2]; exact guard_bool ..) ?_, repBool _, hk⟩
    rw [e1, e2]
    simp [binOp, hq, Result.andThen, pure, Sem.run]
  · refine ⟨_, .bool (!(p == q)), run_bin (by rw [e1, e2]; exact guard_bool ..) ?_, repBool _, hk⟩
    rw [e1, e2]
    simp [binOp, hq, Result.andThen, pure, Sem.run]

theorem pm_un (h : RepS B st a w ρ) (op : UnOp) (x : X) (hc : chkPM P o (.un op x) = true) (hk : (res st (.un op x)).holds K) : Yield P B st a w ρ o K := by
  simp only [res] at hk
  obtain ⟨dst, op', type, pos, after, guard⟩ := o
  cases op' <;> simp only [chkPM, Bool.false_eq_true] at hc
  rename_i op2 t x'
  simp only [Bool.and_eq_true, beq_iff_eq] at hc
  obtain ⟨rfl, hx⟩ := hc
  generalize ex : evX st x = vx at hk
  cases vx <;> (try simp only [unR] at hk) <;> (try exact False.elim hk)
  case int k n =>
    obtain ⟨e1, i1⟩ := eval_int h hx ex
    cases op <;> (try simp only at hk) <;> (try exact False.elim hk)
    case neg =>
      refine ⟨_, _, ?_, repInt (wrap_inK k (0 - n)), arith_ok hk⟩
      simp [execOp, e1, Op.unary, Op.intArith, Result.andThen, pure, Sem.run]
    case xor =>
      have key : ∀ (m : Nat) (hkk : k.signed = false) (hb : k.bits = m) (r : Int) (hr : r = 2 ^ m - 1 - n) (hin : inK k r), (Op.intBits .xor k k.max n).run P w = .ok (.int k r) w := by
        intro m hkk hb r hr hin
        subst hb
        have hn0 : 0 ≤ n := by cases k <;> simp [IntKind.signed] at hkk <;> simp only [inK] at i1 <;> omega
        have hmax : inK k k.max ∧ 0 ≤ k.max := by cases k <;> simp [IntKind.signed] at hkk <;> simp [inK, IntKind.max, IntKind.signed, IntKind.bits]
        have := (run_bits (P := P) .xor hmax.1 i1 hmax.2 hn0 w).2.2.1 rfl
        rw [this]
        have e2 : (k.max.toNat ^^^ n.toNat : Nat) = 2 ^ k.bits - 1 - n.toNat := by
          have hlt := toNat_lt i1 hn0
          have hm : k.max.toNat = 2 ^ k.bits - 1 := by cases k <;> simp [IntKind.signed] at hkk <;> rfl
          rw [hm]
          have hbv := congrArg BitVec.toNat (BitVec.allOnes_xor (x := BitVec.ofNat k.bits n.toNat))
          rw [BitVec.toNat_xor, BitVec.toNat_allOnes, BitVec.toNat_not, BitVec.toNat_ofNat, Nat.mod_eq_of_lt hlt] at hbv
          exact hbv
        rw [e2, hr]
        have hlt := toNat_lt i1 hn0
        have hp : (0 : Nat) < 2 ^ k.bits := Nat.two_pow_pos _
        congr 2
        have : ((2 ^ k.bits - 1 - n.toNat : Nat) : Int) = (2 : Int) ^ k.bits - 1 - n := by
          have h1 : ((2 ^ k.bits : Nat) : Int) = (2 : Int) ^ k.bits := by simp
          omega
        exact this
      have fin : ∀ r : Int, inK k r → K (.int k r) → (Op.intBits .xor k (if k.signed then -1 else k.max) n).run P w = .ok (.int k r) w → Yield P B st a w ρ ⟨dst, .unOp .xor t x', type, pos, after, guard⟩ K := by
        intro r hin hK hrun
        refine ⟨_, _, ?_, repInt hin, hK⟩
        simp only [execOp, e1, Op.unary]
        simp [hrun, Result.andThen, pure, Sem.run]
      cases k <;> (try simp only at hk) <;> (try exact False.elim hk)
      · exact fin _ (by simp only [inK] at i1 ⊢; omega) (hk i1).2 (key 8 rfl rfl _ (by simp; try omega) (by simp only [inK] at i1 ⊢; omega))
      · exact fin _ (by simp only [inK] at i1 ⊢; omega) (hk i1).2 (key 16 rfl rfl _ (by simp; try omega) (by simp only [inK] at i1 ⊢; omega))
      · exact fin _ (by simp only [inK] at i1 ⊢; omega) (hk i1).2 (key 32 rfl rfl _ (by simp; try omega) (by simp only [inK] at i1 ⊢; omega))
      · exact fin _ (by simp only [inK] at i1 ⊢; omega) (hk i1).2 (key 64 rfl rfl _ (by simp; try omega) (by simp only [inK] at i1 ⊢; omega))
  case bool b =>
    have e1 := eval_bool h hx ex
    cases op <;> simp only [Res.holds, true_implies, true_and] at hk
    refine ⟨_, .bool (!b), ?_, repBool _, hk⟩
    simp [execOp, e1, Op.unary, Result.andThen, pure, Sem.run]

theorem pm_cv (h : RepS B st a w ρ) (k : IntKind) (x : X) (hc : chkPM P o (.cv k x) = true) (hk : (res st (.cv k x)).holds K) : Yield P B st a w ρ o K := by
  simp only [res] at hk
  obtain ⟨dst, op', type, pos, after, guard⟩ := o
  cases op' <;> simp only [chkPM, Bool.false_eq_true] at hc
  rename_i s d x'
  simp only [Bool.and_eq_true] at hc
  obtain ⟨hx, ht⟩ := hc
  split at ht
  · rename_i k0 k1 hs hd
    simp only [beq_iff_eq] at ht
    subst ht
    generalize ex : evX st x = vx at hk
    cases vx <;> simp only [cvR] at hk <;> try exact False.elim hk
    rename_i k2 n
    obtain ⟨e1, i1⟩ := eval_int h hx ex
    have hrun : (execOp a.eval ⟨dst, .convert s d x', type, pos, after, guard⟩).run P w = .ok (.value (.int k1 (k1.wrap n))) w := by
      simp [execOp, e1, convert, run_underlying hs, run_underlying hd, Conv.intToInt, Result.andThen, pure, Sem.run]
    by_cases hw : wideK k2 k1 = true
    · rw [if_pos hw] at hk
      have hin := inK_wide hw i1
      rw [wrap_of_inK hin] at hrun
      exact ⟨_, _, hrun, repInt hin, (hk i1).2⟩
    · rw [if_neg hw] at hk
      exact ⟨_, _, hrun, repInt (wrap_inK k1 n), arith_ok hk⟩
  · cases ht

end
end Go.Vc
