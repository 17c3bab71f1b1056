/-
  Vc2: operations in short form, the check that a short form is what the machine's operation says, and what the operations that leave the world alone yield.
-/
import Derived.Test.YtdlddbclcmecjaaDoorVc1
set_option linter.unusedVariables false
set_option linter.unusedSimpArgs false
namespace Go.Vc
open Go

inductive X
  | t (n : Nat)
  | i (k : IntKind) (n : Int)
  | b (b : Bool)
  | s (s : ByteArray)
  | nil
  | fn (f : FuncId)

def evX (st : St) : X → AV
  | .t n => eget st.env n
  | .i k n => .int k n
  | .b b => .bool b
  | .s s => .str s
  | .nil => .nilS
  | .fn f => .fn f

def inKb (k : IntKind) (n : Int) : Bool := match k with
  | .i8 => -128 ≤ n && n < 128
  | .i16 => -32768 ≤ n && n < 32768
  | .i32 => -2147483648 ≤ n && n < 2147483648
  | .i64 => -9223372036854775808 ≤ n && n < 9223372036854775808
  | .u8 => 0 ≤ n && n < 256
  | .u16 => 0 ≤ n && n < 65536
  | .u32 => 0 ≤ n && n < 4294967296
  | .u64 => 0 ≤ n && n < 18446744073709551616
theorem inK_of_inKb {k : IntKind} {n : Int} (h : inKb k n = true) : inK k n := by
  cases k <;> simpa [inKb, inK] using h

def chkX : Operand → X → Bool
  | .tmp t, .t n => t == n
  | .const (.int k n), .i k' n' => k == k' && n == n' && inKb k n
  | .const (.bool b), .b b' => b == b'
  | .const (.string s), .s s' => s.data.toList == s'.data.toList && decide (s.size ≤ 281474976710656)
  | .const (.slice none 0 0), .nil => true
  | .func f, .fn f' => f == f'
  | _, _ => false

theorem chkX_ok {B : Base} {st : St} {a : Act} {w : World} {ρ : Nat → Option (Nat × Nat)} (h : RepS B st a w ρ) {o : Operand} {x : X} (hc : chkX o x = true) :
    RepV (ctxOf B st.hp w ρ) (evX st x) (a.eval o) := by
  cases o with
  | tmp t =>
    cases x <;> simp [chkX] at hc
    subst hc
    exact h.env t
  | const v =>
    cases x <;> unfold chkX at hc <;> (try split at hc) <;> simp_all [evX, RepV, RepA, RepC, Act.eval]
    · obtain ⟨⟨rfl, rfl⟩, h⟩ := hc; exact inK_of_inKb h
    · have e : ∀ s s' : ByteArray, s.data = s'.data → s = s' := fun s s' h => by
        cases s; cases s'; simp at h; simp [h]
      have := e _ _ hc.1
      subst this
      exact ⟨rfl, hc.2⟩
  | global g => cases x <;> simp [chkX] at hc
  | func f =>
    cases x <;> simp [chkX] at hc
    subst hc
    simp [evX, RepV, RepA, RepC, Act.eval]

/-! ### Results -/
inductive Res : Type 1
  | val (asm p : Prop) (v : AV)
  | el {α : Type} (asm p : Prop) (xs : List α) (i : Nat) (f : α → AV)
  | bad

def Res.holds : Res → (AV → Prop) → Prop
  | .val asm p v, K => asm → (p ∧ K v)
  | .el asm p xs i f, K => asm → (p ∧ ∀ e, xs[i]? = some e → K (f e))
  | .bad, _ => False

def up (fr : Bool) : DV → AV
  | .int k n => .int k n
  | .bool b => .bool b
  | .str s => .str s
  | .ro sz enc xs => .ro fr sz enc xs

theorem up_flat (fr : Bool) (d : DV) : (up fr d).flat = true := by cases d <;> rfl
theorem up_rep {c : Ctx} {fr : Bool} {d : DV} {v : Value} (h : RepD c.w (c.okf fr) d v) : RepC c (up fr d) v := by
  cases h with
  | int k n h => exact ⟨rfl, h⟩
  | bool b => rfl
  | str s h => exact ⟨rfl, h⟩
  | ro sz enc xs A cc cell hc hm hA hs hr => exact .ro sz enc xs A cc cell hc hm hA hs hr

/-! ### Numbers -/
def arith (k : IntKind) (r : Int) : Res := match k with
  | .i8 => .val True (-128 ≤ r ∧ r < 128) (.int .i8 r)
  | .i16 => .val True (-32768 ≤ r ∧ r < 32768) (.int .i16 r)
  | .i32 => .val True (-2147483648 ≤ r ∧ r < 2147483648) (.int .i32 r)
  | .i64 => .val True (-9223372036854775808 ≤ r ∧ r < 9223372036854775808) (.int .i64 r)
  | .u8 => .val True True (.int .u8 (r % 256))
  | .u16 => .val True True (.int .u16 (r % 65536))
  | .u32 => .val True True (.int .u32 (r % 4294967296))
  | .u64 => .val True True (.int .u64 (r % 18446744073709551616))

theorem wrap_of_inK {k : IntKind} {n : Int} (h : inK k n) : k.wrap n = n := by
  cases k <;> simp only [inK] at h <;> simp only [IntKind.wrap, IntKind.signed, IntKind.bits] <;> simp <;> omega
theorem wrap_inK (k : IntKind) (n : Int) : inK k (k.wrap n) := by
  cases k <;> simp only [inK, IntKind.wrap, IntKind.signed, IntKind.bits] <;> simp <;> omega

theorem arith_ok {k : IntKind} {r : Int} {K : AV → Prop} (h : (arith k r).holds K) : K (.int k (k.wrap r)) := by
  cases k <;> simp only [arith, Res.holds, true_implies, true_and] at h
  · have := wrap_of_inK (k := .i8) h.1; rw [this]; exact h.2
  · have := wrap_of_inK (k := .i16) h.1; rw [this]; exact h.2
  · have := wrap_of_inK (k := .i32) h.1; rw [this]; exact h.2
  · have := wrap_of_inK (k := .i64) h.1; rw [this]; exact h.2
  · simpa [IntKind.wrap, IntKind.signed, IntKind.bits] using h
  · simpa [IntKind.wrap, IntKind.signed, IntKind.bits] using h
  · simpa [IntKind.wrap, IntKind.signed, IntKind.bits] using h
  · simpa [IntKind.wrap, IntKind.signed, IntKind.bits] using h

def bitW : IntKind → Nat
  | .i8 | .u8 => 8
  | .i16 | .u16 => 16
  | .i32 | .u32 => 32
  | .i64 | .u64 => 64

def topK : IntKind → Int
  | .i8 => 127
  | .u8 => 255
  | .i16 => 32767
  | .u16 => 65535
  | .i32 => 2147483647
  | .u32 => 4294967295
  | .i64 => 9223372036854775807
  | .u64 => 18446744073709551615

def intR (op : BinOp) (k : IntKind) (a b : Int) : Res := match op with
  | .add => arith k (a + b)
  | .sub => arith k (a - b)
  | .mul => arith k (a * b)
  | .quo => .val (inK k a ∧ inK k b) (0 ≤ a ∧ 0 < b) (.int k (a / b))
  | .rem => .val (inK k a ∧ inK k b) (0 ≤ a ∧ 0 < b) (.int k (a % b))
  | .and => .val (inK k a ∧ inK k b) (0 ≤ a ∧ 0 ≤ b) (.int k ((a.toNat &&& b.toNat : Nat) : Int))
  | .or => .val (inK k a ∧ inK k b) (0 ≤ a ∧ 0 ≤ b) (.int k ((a.toNat ||| b.toNat : Nat) : Int))
  | .xor => .val (inK k a ∧ inK k b) (0 ≤ a ∧ 0 ≤ b) (.int k ((a.toNat ^^^ b.toNat : Nat) : Int))
  | .andNot => .val (inK k a ∧ inK k b) (0 ≤ a ∧ 0 ≤ b) (.int k ((a.toNat ^^^ (a.toNat &&& b.toNat) : Nat) : Int))
  | .eql => .val True True (.bool (decide (a = b)))
  | .neq => .val True True (.bool (decide (¬ a = b)))
  | .lss => .val True True (.bool (decide (a < b)))
  | .leq => .val True True (.bool (decide (a ≤ b)))
  | .gtr => .val True True (.bool (decide (b < a)))
  | .geq => .val True True (.bool (decide (b ≤ a)))
  | _ => .bad

def shR (op : BinOp) (k : IntKind) (a b : Int) : Res := match op with
  | .shl => match arith k (a * 2 ^ b.toNat) with
    | .val asm p v => .val asm (0 ≤ b ∧ b ≤ bitW k ∧ p) v
    | r => r
  | .shr => .val (inK k a) (0 ≤ b) (.int k (a / 2 ^ (min b.toNat (bitW k))))
  | _ => .bad

def binR (op : BinOp) : AV → AV → Res
  | .int k a, .int k' b => match op with
    | .shl => shR .shl k a b
    | .shr => shR .shr k a b
    | _ => if k = k' then intR op k a b else .bad
  | .str a, .str b => match op with
    | .eql => .val True True (.bool (decide (a = b)))
    | .neq => .val True True (.bool (decide (¬ a = b)))
    | .add => .val (a.size ≤ 281474976710656 ∧ b.size ≤ 281474976710656) (a.size + b.size ≤ 281474976710656) (.str (a ++ b))
    | _ => .bad
  | _, _ => .bad

def boolR (op : BinOp) : AV → AV → Res
  | .bool a, .bool b => match op with
    | .eql => .val True True (.bool (a == b))
    | .neq => .val True True (.bool (!(a == b)))
    | _ => .bad
  | _, _ => .bad

def unR (op : UnOp) : AV → Res
  | .bool b => match op with
    | .not => .val True True (.bool (!b))
    | _ => .bad
  | .int k n => match op with
    | .neg => arith k (0 - n)
    | .xor => match k with
      | .u8 => .val (inK .u8 n) True (.int .u8 (255 - n))
      | .u16 => .val (inK .u16 n) True (.int .u16 (65535 - n))
      | .u32 => .val (inK .u32 n) True (.int .u32 (4294967295 - n))
      | .u64 => .val (inK .u64 n) True (.int .u64 (18446744073709551615 - n))
      | _ => .bad
    | _ => .bad
  | _ => .bad

def wideK : IntKind → IntKind → Bool
  | .u8, .u8 | .u8, .u16 | .u8, .u32 | .u8, .u64 | .u8, .i16 | .u8, .i32 | .u8, .i64 => true
  | .u16, .u16 | .u16, .u32 | .u16, .u64 | .u16, .i32 | .u16, .i64 => true
  | .u32, .u32 | .u32, .u64 | .u32, .i64 => true
  | .u64, .u64 => true
  | .i8, .i8 | .i8, .i16 | .i8, .i32 | .i8, .i64 => true
  | .i16, .i16 | .i16, .i32 | .i16, .i64 => true
  | .i32, .i32 | .i32, .i64 => true
  | .i64, .i64 => true
  | _, _ => false

/-- A conversion between kinds; where the old kind's numbers are all among the new kind's the number stays. -/
def cvR (k : IntKind) : AV → Res
  | .int k0 n => if wideK k0 k = true then .val (inK k0 n) True (.int k n) else arith k n
  | _ => .bad

theorem inK_wide {k k' : IntKind} {n : Int} (hw : wideK k k' = true) (h : inK k n) : inK k' n := by
  cases k <;> cases k' <;> simp [wideK] at hw <;> simp only [inK] at h ⊢ <;> omega

/-! ### Slices, strings, memory -/
def byteAt (s : ByteArray) (i : Int) : Int := ((s.data.toList.getD i.toNat 0).toNat : Int)

def intOf? : AV → Option Int
  | .int _ n => some n
  | _ => none

def optI (st : St) : Option X → Option (Option Int)
  | none => some none
  | some x => match evX st x with
    | .int _ n => some (some n)
    | _ => none

/-- bounds of a cut of something of length n: low and high and what must hold -/
def cutB (n : Nat) (lo hi mx : Option Int) : Prop × Int × Int := match lo, hi, mx with
  | none, none, none => (True, 0, n)
  | some l, none, none => (0 ≤ l ∧ l ≤ n, l, n)
  | none, some h, none => (0 ≤ h ∧ h ≤ n, 0, h)
  | some l, some h, none => (0 ≤ l ∧ l ≤ h ∧ h ≤ n, l, h)
  | none, some h, some m => (0 ≤ h ∧ h ≤ m ∧ m ≤ n, 0, h)
  | some l, some h, some m => (0 ≤ l ∧ l ≤ h ∧ h ≤ m ∧ m ≤ n, l, h)
  | _, none, some _ => (False, 0, 0)

def cutL {α : Type} (xs : List α) (lo hi : Option Int) : List α := match lo, hi with
  | none, none => xs
  | some l, none => xs.drop l.toNat
  | none, some h => xs.take h.toNat
  | some l, some h => (xs.take h.toNat).drop l.toNat

def sliceR (st : St) (sz : Nat) (x : AV) (lo hi mx : Option Int) : Res := match x with
  | .ro fr sz' enc xs => .val True (sz = sz' ∧ (cutB xs.length lo hi mx).1) (.ro fr sz' enc (cutL xs lo hi))
  | .own id off len app => match hget st.hp id with
    | some (.arr _ _ _ sz' _ xs) => .val (off + len ≤ xs.length) (sz = sz' ∧ (cutB len lo hi mx).1)
        (.own id (off + (cutB len lo hi mx).2.1.toNat) ((cutB len lo hi mx).2.2.toNat - (cutB len lo hi mx).2.1.toNat) (app && mx.isNone && off == 0 && lo.isNone))
    | _ => .bad
  | .nilS => .val True ((cutB 0 lo hi mx).1) .nilS
  | .lits fr sz' es => match lo, hi, mx with
    | none, none, none => .val True True (.lits fr sz' es)
    | _, _, _ => .bad
  | _ => .bad

def strR (x : AV) (lo hi : Option Int) : Res := match x with
  | .str s => .val True ((cutB s.size lo hi none).1) (.str (s.extract (cutB s.size lo hi none).2.1.toNat (cutB s.size lo hi none).2.2.toNat))
  | _ => .bad

def ldCells (fr : Bool) (n : Nat) (agg : Bool) (cs : List DV) : AV :=
  if agg then .agg ((cs.take n).map (up fr)) else match cs with
    | c :: _ => up fr c
    | [] => .any

def ldR (st : St) (n : Nat) (agg : Bool) : AV → Res
  | .rptr fr cs => .val True (n ≤ cs.length) (ldCells fr n agg cs)
  | .optr id i off => match hget st.hp id with
    | some (.arr _ _ fr sz enc xs) => .el True (off + n ≤ sz ∧ i < xs.length) xs i (fun e => ldCells fr n agg ((enc e).drop off))
    | _ => .bad
  | .bptr id off => match hget st.hp id with
    | some (.blk _ cs) => .val True (off + n ≤ cs.length) (if agg then .agg ((cs.drop off).take n) else cs.getD off .any)
    | _ => .bad
  | _ => .bad

def iaR (st : St) (sz : Nat) (x i : AV) : Res := match i with
  | .int _ i => match x with
    | .ro fr sz' enc xs => .el True (sz = sz' ∧ 0 ≤ i ∧ i < xs.length) xs i.toNat (fun e => .rptr fr (enc e))
    | .own id off len app => match hget st.hp id with
      | some (.arr _ _ _ sz' _ xs) => .val (off + len ≤ xs.length) (sz = sz' ∧ 0 ≤ i ∧ i < len) (.optr id (off + i.toNat) 0)
      | _ => .bad
    | .lits fr sz' es => .val True (sz = sz' ∧ 0 ≤ i ∧ i < es.length) (.rptr fr (es.getD i.toNat []))
    | _ => .bad
  | _ => .bad

def faR (st : St) (off : Nat) : AV → Res
  | .rptr fr cs => .val True True (.rptr fr (cs.drop off))
  | .optr id i o => match hget st.hp id with
    | some (.arr _ _ _ sz _ _) => .val True (o + off < sz) (.optr id i (o + off))
    | _ => .bad
  | .bptr id o => .val True True (.bptr id (o + off))
  | _ => .bad

def lenR (st : St) : AV → Res
  | .ro _ _ _ xs => .val (xs.length ≤ 281474976710656) True (.int .i64 xs.length)
  | .own id off len _ => match hget st.hp id with
    | some (.arr _ _ _ _ _ xs) => .val (off + len ≤ xs.length ∧ xs.length ≤ 281474976710656) True (.int .i64 len)
    | _ => .bad
  | .nilS => .val True True (.int .i64 0)
  | .lits _ _ es => .val True True (.int .i64 es.length)
  | _ => .bad

def lenSR : AV → Res
  | .str s => .val (s.size ≤ 281474976710656) True (.int .i64 s.size)
  | _ => .bad

def ixR (x i : AV) : Res := match x, i with
  | .str s, .int _ i => .val True (0 ≤ i ∧ i < s.size) (.int .u8 (byteAt s i))
  | _, _ => .bad

def exR (j : Nat) : AV → Res
  | .tup vs => .val True (j < vs.length) (vs.getD j .any)
  | _ => .bad

def nchkR : AV → Res
  | .rptr fr cs => .val True True (.rptr fr cs)
  | .optr id i o => .val True True (.optr id i o)
  | .bptr id o => .val True True (.bptr id o)
  | _ => .bad

/-- bytes as a text -/
def byteOf : List DV → UInt8
  | [.int _ n] => UInt8.ofNat n.toNat
  | _ => 0
def isB : List DV → Bool
  | [.int .u8 _] => true
  | _ => false
def strOfDV (es : List (List DV)) : ByteArray := ⟨(es.map byteOf).toArray⟩
def csR (st : St) : AV → Res
  | .ro _ sz enc xs => .val True (sz = 1 ∧ ∀ x, x ∈ xs → isB (enc x) = true) (.str (strOfDV (xs.map enc)))
  | .own id off len _ => match hget st.hp id with
    | some (.arr _ _ _ sz enc xs) => .val (off + len ≤ xs.length) (sz = 1 ∧ ∀ x, x ∈ (xs.drop off).take len → isB (enc x) = true) (.str (strOfDV (((xs.drop off).take len).map enc)))
    | _ => .bad
  | .nilS => .val True True (.str ⟨#[]⟩)
  | _ => .bad

def mxR (big : Bool) (x y : AV) : Res := match x, y with
  | .int k a, .int k' b => if k = k' then .val True True (.int k (if big = true then max a b else min a b)) else .bad
  | _, _ => .bad

/-- The operations that leave the world alone. -/
inductive PM : Type
  | mv (x : X)
  | nchk (x : X)
  | bin (op : BinOp) (x y : X)
  | bb (op : BinOp) (x y : X)
  | un (op : UnOp) (x : X)
  | cv (k : IntKind) (x : X)
  | ld (n : Nat) (agg : Bool) (x : X)
  | fa (off : Nat) (x : X)
  | ia (sz : Nat) (x i : X)
  | ix (x i : X)
  | sl (sz : Nat) (x : X) (lo hi mx : Option X)
  | ss (x : X) (lo hi : Option X)
  | len (x : X)
  | lens (x : X)
  | ex (x : X) (j : Nat)
  | fn (f : FuncId)
  | mx (big : Bool) (x y : X)
  | cs (x : X)

def res (st : St) : PM → Res
  | .mv x => .val True True (evX st x)
  | .nchk x => nchkR (evX st x)
  | .bin op x y => binR op (evX st x) (evX st y)
  | .bb op x y => boolR op (evX st x) (evX st y)
  | .un op x => unR op (evX st x)
  | .cv k x => cvR k (evX st x)
  | .ld n agg x => ldR st n agg (evX st x)
  | .fa off x => faR st off (evX st x)
  | .ia sz x i => iaR st sz (evX st x) (evX st i)
  | .ix x i => ixR (evX st x) (evX st i)
  | .sl sz x lo hi mx => match optI st lo, optI st hi, optI st mx with
    | some l, some h, some m => sliceR st sz (evX st x) l h m
    | _, _, _ => .bad
  | .ss x lo hi => match optI st lo, optI st hi with
    | some l, some h => strR (evX st x) l h
    | _, _ => .bad
  | .len x => lenR st (evX st x)
  | .lens x => lenSR (evX st x)
  | .ex x j => exR j (evX st x)
  | .fn f => .val True True (.fn f)
  | .mx big x y => mxR big (evX st x) (evX st y)
  | .cs x => csR st (evX st x)

def chkO : Option Operand → Option X → Bool
  | none, none => true
  | some o, some x => chkX o x
  | _, _ => false

def elemSz (P : Program) (t : TypeId) : Option (TypeId × Nat) := match P.underlying t with
  | some (.slice e) => (P.info? e).map fun i => (e, i.size)
  | _ => none

def chkPM (P : Program) (o : Oper) : PM → Bool
  | .mv x => match o.op with
    | .move y => chkX y x
    | .assign y => chkX y x
    | _ => false
  | .nchk x => match o.op with | .nilCheck y => chkX y x | _ => false
  | .bin op x y => match o.op with | .binOp op' t x' y' _ => op == op' && chkX x' x && chkX y' y | _ => false
  | .bb op x y => match o.op with | .binOp op' t x' y' _ => op == op' && chkX x' x && chkX y' y && (match P.underlying t with | some .bool => true | _ => false) | _ => false
  | .un op x => match o.op with | .unOp op' t x' => op == op' && chkX x' x | _ => false
  | .cv k x => match o.op with
    | .convert s d x' => chkX x' x && (match P.underlying s, P.underlying d with | some (.int _), some (.int k1) => k1 == k | _, _ => false)
    | _ => false
  | .ld n agg x => match o.op with
    | .load t x' => chkX x' x && (match P.underlying t with
      | some (.struct _) => agg && (P.info? t).map (·.size) == some n
      | some (.array _ _) => false
      | some _ => !agg && n == 1
      | none => false)
    | _ => false
  | .fa off x => match o.op with
    | .fieldAddr s x' f => chkX x' x && (match P.underlying s with
      | some (.struct fs) => (match fs[f]? with | some fd => fd.offset == off && (match (P.info? fd.type).map (·.size) with | some n => n != 0 | none => false) | none => false)
      | _ => false)
    | _ => false
  | .ia sz x i => match o.op with | .indexAddr t x' i' => chkX x' x && chkX i' i && (elemSz P t).map (·.2) == some sz | _ => false
  | .ix x i => match o.op with | .index t x' i' => chkX x' x && chkX i' i && (match P.underlying t with | some .string => true | _ => false) | _ => false
  | .sl sz x lo hi mx => match o.op with | .slice t x' lo' hi' mx' => chkX x' x && chkO lo' lo && chkO hi' hi && chkO mx' mx && (elemSz P t).map (·.2) == some sz | _ => false
  | .ss x lo hi => match o.op with | .slice t x' lo' hi' mx' => chkX x' x && chkO lo' lo && chkO hi' hi && mx'.isNone && (match P.underlying t with | some .string => true | _ => false) | _ => false
  | .len x => match o.op with
    | .call { callee := .builtin .len, args, argTypes } => (match args.toList, argTypes.toList with | [x'], [t] => chkX x' x && (match P.underlying t with | some (.slice _) => true | _ => false) | _, _ => false)
    | _ => false
  | .lens x => match o.op with
    | .call { callee := .builtin .len, args, argTypes } => (match args.toList, argTypes.toList with | [x'], [t] => chkX x' x && (match P.underlying t with | some .string => true | _ => false) | _, _ => false)
    | _ => false
  | .ex x j => match o.op with | .extract x' j' => chkX x' x && j == j' | _ => false
  | .fn f => match o.op with | .makeFunc (.func f') a b => f == f' && a.isEmpty && b.isEmpty | _ => false
  | .mx big x y => match o.op with
    | .call { callee := .builtin .max, args, .. } => big && (match args.toList with | [x', y'] => chkX x' x && chkX y' y | _ => false)
    | .call { callee := .builtin .min, args, .. } => !big && (match args.toList with | [x', y'] => chkX x' x && chkX y' y | _ => false)
    | _ => false
  | .cs x => match o.op with
    | .convert s d x' => chkX x' x && (match P.underlying s, P.underlying d with | some (.slice e), some .string => (match P.underlying e with | some (.int .u8) => true | _ => false) | _, _ => false)
    | _ => false

end Go.Vc
