/-
  Vc1: abstract values, abstract states, what they say of the machine's frame and memory; how this survives changes of the world.
  Own work of this project (a verification-condition calculus over the kit's 'Code.wp'). No program in sight.
-/
import Derived.Tactics
import Derived.Laws.AppendOwn
import Derived.Laws.OwnMore
import Derived.Deep.LoopGhost
import Derived.Orders
import Derived.Laws.Strings
set_option linter.unusedVariables false
set_option linter.unusedSimpArgs false
namespace Go.Vc
open Go

/-! ### Data -/
inductive DV : Type 1
  | int (k : IntKind) (n : Int)
  | bool (b : Bool)
  | str (s : ByteArray)
  | ro {α : Type} (sz : Nat) (enc : α → List DV) (xs : List α)

/-- The range of a kind, in plain numerals. -/
def inK : IntKind → Int → Prop
  | .i8, n => -128 ≤ n ∧ n < 128
  | .i16, n => -32768 ≤ n ∧ n < 32768
  | .i32, n => -2147483648 ≤ n ∧ n < 2147483648
  | .i64, n => -9223372036854775808 ≤ n ∧ n < 9223372036854775808
  | .u8, n => 0 ≤ n ∧ n < 256
  | .u16, n => 0 ≤ n ∧ n < 65536
  | .u32, n => 0 ≤ n ∧ n < 4294967296
  | .u64, n => 0 ≤ n ∧ n < 18446744073709551616

/-- What a cell holds reads as this datum; 'ok': the blocks that it may lie in. -/
inductive RepD (w : World) (ok : Nat → Prop) : DV → Value → Prop
  | int (k : IntKind) (n : Int) (h : inK k n) : RepD w ok (.int k n) (.int k n)
  | bool (b : Bool) : RepD w ok (.bool b) (.bool b)
  | str (s : ByteArray) (h : s.size ≤ 281474976710656) : RepD w ok (.str s) (.string s)
  | ro {α : Type} (sz : Nat) (enc : α → List DV) (xs : List α) (A : Option Addr) (c : Nat) (cell : Nat → Nat → Value)
      (hc : xs.length ≤ c) (hm : xs.length ≤ 281474976710656)
      (hA : 0 < xs.length → ∃ b off, A = some ⟨b, off, none⟩ ∧ ok b ∧ ∀ i j, i < xs.length → j < sz → w.cell? ⟨b, off + i * sz + j, none⟩ = some (cell i j))
      (hs : ∀ x, x ∈ xs → (enc x).length = sz)
      (hr : ∀ i x j u, xs[i]? = some x → (enc x)[j]? = some u → RepD w ok u (cell i j)) :
      RepD w ok (.ro sz enc xs) (.slice A xs.length c)

theorem RepD.mono {w w' : World} {ok ok' : Nat → Prop} (hk : ∀ b, ok b → w'.heap[b]? = w.heap[b]? ∧ ok' b) {d : DV} {v : Value} (h : RepD w ok d v) : RepD w' ok' d v := by
  induction h with
  | int k n h => exact .int k n h
  | bool b => exact .bool b
  | str s h => exact .str s h
  | ro sz enc xs A c cell hc hm hA hs hr ih =>
    refine .ro sz enc xs A c cell hc hm (fun h0 => ?_) hs ih
    obtain ⟨b, off, e, hb, hcell⟩ := hA h0
    refine ⟨b, off, e, (hk b hb).2, fun i j hi hj => ?_⟩
    rw [← hcell i j hi hj]
    exact World.cell?_of_block (hk b hb).1

theorem RepD.ok_imp {w : World} {ok ok' : Nat → Prop} (hk : ∀ b, ok b → ok' b) {d : DV} {v : Value} (h : RepD w ok d v) : RepD w ok' d v :=
  h.mono fun b hb => ⟨rfl, hk b hb⟩

/-! ### Abstract values and states -/
inductive AV : Type 1
  | any
  | int (k : IntKind) (n : Int)
  | bool (b : Bool)
  | str (s : ByteArray)
  | nilS
  | ro {α : Type} (fr : Bool) (sz : Nat) (enc : α → List DV) (xs : List α)
  | own (id off len : Nat) (app : Bool)
  | rptr (fr : Bool) (cs : List DV)
  | optr (id i off : Nat)
  | bptr (id off : Nat)
  | lits (fr : Bool) (sz : Nat) (es : List (List DV))
  | fn (f : FuncId)
  | agg (cs : List AV)
  | tup (vs : List AV)

inductive OB : Type 1
  | arr {α : Type} (T : TypeId) (mov fr : Bool) (sz : Nat) (enc : α → List DV) (xs : List α)
  | blk (T : TypeId) (cs : List AV)

abbrev Heap := List (Nat × OB)

def hget : Heap → Nat → Option OB
  | [], _ => none
  | (i, o) :: t, n => if i = n then some o else hget t n
def hset : Heap → Nat → OB → Heap
  | [], n, o => [(n, o)]
  | (i, p) :: t, n, o => if i = n then (n, o) :: t else (i, p) :: hset t n o
def hdel : Heap → Nat → Heap
  | [], _ => []
  | (i, p) :: t, n => if i = n then hdel t n else (i, p) :: hdel t n

theorem hget_hset (h : Heap) (n m : Nat) (o : OB) : hget (hset h n o) m = if n = m then some o else hget h m := by
  induction h with
  | nil => simp [hset, hget]
  | cons p t ih =>
    obtain ⟨i, q⟩ := p
    unfold hset
    by_cases h1 : i = n
    · subst h1; simp only [if_true, hget]; split <;> simp_all
    · simp only [if_neg h1, hget, ih]
      by_cases h2 : n = m
      · subst h2; simp [h1]
      · simp [h2]
theorem hget_hdel (h : Heap) (n m : Nat) : hget (hdel h n) m = if n = m then none else hget h m := by
  induction h with
  | nil => simp [hdel, hget]
  | cons p t ih =>
    obtain ⟨i, q⟩ := p
    unfold hdel
    by_cases h1 : i = n
    · subst h1; simp only [if_true, ih]; by_cases h2 : i = m <;> simp [h2, hget]
    · simp only [if_neg h1, hget, ih]
      by_cases h2 : n = m
      · subst h2; simp [h1]
      · simp [h2]

abbrev Env := List (Nat × AV)

def eget : Env → Nat → AV
  | [], _ => .any
  | (i, v) :: t, n => if i = n then v else eget t n
def eset : Env → Nat → AV → Env
  | [], n, v => [(n, v)]
  | (i, u) :: t, n, v => if i = n then (n, v) :: t else if n < i then (n, v) :: (i, u) :: t else (i, u) :: eset t n v
def edrop : Env → List Nat → Env
  | [], _ => []
  | (i, u) :: t, ns => if i ∈ ns then edrop t ns else (i, u) :: edrop t ns

theorem eget_eset (e : Env) (n m : Nat) (v : AV) : eget (eset e n v) m = if n = m then v else eget e m := by
  induction e with
  | nil => simp [eset, eget]
  | cons p t ih =>
    obtain ⟨i, q⟩ := p
    unfold eset
    by_cases h1 : i = n
    · subst h1; simp only [if_true, eget]; split <;> simp_all
    · rw [if_neg h1]
      by_cases h3 : n < i
      · rw [if_pos h3]; simp only [eget]
      · rw [if_neg h3]
        simp only [eget, ih]
        by_cases h2 : n = m
        · subst h2; simp [h1]
        · simp [h2]
theorem eset_comm (e : Env) {i j : Nat} (hij : i ≠ j) (a b : AV) : eset (eset e i a) j b = eset (eset e j b) i a := by
  induction e with
  | nil =>
    simp only [eset]
    rcases Nat.lt_or_gt_of_ne hij with h | h
    · rw [if_neg hij, if_neg (by omega), if_neg (Ne.symm hij), if_pos h]
    · rw [if_neg hij, if_pos h, if_neg (Ne.symm hij), if_neg (by omega)]
  | cons p t ih =>
    obtain ⟨m, u⟩ := p
    by_cases h1 : m = i
    · subst h1
      by_cases h3 : j < m
      · simp only [eset, if_true, hij, if_false, h3, Ne.symm hij, if_neg (show ¬ m < j by omega)]
      · simp only [eset, if_true, hij, if_false, h3]
    · by_cases h2 : m = j
      · subst h2
        by_cases h3 : i < m
        · simp only [eset, if_true, h1, if_false, h3, hij, if_neg (show ¬ m < i by omega)]
        · simp only [eset, if_true, h1, if_false, h3]
      · by_cases h3 : i < m <;> by_cases h4 : j < m
        · rcases Nat.lt_or_gt_of_ne hij with h | h
          · simp only [eset, h1, h2, if_false, h3, h4, if_true, hij, Ne.symm hij, h, if_neg (show ¬ j < i by omega)]
          · simp only [eset, h1, h2, if_false, h3, h4, if_true, hij, Ne.symm hij, h, if_neg (show ¬ i < j by omega)]
        · simp only [eset, h1, h2, if_false, h3, h4, if_true, if_neg (show ¬ i = j from hij), if_neg (show ¬ j < i by omega)]
        · simp only [eset, h1, h2, if_false, h3, h4, if_true, if_neg (show ¬ j = i from Ne.symm hij), if_neg (show ¬ i < j by omega)]
        · simp only [eset, h1, h2, if_false, h3, h4, ih]
theorem eget_edrop (e : Env) (ns : List Nat) (m : Nat) : eget (edrop e ns) m = if m ∈ ns then .any else eget e m := by
  induction e with
  | nil => simp [edrop, eget]
  | cons p t ih =>
    obtain ⟨i, q⟩ := p
    unfold edrop
    by_cases h1 : i ∈ ns
    · simp only [if_pos h1, ih, eget]
      by_cases h2 : m ∈ ns
      · simp [h2]
      · simp [h2, show i ≠ m by rintro rfl; exact h2 h1]
    · simp only [if_neg h1, eget, ih]
      by_cases h2 : i = m
      · subst h2; simp [h1]
      · simp [h2]

structure St where
  env : Env
  hp : Heap

def St.set (s : St) (n : Nat) (v : AV) : St := ⟨eset s.env n v, s.hp⟩

/-! ### What a value says -/
/-- What the abstract values of a moment refer to. 'ρ': the block and the capacity of each row that is written to (none: a row not made yet: a nil slice); 'sh': size of an element and how many are known. -/
structure Ctx where
  w : World
  okf : Bool → Nat → Prop
  ρ : Nat → Option (Nat × Nat)
  sh : Nat → Option (Nat × Nat)

def RepC (c : Ctx) : AV → Value → Prop
  | .any, _ => True
  | .int k n, v => v = .int k n ∧ inK k n
  | .bool b, v => v = .bool b
  | .str s, v => v = .string s ∧ s.size ≤ 281474976710656
  | .nilS, v => v = .slice none 0 0
  | .ro fr sz enc xs, v => RepD c.w (c.okf fr) (.ro sz enc xs) v
  | .own id off len app, v => ∃ sz n, c.sh id = some (sz, n) ∧ off + len ≤ n ∧
      ((c.ρ id = none ∧ (∃ A, v = .slice A 0 0) ∧ len = 0) ∨
       ∃ g cap k o, c.ρ id = some (g, cap) ∧ v = .slice (some ⟨g, o, none⟩) len k ∧ (0 < k → o = off * sz) ∧ len ≤ k ∧ off + k ≤ cap ∧ (app = true → off + k = cap ∧ (off = 0 → o = 0)))
  | .rptr fr cs, v => ∃ b off, v = .pointer (some ⟨b, off, none⟩) ∧ c.okf fr b ∧ ∀ j u, cs[j]? = some u → ∃ x, c.w.cell? ⟨b, off + j, none⟩ = some x ∧ RepD c.w (c.okf fr) u x
  | .optr id i off, v => ∃ sz n g cap, c.sh id = some (sz, n) ∧ c.ρ id = some (g, cap) ∧ i < n ∧ off < sz ∧ v = .pointer (some ⟨g, i * sz + off, none⟩)
  | .bptr id off, v => ∃ n g cap, c.sh id = some (0, n) ∧ c.ρ id = some (g, cap) ∧ v = .pointer (some ⟨g, off, none⟩)
  | .lits fr sz es, v => ∃ (b : Nat) (cell : Nat → Nat → Value), v = .slice (some ⟨b, 0, none⟩) es.length es.length ∧ es.length ≤ 281474976710656 ∧ c.okf fr b ∧ (∀ i j, i < es.length → j < sz → c.w.cell? ⟨b, i * sz + j, none⟩ = some (cell i j)) ∧
      (∀ e, e ∈ es → e.length = sz) ∧ ∀ i e j u, es[i]? = some e → e[j]? = some u → RepD c.w (c.okf fr) u (cell i j)
  | .fn f, v => v = .func (.func f) #[] #[]
  | .agg _, _ => False
  | .tup _, _ => False

/-- The same of what lies in one cell. -/
def RepC1 (c : Ctx) (a : AV) (v : Value) : Prop := RepC c a v ∧ v.oneCell' = true

def RepA (c : Ctx) : AV → Value → Prop
  | .agg cs, v => ∃ vs : Array Value, v = .agg vs ∧ vs.size = cs.length ∧ ∀ i u, cs[i]? = some u → RepC1 c u (vs.getD i undef)
  | a, v => RepC c a v

def RepV (c : Ctx) : AV → Value → Prop
  | .tup as, v => ∃ vs : Array Value, v = .tuple vs ∧ vs.size = as.length ∧ ∀ i u, as[i]? = some u → RepA c u (vs.getD i undef)
  | a, v => RepA c a v

def AV.flat : AV → Bool
  | .agg _ | .tup _ => false
  | _ => true
theorem RepA_of_flat {c : Ctx} {a : AV} (h : a.flat = true) (v : Value) : RepA c a v = RepC c a v := by cases a <;> simp_all [AV.flat, RepA]
theorem RepV_of_flat {c : Ctx} {a : AV} (h : a.flat = true) (v : Value) : RepV c a v = RepC c a v := by cases a <;> simp_all [AV.flat, RepA, RepV]

/-- Nothing that a value says is lost: what may be read stays; the rows keep place and shape. -/
structure Ctx.Le (c c' : Ctx) : Prop where
  ro : ∀ fr b, c.okf fr b → c'.w.heap[b]? = c.w.heap[b]? ∧ c'.okf fr b
  row : ∀ id, c.sh id ≠ none → c'.sh id = c.sh id ∧ c'.ρ id = c.ρ id

theorem RepC.mono {c c' : Ctx} (hl : c.Le c') {a : AV} {v : Value} (h : RepC c a v) : RepC c' a v := by
  cases a with
  | any => trivial
  | int k n => exact h
  | bool b => exact h
  | str s => exact h
  | nilS => exact h
  | ro fr sz enc xs => exact RepD.mono (hl.ro fr) h
  | own id off len app =>
    obtain ⟨sz, n, h1, h2⟩ := h
    obtain ⟨e1, e2⟩ := hl.row id (by rw [h1]; simp)
    exact ⟨sz, n, e1.trans h1, by rw [e2]; exact h2⟩
  | rptr fr cs =>
    obtain ⟨b, off, e, hb, hc⟩ := h
    refine ⟨b, off, e, (hl.ro fr b hb).2, fun j u hj => ?_⟩
    obtain ⟨x, hx, hr⟩ := hc j u hj
    exact ⟨x, (World.cell?_of_block (hl.ro fr b hb).1).trans hx, hr.mono (hl.ro fr)⟩
  | optr id i off =>
    obtain ⟨sz, n, g, cap, h1, h2, h3⟩ := h
    obtain ⟨e1, e2⟩ := hl.row id (by rw [h1]; simp)
    exact ⟨sz, n, g, cap, e1.trans h1, e2.trans h2, h3⟩
  | bptr id off =>
    obtain ⟨n, g, cap, h1, h2, h3⟩ := h
    obtain ⟨e1, e2⟩ := hl.row id (by rw [h1]; simp)
    exact ⟨n, g, cap, e1.trans h1, e2.trans h2, h3⟩
  | lits fr sz es =>
    obtain ⟨b, cell, e, hm, hb, hc, hs, hr⟩ := h
    exact ⟨b, cell, e, hm, (hl.ro fr b hb).2, fun i j hi hj => (World.cell?_of_block (hl.ro fr b hb).1).trans (hc i j hi hj), hs, fun i e j u h1 h2 => (hr i e j u h1 h2).mono (hl.ro fr)⟩
  | fn f => exact h
  | agg cs => exact h
  | tup as => exact h

theorem RepA.mono {c c' : Ctx} (hl : c.Le c') {a : AV} {v : Value} (h : RepA c a v) : RepA c' a v := by
  by_cases hf : a.flat = true
  · rw [RepA_of_flat hf] at h ⊢; exact h.mono hl
  · cases a <;> simp [AV.flat] at hf
    case agg cs => obtain ⟨vs, e, hs, hr⟩ := h; exact ⟨vs, e, hs, fun i u hu => ⟨(hr i u hu).1.mono hl, (hr i u hu).2⟩⟩
    case tup as => exact h
theorem RepV.mono {c c' : Ctx} (hl : c.Le c') {a : AV} {v : Value} (h : RepV c a v) : RepV c' a v := by
  by_cases hf : a.flat = true
  · rw [RepV_of_flat hf] at h ⊢; exact h.mono hl
  · cases a <;> simp [AV.flat] at hf
    case agg cs => exact RepA.mono hl (a := .agg cs) h
    case tup as => obtain ⟨vs, e, hs, hr⟩ := h; exact ⟨vs, e, hs, fun i u hu => (hr i u hu).mono hl⟩

/-! ### What a state says -/
/-- What is known of package variables (of this seat's program), and the blocks that it speaks of. -/
def gblk : Nat → Prop := fun b => b = 0
def Glob : World → Prop := fun w => ∀ (i : Nat) (v : Int), ([0, 1, 28, 2, 29, 14, 24, 3, 30, 22, 20, 15, 25, 17, 4, 8, 31, 27, 13, 23, 21, 19, 16, 7, 26, 12, 18, 6, 11, 5, 10, 9] : List Int)[i]? = some v → w.cell? ⟨0, i, none⟩ = some (.int .u8 v)
theorem Glob_keep {w w' : World} (h : ∀ b, gblk b → w'.heap[b]? = w.heap[b]?) : Glob w → Glob w' := fun h0 => by
  first
  | trivial
  | exact fun i v hv => (World.cell?_of_block (h 0 rfl)).trans (h0 i v hv)

structure Base where
  w0 : World
  bor : Nat → Prop
  N : Nat
  S : Nat → Prop
  fix : Nat → Option (Option (Nat × Nat) × (Nat × Nat))
  glob : Glob w0 ∧ ∀ b, gblk b → b < w0.heap.size ∧ ¬ bor b

/-- Of what was there at the start nothing has turned but the blocks that were lent. -/
structure Ext (bor : Nat → Prop) (w w' : World) : Prop where
  os : w'.os = w.os
  tape : w'.tape = w.tape
  output : w'.output = w.output
  size : w.heap.size ≤ w'.heap.size
  block : ∀ k, k < w.heap.size → ¬ bor k → w'.heap[k]? = w.heap[k]?
  froz : ∀ ad, w'.frozen? ad = w.frozen? ad

theorem Ext.refl (bor : Nat → Prop) (w : World) : Ext bor w w := ⟨rfl, rfl, rfl, Nat.le_refl _, fun _ _ _ => rfl, fun _ => rfl⟩
theorem Ext.trans {bor : Nat → Prop} {a b c : World} (h : Ext bor a b) (k : Ext (fun i => bor i ∨ a.heap.size ≤ i) b c) : Ext bor a c :=
  ⟨k.os.trans h.os, k.tape.trans h.tape, k.output.trans h.output, Nat.le_trans h.size k.size, fun i hi hn =>
    (k.block i (Nat.lt_of_lt_of_le hi h.size) (by rintro (h1 | h1); exact hn h1; omega)).trans (h.block i hi hn), fun ad => (k.froz ad).trans (h.froz ad)⟩

def OB.shape : OB → Nat × Nat
  | .arr _ _ _ sz _ xs => (sz, xs.length)
  | .blk _ cs => (0, cs.length)

/-- A row that stays where it stands. -/
def OB.fixed : OB → Bool
  | .arr _ mov _ _ _ _ => !mov
  | .blk _ _ => true

def shOf (hp : Heap) (id : Nat) : Option (Nat × Nat) := (hget hp id).map OB.shape

def owned (hp : Heap) (ρ : Nat → Option (Nat × Nat)) (b : Nat) : Prop := ∃ id, hget hp id ≠ none ∧ ∃ cap, ρ id = some (b, cap)

def ctxOf (B : Base) (hp : Heap) (w : World) (ρ : Nat → Option (Nat × Nat)) : Ctx where
  w := w
  okf := fun fr b => b < w.heap.size ∧ ¬ owned hp ρ b ∧ (fr = true → B.S b ∨ B.w0.heap.size ≤ b)
  ρ := ρ
  sh := shOf hp

def RepOB (c : Ctx) (id : Nat) : OB → Prop
  | .arr T mov fr sz enc xs => 0 < sz ∧ (∀ x, x ∈ xs → (enc x).length = sz) ∧ xs.length ≤ 281474976710656 ∧
      ((c.ρ id = none ∧ xs = [] ∧ mov = true) ∨
       ∃ g cap cur, c.ρ id = some (g, cap) ∧ c.w.heap[g]? = some (.cells cur T (0, 0)) ∧ xs.length ≤ cap ∧ cap ≤ maxLen ∧ cur.size = cap * sz ∧
        ∀ i x j u, xs[i]? = some x → (enc x)[j]? = some u → RepD c.w (c.okf fr) u (cur.getD (i * sz + j) undef))
  | .blk T cs => ∃ g cap cur, c.ρ id = some (g, cap) ∧ c.w.heap[g]? = some (.cells cur T (0, 0)) ∧ cur.size = cs.length ∧ ∀ i u, cs[i]? = some u → RepC1 c u (cur.getD i undef)

structure RepS (B : Base) (st : St) (a : Act) (w : World) (ρ : Nat → Option (Nat × Nat)) : Prop where
  defers : a.defers = []
  size : a.tmps.size = B.N
  ext : Ext B.bor B.w0 w
  inj : ∀ i j g c d, hget st.hp i ≠ none → hget st.hp j ≠ none → ρ i = some (g, c) → ρ j = some (g, d) → i = j
  lt : ∀ i g c, hget st.hp i ≠ none → ρ i = some (g, c) → g < w.heap.size
  wr : ∀ i g c, hget st.hp i ≠ none → ρ i = some (g, c) → B.w0.heap.size ≤ g ∨ (B.bor g ∧ 1000 ≤ i)
  hp : ∀ i ob, hget st.hp i = some ob → RepOB (ctxOf B st.hp w ρ) i ob
  env : ∀ n, RepV (ctxOf B st.hp w ρ) (eget st.env n) (a.tmps.getD n undef)
  fixN : ∀ i v, B.fix i = some v → B.N ≤ i ∧ 1000 ≤ i
  fix : ∀ i v ob, B.fix i = some v → hget st.hp i = some ob → ob.fixed = true → ρ i = v.1 ∧ ob.shape = v.2

theorem getD_setIfInBounds {α : Type} (xs : Array α) (d n : Nat) (v u : α) (hd : d < xs.size) : (xs.setIfInBounds d v).getD n u = if d = n then v else xs.getD n u := by
  rw [Array.getD_eq_getD_getElem?, Array.getD_eq_getD_getElem?, Array.getElem?_setIfInBounds]
  by_cases h : d = n
  · subst h; simp [hd]
  · simp [h]

theorem RepS.set {B : Base} {st : St} {a : Act} {w : World} {ρ : Nat → Option (Nat × Nat)} (h : RepS B st a w ρ) {d : Nat} (hd : d < B.N) {v : AV} {x : Value}
    (hv : RepV (ctxOf B st.hp w ρ) v x) : RepS B (st.set d v) (a.put (some d) x) w ρ where
  defers := h.defers
  size := by simp [Act.put, h.size]
  ext := h.ext
  inj := h.inj
  lt := h.lt
  wr := h.wr
  hp := h.hp
  env := fun n => by
    show RepV (ctxOf B st.hp w ρ) (eget (eset st.env d v) n) ((a.tmps.setIfInBounds d x).getD n undef)
    rw [eget_eset, getD_setIfInBounds _ _ _ _ _ (by rw [h.size]; exact hd)]
    by_cases e : d = n
    · rw [if_pos e, if_pos e]; exact hv
    · rw [if_neg e, if_neg e]; exact h.env n
  fixN := h.fixN
  fix := h.fix

theorem RepS.setNone {B : Base} {st : St} {a : Act} {w : World} {ρ : Nat → Option (Nat × Nat)} (h : RepS B st a w ρ) {d : Option Nat} (hd : ∀ t, d = some t → t < B.N) (x : Value) :
    RepS B (match d with | some t => st.set t .any | none => st) (a.put d x) w ρ := by
  cases d with
  | none => exact h
  | some t => exact h.set (hd t rfl) trivial

/-- One who has forgotten some slots. -/
theorem RepS.weaken {B : Base} {st : St} {a : Act} {w : World} {ρ : Nat → Option (Nat × Nat)} (h : RepS B st a w ρ) {env' : Env}
    (he : ∀ n, eget env' n = .any ∨ eget env' n = eget st.env n) : RepS B ⟨env', st.hp⟩ a w ρ where
  defers := h.defers
  size := h.size
  ext := h.ext
  inj := h.inj
  lt := h.lt
  wr := h.wr
  hp := h.hp
  env := fun n => by
    rcases he n with e | e
    · show RepV (ctxOf B st.hp w ρ) (eget env' n) _; rw [e]; trivial
    · show RepV (ctxOf B st.hp w ρ) (eget env' n) _; rw [e]; exact h.env n
  fixN := h.fixN
  fix := h.fix

end Go.Vc
