/-
  Vc6: operations that write or make memory, in short form; stores, new rows, new variables.
-/
import Derived.Test.YtdlddbclcmecjaaDoorVc5
set_option linter.unusedVariables false
set_option linter.unusedSimpArgs false
namespace Go.Vc
open Go

/-- zero values, cell by cell -/
inductive ZV | int (k : IntKind) | bool | str | nil

def ZV.av : ZV → AV
  | .int k => .int k 0
  | .bool => .bool false
  | .str => .str ⟨#[]⟩
  | .nil => .nilS

def ZV.fit : ZV → DV → Prop
  | .int k, .int k' n => k = k' ∧ n = 0
  | .bool, .bool b => b = false
  | .str, .str s => s = ⟨#[]⟩
  | .nil, .ro _ _ xs => xs.length = 0
  | _, _ => False

def zfits : List ZV → List DV → Prop
  | [], [] => True
  | z :: zs, d :: ds => z.fit d ∧ zfits zs ds
  | _, _ => False

def chkZ : Value → ZV → Bool
  | .int k n, .int k' => k == k' && n == 0
  | .bool b, .bool => !b
  | .string s, .str => s.data.toList == []
  | .slice none 0 0, .nil => true
  | _, _ => false

def chkZs : List Value → List ZV → Bool
  | [], [] => true
  | v :: vs, z :: zs => chkZ v z && chkZs vs zs
  | _, _ => false

/-- A slot's value as a datum: does the one serve for the other? -/
def fits (fr : Bool) : DV → AV → Prop
  | .int k n, .int k' m => k = k' ∧ n = m
  | .bool b, .bool c => b = c
  | .str s, .str t => s = t
  | d, .ro fr' sz enc xs => (fr = true → fr' = true) ∧ d = .ro sz enc xs
  | .ro _ _ xs, .nilS => xs.length = 0
  | _, _ => False

def fitsL (fr : Bool) : List DV → List AV → Prop
  | [], [] => True
  | d :: ds, v :: vs => fits fr d v ∧ fitsL fr ds vs
  | _, _ => False

def cellsOf : AV → List AV
  | .agg cs => cs
  | v => [v]

def down : AV → Option (Bool × DV)
  | .int k n => some (true, .int k n)
  | .bool b => some (true, .bool b)
  | .str s => some (true, .str s)
  | .ro fr sz enc xs => some (fr, .ro sz enc xs)
  | _ => none

def downL : List AV → Option (Bool × List DV)
  | [] => some (true, [])
  | v :: vs => match down v, downL vs with
    | some (f, d), some (g, ds) => some (f && g, d :: ds)
    | _, _ => none

def downLL : List (List AV) → Option (Bool × List (List DV))
  | [] => some (true, [])
  | v :: vs => match downL v, downLL vs with
    | some (f, d), some (g, ds) => some (f && g, d :: ds)
    | _, _ => none

inductive WR : Type 1
  | ok (asm p : Prop) (st : St) (v : AV)
  | ex {α : Type} (asm p : Prop) (q : α → Prop) (st : α → St) (v : α → AV)
  | bad

def put? (d : Option Nat) (st : St) (v : AV) : St := match d with
  | some d => st.set d v
  | none => st

def WR.holds (d : Option Nat) : WR → (St → Prop) → Prop
  | .ok asm p st v, K => asm → (p ∧ K (put? d st v))
  | .ex asm p q st v, K => asm → (p ∧ ∃ e, q e ∧ K (put? d (st e) (v e)))
  | .bad, _ => False

inductive WM : Type 1
  | st (n : Nat) (x y : X)
  | mk {α : Type} (T : TypeId) (sz bytes : Nat) (zs : List ZV) (enc : α → List DV) (z : α) (n c : X)
  | bs (T : TypeId) (sz : Nat) (parts : List X)
  | box (T : TypeId) (n : Nat) (x : X)
  | al (T : TypeId) (zs : List ZV)
  | ap {α : Type} (T : TypeId) (sz bytes : Nat) (enc : α → List DV) (s x : X)
  | cp (sz : Nat) (d s : X)

/-- One knows what it is made of. -/
def solid : AV → Bool
  | .any => false
  | .tup _ => false
  | _ => true

def stR (st : St) (n : Nat) (p v : AV) : WR := match p with
  | .optr id i off => match hget st.hp id with
    | some (.arr (α := α) T mov fr sz enc xs) => .ex (α := α) True (off = 0 ∧ n = sz ∧ i < xs.length ∧ (cellsOf v).length = n ∧ solid v = true) (fun e => fitsL fr (enc e) (cellsOf v)) (fun e => ⟨st.env, hset st.hp id (.arr T mov fr sz enc (xs.set i e))⟩) (fun _ => .any)
    | _ => .bad
  | .bptr id off => match hget st.hp id with
    | some (.blk T cs) => .ok True (off + n ≤ cs.length ∧ (cellsOf v).length = n ∧ solid v = true) ⟨st.env, hset st.hp id (.blk T (cs.take off ++ cellsOf v ++ cs.drop (off + n)))⟩ .any
    | _ => .bad
  | _ => .bad

def mkR {α : Type} (st : St) (d : Nat) (T : TypeId) (sz bytes : Nat) (zs : List ZV) (enc : α → List DV) (z : α) (n c : AV) : WR := match n, c with
  | .int _ n, .int _ c => .ok True (0 ≤ n ∧ n ≤ c ∧ bytes * c ≤ 140737488355328 ∧ c ≤ 281474976710656 ∧ zfits zs (enc z) ∧ hget st.hp d = none)
      ⟨st.env, hset st.hp d (.arr T true true sz enc (List.replicate n.toNat z))⟩ (.own d 0 n.toNat true)
  | _, _ => .bad

def bsR (st : St) (d : Nat) (sz : Nat) (parts : List AV) : WR := match downLL (parts.map cellsOf) with
  | some (fr, es) => .ok True (∀ e, e ∈ es → e.length = sz) st (.lits fr sz es)
  | none => .bad

def boxR (st : St) (d : Nat) (T : TypeId) (n : Nat) (v : AV) : WR :=
  .ok True (hget st.hp d = none ∧ (cellsOf v).length = n ∧ solid v = true) ⟨st.env, hset st.hp d (.blk T (cellsOf v))⟩ (.bptr d 0)

def alR (st : St) (d : Nat) (T : TypeId) (zs : List ZV) : WR :=
  .ok True (hget st.hp d = none) ⟨st.env, hset st.hp d (.blk T (zs.map ZV.av))⟩ (.bptr d 0)

/-! forgetting what leads to a row -/
def killC (id : Nat) : AV → AV
  | .own i off len app => if i = id then .any else .own i off len app
  | .optr i j off => if i = id then .any else .optr i j off
  | .bptr i off => if i = id then .any else .bptr i off
  | v => v
def killV (id : Nat) : AV → AV
  | .agg cs => .agg (cs.map (killC id))
  | .tup vs => .tup (vs.map fun v => match v with
    | .agg cs => .agg (cs.map (killC id))
    | v => killC id v)
  | v => killC id v
def killE (id : Nat) (env : Env) : Env := env.map fun p => (p.1, killV id p.2)
def killO (id : Nat) : OB → OB
  | .blk T cs => .blk T (cs.map (killC id))
  | o => o
def killH (id : Nat) (hp : Heap) : Heap := hp.map fun p => (p.1, killO id p.2)

def scal : DV → Bool
  | .ro _ _ _ => false
  | _ => true

/-- Nothing in these leads anywhere. -/
def scalE {α : Type} (enc : α → List DV) (zs : List α) : Prop := ∀ z, z ∈ zs → ∀ u, u ∈ enc z → scal u = true

theorem scal_rep {w w' : World} {ok ok' : Nat → Prop} {u : DV} {x : Value} (hs : scal u = true) (h : RepD w ok u x) : RepD w' ok' u x := by
  cases h with
  | int k n h => exact .int k n h
  | bool b => exact .bool b
  | str s h => exact .str s h
  | ro => simp [scal] at hs

/-- What is to be appended: does this list stand there? And is it all new? -/
def srcQ {α : Type} (st : St) (fr : Bool) (sz : Nat) (enc : α → List DV) (x : AV) (zs : List α) : Prop := match x with
  | .ro fr' sz' enc' ys => ((fr = true → fr' = true) ∨ scalE enc zs) ∧ DV.ro sz enc zs = DV.ro sz' enc' ys
  | .own id off len _ => match hget st.hp id with
    | some (.arr _ _ fr' sz' enc' ys) => ((fr = true → fr' = true) ∨ scalE enc zs) ∧ DV.ro sz enc zs = DV.ro sz' enc' ((ys.drop off).take len)
    | _ => False
  | .nilS => zs = []
  | .lits fr' sz' es => ((fr = true → fr' = true) ∨ scalE enc zs) ∧ sz = sz' ∧ zs.map enc = es
  | _ => False

def apR {α : Type} (st : St) (d : Nat) (T : TypeId) (sz bytes : Nat) (enc : α → List DV) (s x : AV) : WR := match s with
  | .nilS => .ex (α := List α) True (hget st.hp d = none) (fun zs => srcQ st true sz enc x zs ∧ zs.length * bytes ≤ 140737488355328) (fun zs => ⟨st.env, hset st.hp d (.arr T true true sz enc zs)⟩) (fun zs => .own d 0 zs.length true)
  | .lits _ _ [] => .ex (α := List α) True (hget st.hp d = none) (fun zs => srcQ st true sz enc x zs ∧ zs.length * bytes ≤ 140737488355328) (fun zs => ⟨st.env, hset st.hp d (.arr T true true sz enc zs)⟩) (fun zs => .own d 0 zs.length true)
  | .own id off len app => match hget st.hp id with
    | some (.arr (α := β) T' mov fr sz' enc' xs) => .ex (α := List β) (off + len ≤ xs.length) (off = 0 ∧ app = true ∧ mov = true ∧ T' = T ∧ sz' = sz) (fun zs => srcQ st fr sz' enc' x zs ∧ (len + zs.length) * bytes ≤ 140737488355328)
        (fun zs => ⟨killE id st.env, hset (killH id st.hp) id (.arr T' true fr sz' enc' (xs.take len ++ zs))⟩) (fun zs => .own id 0 (len + zs.length) true)
    | _ => .bad
  | _ => .bad

def cpR (st : St) (sz : Nat) (d s : AV) : WR := match d with
  | .own id off len app => match hget st.hp id with
    | some (.arr (α := β) T' mov fr sz' enc' xs) => .ex (α := List β) (off + len ≤ xs.length) (sz' = sz) (fun zs => srcQ st fr sz' enc' s zs)
        (fun zs => ⟨st.env, hset st.hp id (.arr T' mov fr sz' enc' (xs.take off ++ zs.take len ++ xs.drop (off + min len zs.length)))⟩) (fun zs => .int .i64 ((min len zs.length : Nat) : Int))
    | _ => .bad
  | _ => .bad

def wres (st : St) (d : Option Nat) : WM → WR
  | .st n x y => match d with | none => stR st n (evX st x) (evX st y) | some _ => .bad
  | .mk T sz bytes zs enc z n c => match d with | some d => mkR st d T sz bytes zs enc z (evX st n) (evX st c) | none => .bad
  | .bs T sz parts => match d with | some d => bsR st d sz (parts.map (evX st)) | none => .bad
  | .box T n x => match d with | some d => boxR st d T n (evX st x) | none => .bad
  | .al T zs => match d with | some d => alR st d T zs | none => .bad
  | .ap T sz bytes enc s x => match d with | some d => apR st d T sz bytes enc (evX st s) (evX st x) | none => .bad
  | .cp sz dd s => match d with | some _ => cpR st sz (evX st dd) (evX st s) | none => .bad

def zeroOf (P : Program) (T : TypeId) (sz : Nat) (zs : List ZV) : Bool := match P.info? T with
  | some i => i.size == sz && (match i.zero with | some z => z.cells.toList.length == sz && chkZs z.cells.toList zs | none => false)
  | none => false

def chkParts : Nat → List (Nat × Operand) → List X → Bool
  | _, [], [] => true
  | i, (j, o) :: ps, x :: xs => i == j && chkX o x && chkParts (i + 1) ps xs
  | _, _, _ => false

def chkWM (P : Program) (N : Nat) (o : Oper) : WM → Bool
  | .st n x y => o.dst.isNone && (match o.op with | .store t a v => chkX a x && chkX v y && (P.info? t).map (·.size) == some n && n != 0 | _ => false)
  | .mk T sz bytes zs enc z n c => (match o.op with
    | .makeSlice t l k => chkX l n && chkX k c && (match P.underlying t with | some (.slice e) => e == T | _ => false) && zeroOf P T sz zs && (P.info? T).map (·.bytes) == some bytes && sz != 0
    | _ => false)
  | .bs T sz parts => (match o.op with
    | .buildSlice t n ps => chkParts 0 ps.toList parts && n == parts.length && (match P.underlying t with | some (.slice e) => e == T | _ => false) && (match P.info? T with | some i => i.size == sz && n * sz ≤ 16777216 && (match i.zero with | some z => z.cells.size == sz | none => false) | none => false) && sz != 0
    | _ => false)
  | .box T n x => (match o.op with | .box t v => chkX v x && t == T | _ => false)
  | .al T zs => (match o.op with | .alloc t => t == T && zeroOf P T zs.length zs | _ => false)
  | .ap T sz bytes enc s x => (match o.op with
    | .call { callee := .builtin .append, args, argTypes } => (match args.toList, argTypes.toList with
      | [s', x'], [t, t'] => chkX s' s && chkX x' x && (match P.underlying t, P.underlying t' with | some (.slice e), some (.slice e') => e == T | _, _ => false) && (match P.info? T with | some i => i.size == sz && i.bytes == bytes && bytes != 0 && (match i.zero with | some z => z.cells.size == sz | none => false) | none => false) && sz != 0
      | _, _ => false)
    | _ => false)
  | .cp sz d s => (match o.op with
    | .call { callee := .builtin .copy, args, argTypes } => (match args.toList, argTypes.toList with
      | [d', s'], [t, _] => chkX d' d && chkX s' s && (elemSz P t).map (·.2) == some sz
      | _, _ => false)
    | _ => false)

section
variable {P : Program} {B : Base} {st : St} {a : Act} {w : World} {ρ : Nat → Option (Nat × Nat)} {o : Oper} {K : St → Prop}

/-- The operation runs to its end, and the state is what the short form says. -/
def WYield (P : Program) (B : Base) (a : Act) (w : World) (o : Oper) (K : St → Prop) : Prop :=
  ∃ r x w' st' ρ', (execOp a.eval o).run P w = .ok r w' ∧ ((r = .value x) ∨ (r = .skip ∧ x = undef)) ∧ RepS B st' (a.put o.dst x) w' ρ' ∧ K st'

theorem fits_rep {c : Ctx} {fr : Bool} {d : DV} {v : AV} {x : Value} (h : fits fr d v) (hr : RepC c v x) (hfr : ∀ b, c.okf true b → c.okf false b) : RepD c.w (c.okf fr) d x := by
  cases v with
  | int k m => cases d <;> simp only [fits] at h; obtain ⟨rfl, rfl⟩ := h; obtain ⟨rfl, hi⟩ := hr; exact .int _ _ hi
  | bool b => cases d <;> simp only [fits] at h; subst h; obtain rfl := hr; exact .bool _
  | str s => cases d <;> simp only [fits] at h; subst h; obtain ⟨rfl, hi⟩ := hr; exact .str _ hi
  | ro fr' sz enc xs =>
    have h' : (fr = true → fr' = true) ∧ d = .ro sz enc xs := by cases d <;> exact h
    obtain ⟨hf, rfl⟩ := h'
    refine RepD.ok_imp ?_ hr
    intro b hb
    cases fr with
    | true => rwa [hf rfl] at hb
    | false => cases fr' with
      | true => exact hfr b hb
      | false => exact hb
  | nilS =>
    cases d <;> simp only [fits] at h
    rename_i α sz enc xs
    obtain rfl : xs = [] := List.eq_nil_of_length_eq_zero h
    obtain rfl : x = .slice none 0 0 := hr
    exact .ro sz enc [] none 0 (fun _ _ => undef) (by simp) (by simp) (fun h0 => by simp at h0) (fun x hx => by cases hx) (fun i x j u h1 => by simp at h1)
  | any => cases d <;> exact h.elim
  | own => cases d <;> exact h.elim
  | rptr => cases d <;> exact h.elim
  | optr => cases d <;> exact h.elim
  | bptr => cases d <;> exact h.elim
  | lits => cases d <;> exact h.elim
  | fn => cases d <;> exact h.elim
  | agg => cases d <;> exact h.elim
  | tup => cases d <;> exact h.elim

theorem okf_weak (B : Base) (hp : Heap) (w : World) (ρ : Nat → Option (Nat × Nat)) (b : Nat) (h : (ctxOf B hp w ρ).okf true b) : (ctxOf B hp w ρ).okf false b := ⟨h.1, h.2.1, fun e => by cases e⟩

theorem down_rep {c : Ctx} {v : AV} {fr : Bool} {d : DV} {x : Value} (h : down v = some (fr, d)) (hr : RepC c v x) (g : Bool) (hg : g = true → fr = true) (hfr : ∀ b, c.okf true b → c.okf false b) : RepD c.w (c.okf g) d x := by
  refine fits_rep (v := v) ?_ hr hfr
  cases v <;> simp only [down, Option.some.injEq, Prod.mk.injEq, reduceCtorEq] at h
  · obtain ⟨rfl, rfl⟩ := h; exact ⟨rfl, rfl⟩
  · obtain ⟨rfl, rfl⟩ := h; exact rfl
  · obtain ⟨rfl, rfl⟩ := h; exact rfl
  · obtain ⟨rfl, rfl⟩ := h; exact ⟨hg, rfl⟩

theorem RepC.one {c : Ctx} {v : AV} {x : Value} (h : RepC c v x) (hs : solid v = true) : x.oneCell' = true := by
  cases v <;> simp [solid] at hs
  case int => obtain ⟨rfl, _⟩ := h; rfl
  case bool => obtain rfl := h; rfl
  case str => obtain ⟨rfl, _⟩ := h; rfl
  case nilS => obtain rfl := h; rfl
  case ro => exact RepD.one h
  case own => obtain ⟨sz, n, _, _, ⟨_, ⟨A0, rfl⟩, _⟩ | ⟨g, cap, k, o, _, rfl, _⟩⟩ := h <;> rfl
  case rptr => obtain ⟨b, off, rfl, _⟩ := h; rfl
  case optr => obtain ⟨_, _, _, _, _, _, _, _, rfl⟩ := h; rfl
  case bptr => obtain ⟨_, _, _, _, _, rfl⟩ := h; rfl
  case lits => obtain ⟨b, cell, rfl, _⟩ := h; rfl
  case fn => obtain rfl := h; rfl
  case agg => exact h.elim

theorem cells_one {x : Value} (h : x.oneCell' = true) : x.cells = #[x] := by cases x <;> first | rfl | cases h

/-- the cells of a slot's value -/
theorem cells_rep {c : Ctx} {v : AV} {x : Value} (h : RepV c v x) (hs : solid v = true) : x.cells.size = (cellsOf v).length ∧ ∀ j u, (cellsOf v)[j]? = some u → RepC1 c u (x.cells.getD j undef) := by
  by_cases hf : v.flat = true
  · rw [RepV_of_flat hf] at h
    have h1 := h.one hs
    have e : cellsOf v = [v] := by cases v <;> first | rfl | cases hf
    rw [cells_one h1, e]
    refine ⟨rfl, fun j u hu => ?_⟩
    cases j with
    | zero => simp at hu; subst hu; exact ⟨h, h1⟩
    | succ j => simp at hu
  · cases v <;> simp [AV.flat] at hf
    case agg cs => obtain ⟨vs, rfl, hs, hr⟩ := h; exact ⟨hs, hr⟩
    case tup vs => cases hs

end
end Go.Vc
