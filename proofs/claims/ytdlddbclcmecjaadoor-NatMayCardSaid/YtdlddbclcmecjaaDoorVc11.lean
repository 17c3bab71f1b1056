/-
  Vc11: code in short form; what is to be shown of it ('run'); soundness; from a body to a contract.
-/
import Derived.Test.YtdlddbclcmecjaaDoorVc10
set_option linter.unusedVariables false
set_option linter.unusedSimpArgs false
namespace Go.Vc
open Go

inductive M : Type 1
  | p (m : PM)
  | w (m : WM)
  | pick (c a b : X)
  | call (f : FuncId) (args : List X)
  | callv (x : X) (args : List X)
  | bad

/-- steps that are in no program: forgetting slots; a row that is written to no more; a row that is let go -/
inductive G
  | drop (ns : List Nat)
  | pub (id : Nat)
  | free (id : Nat)
  | ren (a b : Nat)
  | nil {α : Type} (i j id : Nat) (T : TypeId) (sz : Nat) (enc : α → List DV)

inductive MI : Type 1
  | op (d : Option Nat) (g : Option (Nat × Bool)) (m : M)
  | gh (g : G)

/-- a region that draws its order: which operation is carried out next; 'alt': either may come next -/
inductive MT : Type 1
  | nil
  | op (i : Nat) (m : MI) (t : MT)
  | alt (a b : MT)
def MT.sz : MT → Nat
  | .nil => 1
  | .op _ _ t => 1 + t.sz
  | .alt a b => 1 + a.sz + b.sz

inductive MC : Type 1
  | skip
  | never
  | dr (t : MT)
  | ops (l : List MI)
  | seq (a b : MC)
  | cond (x : X) (a b : MC)
  | block (id : Nat) (c : MC)
  | loop (c : MC)
  | exit (id : Nat)
  | ret
  | gh (g : G) (c : MC)
  | cut (c : MC)

def MC.sz : MC → Nat
  | .skip => 1
  | .never => 1
  | .dr t => 1 + t.sz
  | .ops l => 2 + l.length
  | .seq a b => 1 + a.sz + b.sz
  | .cond _ a b => 1 + a.sz + b.sz
  | .block _ c => 2 + c.sz
  | .loop c => 2 + c.sz
  | .exit _ => 2
  | .ret => 1
  | .gh _ c => 1 + c.sz
  | .cut c => 2 + c.sz

inductive It : Type 1
  | ops (l : List MI)
  | dr (t : MT)
  | code (c : MC)
  | blk (id : Nat)
  | back (J : St → Prop)

def It.sz : It → Nat
  | .ops l => 1 + l.length
  | .dr t => t.sz
  | .code c => c.sz
  | .blk _ => 1
  | .back _ => 1

def szs : List It → Nat
  | [] => 0
  | i :: k => i.sz + szs k

def popTo (id : Nat) : List It → List It
  | [] => [.back fun _ => False]
  | .blk i :: k => if i = id then k else popTo id k
  | _ :: k => popTo id k

theorem popTo_sz (id : Nat) : ∀ k : List It, szs (popTo id k) ≤ szs k + 1
  | [] => by simp [popTo, szs, It.sz]
  | .blk i :: k => by
    simp only [popTo]
    split
    · simp only [szs]; omega
    · have := popTo_sz id k; simp only [szs]; omega
  | .ops _ :: k => by have := popTo_sz id k; simp only [popTo, szs]; omega
  | .code _ :: k => by have := popTo_sz id k; simp only [popTo, szs]; omega
  | .dr _ :: k => by have := popTo_sz id k; simp only [popTo, szs]; omega
  | .back _ :: k => by have := popTo_sz id k; simp only [popTo, szs]; omega

/-! ### ghosts -/
def pubC {α : Type} (id : Nat) (fr : Bool) (sz : Nat) (enc : α → List DV) (xs : List α) : AV → AV
  | .own i off len app => if i = id then .ro fr sz enc ((xs.drop off).take len) else .own i off len app
  | .optr i j off => if i = id then .any else .optr i j off
  | v => v
def pubV {α : Type} (id : Nat) (fr : Bool) (sz : Nat) (enc : α → List DV) (xs : List α) : AV → AV
  | .agg cs => .agg (cs.map (pubC id fr sz enc xs))
  | .tup vs => .tup (vs.map fun v => match v with
    | .agg cs => .agg (cs.map (pubC id fr sz enc xs))
    | v => pubC id fr sz enc xs v)
  | v => pubC id fr sz enc xs v
def pubO {α : Type} (id : Nat) (fr : Bool) (sz : Nat) (enc : α → List DV) (xs : List α) : OB → OB
  | .blk T cs => .blk T (cs.map (pubC id fr sz enc xs))
  | o => o

/-- a row by another name -/
def renC (a b : Nat) : AV → AV
  | .own i off len app => .own (if i = a then b else i) off len app
  | .optr i j off => .optr (if i = a then b else i) j off
  | .bptr i off => .bptr (if i = a then b else i) off
  | v => v
def renV (a b : Nat) : AV → AV
  | .agg cs => .agg (cs.map (renC a b))
  | .tup vs => .tup (vs.map fun v => match v with
    | .agg cs => .agg (cs.map (renC a b))
    | v => renC a b v)
  | v => renC a b v
def renO (a b : Nat) : OB → OB
  | .blk T cs => .blk T (cs.map (renC a b))
  | o => o

/-- Steps that are for a function to which nothing is lent. -/
def G.top : G → Bool
  | .ren _ _ => true
  | .nil _ _ _ _ _ _ => true
  | _ => false
def topI : MI → Bool
  | .gh g => g.top
  | _ => false
def MC.top : MC → Bool
  | .ops l => l.any topI
  | .seq a b => a.top || b.top
  | .cond _ a b => a.top || b.top
  | .block _ c => c.top
  | .loop c => c.top
  | .gh g c => g.top || c.top
  | .cut c => c.top
  | _ => false

def gpre (st : St) : G → Prop
  | .drop _ => True
  | .pub id => match hget st.hp id with
    | some (.arr _ _ _ _ _ _) => id < 1000
    | _ => False
  | .free _ => True
  | .ren a b => (hget st.hp a).isSome = true ∧ hget st.hp b = none
  | .nil i j id _ sz _ => match hget st.hp i with
    | some (.blk _ cs) => cs[j]? = some .nilS ∧ hget st.hp id = none ∧ 0 < sz
    | _ => False

def gst (st : St) : G → St
  | .drop ns => ⟨edrop st.env ns, st.hp⟩
  | .pub id => match hget st.hp id with
    | some (.arr T mov fr sz enc xs) => ⟨st.env.map fun p => (p.1, pubV id fr sz enc xs p.2), (hdel st.hp id).map fun p => (p.1, pubO id fr sz enc xs p.2)⟩
    | _ => st
  | .free id => ⟨killE id st.env, killH id (hdel st.hp id)⟩
  | .ren a b => match hget st.hp a with
    | some ob => ⟨st.env.map fun p => (p.1, renV a b p.2), hset ((hdel st.hp a).map fun p => (p.1, renO a b p.2)) b (renO a b ob)⟩
    | none => st
  | .nil (α := α) i j id T sz enc => match hget st.hp i with
    | some (.blk T0 cs) => ⟨st.env, hset (hset st.hp i (.blk T0 (cs.set j (.own id 0 0 true)))) id (.arr T true true sz enc ([] : List α))⟩
    | _ => st

def Ent (st st' : St) : Prop := ∀ B a w ρ, RepS B st a w ρ → ∃ ρ', RepS B st' a w ρ'
theorem Ent.refl (st : St) : Ent st st := fun B a w ρ h => ⟨ρ, h⟩
theorem Ent.trans {a b c : St} (h : Ent a b) (k : Ent b c) : Ent a c := fun B x w ρ h0 => by
  obtain ⟨ρ', h1⟩ := h B x w ρ h0
  exact k B x w ρ' h1

def setB (st : St) (x : X) (b : Bool) : St := match x with
  | .t n => st.set n (.bool b)
  | _ => st

def okFn (P : Program) (f : FuncId) : Bool := match P.funcs[f]? with
  | some fn => fn.body.isSome && fn.name != "runtime.NumGoroutine"
  | none => false

/-- One operation, from this state on. -/
def T (P : Program) (m : M) (d : Option Nat) (st : St) (K : St → Prop) : Prop := match m with
  | .p m => (res st m).holds fun v => K (put? d st v)
  | .w m => (wres st d m).holds d K
  | .pick c a b => match evX st c with
    | .bool t => (t = true → K (put? d (setB st c true) (evX st a))) ∧ (t = false → K (put? d (setB st c false) (evX st b)))
    | _ => False
  | .call f args => CallP P f (args.map (evX st)) st d K
  | .callv x args => match evX st x with
    | .fn f => okFn P f = true ∧ CallP P f (args.map (evX st)) st d K
    | _ => False
  | .bad => False

def TG (P : Program) (d : Option Nat) (g : Option (Nat × Bool)) (m : M) (st : St) (K : St → Prop) : Prop := match g with
  | none => T P m d st K
  | some (t, want) => match eget st.env t with
    | .bool b => (b = want → T P m d (st.set t (.bool want)) K) ∧ (b = !want → K (put? d (st.set t (.bool (!want))) (.tup [])))
    | .tup [] => K (put? d st (.tup []))
    | _ => False

/-- What is to be shown of code: 'k': what is still to be done; 'Q': what must hold where the function returns. -/
def run (P : Program) (Q : St → Prop) (k : List It) (st : St) : Prop := match k with
  | [] => Q st
  | .ops [] :: k => run P Q k st
  | .ops (.gh g :: l) :: k => gpre st g ∧ run P Q (.ops l :: k) (gst st g)
  | .ops (.op d g m :: l) :: k => TG P d g m st fun st' => run P Q (.ops l :: k) st'
  | .dr .nil :: k => run P Q k st
  | .dr (.op _ (.gh g) t) :: k => gpre st g ∧ run P Q (.dr t :: k) (gst st g)
  | .dr (.op _ (.op d g m) t) :: k => TG P d g m st fun st' => run P Q (.dr t :: k) st'
  | .dr (.alt a b) :: k => run P Q (.dr a :: k) st ∧ run P Q (.dr b :: k) st
  | .code .skip :: k => run P Q k st
  | .code .never :: k => False
  | .code (.dr t) :: k => run P Q (.dr t :: k) st
  | .code (.ops l) :: k => run P Q (.ops l :: k) st
  | .code (.seq a b) :: k => run P Q (.code a :: .code b :: k) st
  | .code (.cond x a b) :: k => match evX st x with
    | .bool t => (t = true → run P Q (.code a :: k) (setB st x true)) ∧ (t = false → run P Q (.code b :: k) (setB st x false))
    | _ => False
  | .code (.block id c) :: k => run P Q (.code c :: .blk id :: k) st
  | .code (.loop c) :: k => ∃ (I : Nat → St → Prop) (n : Nat), (∃ st', Ent st st' ∧ I n st') ∧ ∀ n st', I n st' → run P Q (.code c :: .back (fun s => ∃ s', Ent s s' ∧ ∃ n', n' < n ∧ I n' s') :: k) st'
  | .code (.exit id) :: k => run P Q (popTo id k) st
  | .code .ret :: k => Q st
  | .code (.gh g c) :: k => gpre st g ∧ run P Q (.code c :: k) (gst st g)
  | .code (.cut c) :: k => ∃ R : St → Prop, run P Q (.code c :: .back (fun s => ∃ s', Ent s s' ∧ R s') :: k) st ∧ ∀ s', R s' → run P Q k s'
  | .blk _ :: k => run P Q k st
  | .back J :: k => J st
termination_by szs k
decreasing_by all_goals (simp only [szs, It.sz, MC.sz, MT.sz, List.length_cons]; first | omega | (have := popTo_sz id k; omega))

end Go.Vc
