/-
  Vc10: contracts, what may serve for what, calls.
-/
import Derived.Test.YtdlddbclcmecjaaDoorVc9
set_option linter.unusedVariables false
set_option linter.unusedSimpArgs false
namespace Go.Vc
open Go

/-! ### Contracts -/
def handCtx (w : World) (S : Nat → Prop) (ρ : Nat → Option (Nat × Nat)) (hp : Heap) : Ctx := ⟨w, fun fr b => b < w.heap.size ∧ ¬ owned hp ρ b ∧ (fr = true → S b ∨ w.heap.size ≤ b), ρ, shOf hp⟩

/-- What is handed to a call reads as 'args'; the rows that are lent to it stand in 'hp'. -/
structure Handed (w : World) (S : Nat → Prop) (ρ : Nat → Option (Nat × Nat)) (args : List AV) (hp : Heap) (xs : Array Value) : Prop where
  size : xs.size = args.length
  args : ∀ i v, args[i]? = some v → RepV (handCtx w S ρ hp) v (xs.getD i undef)
  inj : ∀ i j g c d, hget hp i ≠ none → hget hp j ≠ none → ρ i = some (g, c) → ρ j = some (g, d) → i = j
  lt : ∀ i g c, hget hp i ≠ none → ρ i = some (g, c) → g < w.heap.size
  rows : ∀ i ob, hget hp i = some ob → RepOB (handCtx w S ρ hp) i ob
  glob : Glob w ∧ ∀ b, gblk b → b < w.heap.size ∧ ¬ owned hp ρ b

def backCtx (w : World) (S : Nat → Prop) (ρ : Nat → Option (Nat × Nat)) (hp : Heap) (w' : World) (ρ' : Nat → Option (Nat × Nat)) (hp' : Heap) : Ctx :=
  ⟨w', fun _ b => (S b ∨ w.heap.size ≤ b) ∧ b < w'.heap.size ∧ ¬ owned hp' ρ' b ∧ ¬ owned hp ρ b, ρ', shOf hp'⟩

/-- What a call hands back: all of it new; the rows that were lent as 'hp'' says. -/
structure Back (w : World) (S : Nat → Prop) (ρ : Nat → Option (Nat × Nat)) (hp : Heap) (w' : World) (ρ' : Nat → Option (Nat × Nat)) (r : AV) (hp' : Heap) (x : Value) : Prop where
  ext : Ext (fun b => owned hp ρ b) w w'
  rep : RepV (backCtx w S ρ hp w' ρ' hp') r x
  rows : ∀ i ob, hget hp' i = some ob → RepOB (backCtx w S ρ hp w' ρ' hp') i ob
  inj : ∀ i j g c d, hget hp' i ≠ none → hget hp' j ≠ none → ρ' i = some (g, c) → ρ' j = some (g, d) → i = j
  lt : ∀ i g c, hget hp' i ≠ none → ρ' i = some (g, c) → g < w'.heap.size
  keep : ∀ i, hget hp i ≠ none → hget hp' i ≠ none
  fix : ∀ i ob, hget hp i = some ob → ob.fixed = true → ρ' i = ρ i ∧ shOf hp' i = shOf hp i
  same : ∀ i ob ob', hget hp i = some ob → hget hp' i = some ob' → ob.fixed = ob'.fixed
  wr : ∀ i g c, hget hp' i ≠ none → ρ' i = some (g, c) → w.heap.size ≤ g ∨ (owned hp ρ g ∧ 1000 ≤ i)

/-- A contract. -/
def FSpec (P : Program) (f : FuncId) (args : List AV) (hp : Heap) (post : AV → Heap → Prop) : Prop :=
  ∀ (w : World) (S : Nat → Prop) (ρ : Nat → Option (Nat × Nat)) (xs : Array Value), Handed w S ρ args hp xs →
    Calls P f xs w fun e w' => ∃ r hp' x ρ', e = .returned x ∧ post r hp' ∧ Back w S ρ hp w' ρ' r hp' x

/-! ### What may serve for what -/
/-- 'a' (a slot) may be handed over where 'b' is asked. -/
def sub (hp lent : Heap) : AV → AV → Prop
  | _, .any => True
  | .int k n, .int k' m => k = k' ∧ n = m
  | .bool b, .bool c => b = c
  | .str s, .str t => s = t
  | .nilS, .nilS => True
  | .fn f, .fn g => f = g
  | .ro fr sz enc xs, .ro fr' sz' enc' ys => (fr' = true → fr = true) ∧ DV.ro sz' enc' ys = DV.ro sz enc xs
  | .nilS, .ro _ _ _ ys => ys.length = 0
  | .own id off len _, .ro false sz enc ys => hget lent id = none ∧ (match hget hp id with
      | some (.arr _ _ _ sz' enc' xs) => DV.ro sz enc ys = DV.ro sz' enc' ((xs.drop off).take len)
      | _ => False)
  | .lits fr sz' es, .ro fr' sz enc ys => (fr' = true → fr = true) ∧ sz = sz' ∧ ys.map enc = es
  | .own id off len app, .own id' off' len' app' => id = id' ∧ off = off' ∧ len = len' ∧ (app' = true → app = true) ∧ hget lent id ≠ none
  | .optr id i off, .optr id' i' off' => id = id' ∧ i = i' ∧ off = off' ∧ hget lent id ≠ none
  | .bptr id off, .bptr id' off' => id = id' ∧ off = off' ∧ hget lent id ≠ none
  | _, _ => False

def subL (hp lent : Heap) : List AV → List AV → Prop
  | [], [] => True
  | a :: as, b :: bs => sub hp lent a b ∧ subL hp lent as bs
  | _, _ => False

def subA (hp lent : Heap) : AV → AV → Prop
  | .agg cs, .agg ds => subL hp lent cs ds
  | a, b => sub hp lent a b

def subs (hp lent : Heap) : List AV → List AV → Prop
  | [], [] => True
  | a :: as, b :: bs => subA hp lent a b ∧ subs hp lent as bs
  | _, _ => False

/-- May this row be lent as that one? -/
def lend (hp lent : Heap) : OB → OB → Prop
  | .arr T mov fr sz enc xs, .arr T' mov' fr' sz' enc' xs' => T = T' ∧ mov = mov' ∧ (fr' = true → fr = true) ∧ DV.ro sz' enc' xs' = DV.ro sz enc xs
  | .blk T cs, .blk T' cs' => T = T' ∧ subL hp lent cs cs'
  | _, _ => False

def lends (hp lent : Heap) : Heap → Prop
  | [] => True
  | (i, ob) :: t => (match hget hp i with | some ob0 => lend hp lent ob0 ob | none => False) ∧ lends hp lent t

/-- what leads to rows that may have moved is forgotten -/
def OB.movable (o : OB) : Bool := !o.fixed
def killM (env : Env) : Heap → Env
  | [] => env
  | (i, ob) :: t => if ob.fixed = true then killM env t else killE i (killM env t)
def killMH (hp : Heap) : Heap → Heap
  | [] => hp
  | (i, ob) :: t => if ob.fixed = true then killMH hp t else killH i (killMH hp t)
def hupd (hp : Heap) : Heap → Heap
  | [] => hp
  | (i, ob) :: t => hset (hupd hp t) i ob

def after (st : St) (lent : Heap) (d : Option Nat) (r : AV) (hp' : Heap) : St := put? d ⟨killM st.env lent, hupd (killMH st.hp lent) hp'⟩ r

/-- The call of 'f' on these, from this state: whatever it leaves, 'K' holds of it. -/
def CallP (P : Program) (f : FuncId) (vs : List AV) (st : St) (d : Option Nat) (K : St → Prop) : Prop :=
  ∃ args lent post, FSpec P f args lent post ∧ subs st.hp lent vs args ∧ lends st.hp lent lent ∧
    ∀ r hp', post r hp' → (∀ i, hget hp' i ≠ none → hget lent i ≠ none ∨ (hget st.hp i = none ∧ i < 1000)) ∧ K (after st lent d r hp')

section
variable {P : Program} {B : Base} {st : St} {a : Act} {w : World} {ρ : Nat → Option (Nat × Nat)} {o : Oper}

theorem hget_hupd (hp hp' : Heap) (i : Nat) : hget (hupd hp hp') i = match hget hp' i with | some o => some o | none => hget hp i := by
  induction hp' with
  | nil => rfl
  | cons p t ih =>
    obtain ⟨j, ob⟩ := p
    show hget (hset (hupd hp t) j ob) i = _
    rw [hget_hset]
    simp only [hget]
    by_cases e : j = i
    · simp [e]
    · rw [if_neg e, if_neg e, ih]

theorem eget_killM (env : Env) : ∀ (l : Heap) (n : Nat), eget (killM env l) n = l.foldr (fun p v => if p.2.fixed = true then v else killV p.1 v) (eget env n)
  | [], n => rfl
  | (i, ob) :: t, n => by
    simp only [killM, List.foldr_cons]
    split
    · exact eget_killM env t n
    · rw [eget_killE, eget_killM env t n]

theorem hget_killMH (hp : Heap) : ∀ (l : Heap) (n : Nat), hget (killMH hp l) n = (hget hp n).map (fun o => l.foldr (fun p o => if p.2.fixed = true then o else killO p.1 o) o)
  | [], n => by simp [killMH]
  | (i, ob) :: t, n => by
    simp only [killMH, List.foldr_cons]
    split
    · exact hget_killMH hp t n
    · rw [hget_killH, hget_killMH hp t n]; cases hget hp n <;> simp

theorem killMO_shape : ∀ (l : Heap) (o : OB), (l.foldr (fun p o => if p.2.fixed = true then o else killO p.1 o) o).shape = o.shape ∧ (l.foldr (fun p o => if p.2.fixed = true then o else killO p.1 o) o).fixed = o.fixed
  | [], o => ⟨rfl, rfl⟩
  | (i, ob) :: t, o => by
    simp only [List.foldr_cons]
    obtain ⟨h1, h2⟩ := killMO_shape t o
    split
    · exact ⟨h1, h2⟩
    · refine ⟨(killO_shape _ _).trans h1, ?_⟩
      rw [← h2]
      cases (t.foldr (fun p o => if p.2.fixed = true then o else killO p.1 o) o) <;> rfl

/-- is this one of the rows in the list that may move? -/
def mvIn (l : Heap) (i : Nat) : Bool := l.any fun p => p.1 == i && !p.2.fixed

theorem mvIn_cons (j : Nat) (ob : OB) (t : Heap) (i : Nat) : mvIn ((j, ob) :: t) i = ((j == i && !ob.fixed) || mvIn t i) := rfl

def midCtx (c c' : Ctx) (l : Heap) : Ctx := ⟨c'.w, c'.okf, fun i => if mvIn l i = true then c'.ρ i else c.ρ i, fun i => if mvIn l i = true then c'.sh i else c.sh i⟩

theorem killM_rep {c c' : Ctx} (ro : ∀ fr b, c.okf fr b → c'.w.heap[b]? = c.w.heap[b]? ∧ c'.okf fr b) {v : AV} {x : Value} (h : RepV c v x) :
    ∀ l : Heap, RepV (midCtx c c' l) (l.foldr (fun p v => if p.2.fixed = true then v else killV p.1 v) v) x
  | [] => RepV.mono (c' := midCtx c c' []) ⟨ro, fun i _ => ⟨by simp [midCtx, mvIn], by simp [midCtx, mvIn]⟩⟩ h
  | (j, ob) :: t => by
    have ih := killM_rep ro h t
    simp only [List.foldr_cons]
    by_cases hf : ob.fixed = true
    · rw [if_pos hf]
      have e : midCtx c c' ((j, ob) :: t) = midCtx c c' t := by
        unfold midCtx
        have : ∀ i, mvIn ((j, ob) :: t) i = mvIn t i := fun i => by rw [mvIn_cons]; simp [hf]
        simp only [this]
      rw [e]; exact ih
    · rw [if_neg hf]
      refine RepV.killed (c := midCtx c c' t) (c' := midCtx c c' ((j, ob) :: t)) ⟨fun fr b hb => ⟨rfl, hb⟩, fun i hi _ => ?_⟩ ih
      have : mvIn ((j, ob) :: t) i = mvIn t i := by rw [mvIn_cons]; simp [Ne.symm hi]
      simp only [midCtx, this, and_self]

theorem killM_repOB {c c' : Ctx} (ro : ∀ fr b, c.okf fr b → c'.w.heap[b]? = c.w.heap[b]? ∧ c'.okf fr b) {k : Nat} {o : OB} (hb : ∀ g cap, c.ρ k = some (g, cap) → c'.w.heap[g]? = c.w.heap[g]?) (h : RepOB c k o) :
    ∀ l : Heap, mvIn l k = false → RepOB (midCtx c c' l) k (l.foldr (fun p o => if p.2.fixed = true then o else killO p.1 o) o)
  | [], _ => RepOB.mono (c' := midCtx c c' []) ⟨ro, fun i _ => ⟨by simp [midCtx, mvIn], by simp [midCtx, mvIn]⟩⟩ (by simp [midCtx, mvIn]) hb h
  | (j, ob) :: t, hk => by
    rw [mvIn_cons, Bool.or_eq_false_iff] at hk
    have ih := killM_repOB ro hb h t hk.2
    simp only [List.foldr_cons]
    by_cases hf : ob.fixed = true
    · rw [if_pos hf]
      have e : midCtx c c' ((j, ob) :: t) = midCtx c c' t := by
        unfold midCtx
        have : ∀ i, mvIn ((j, ob) :: t) i = mvIn t i := fun i => by rw [mvIn_cons]; simp [hf]
        simp only [this]
      rw [e]; exact ih
    · rw [if_neg hf]
      have hjk : j ≠ k := by rintro rfl; have := hk.1; simp at this; exact hf this
      have e : ∀ i, j ≠ i → mvIn ((j, ob) :: t) i = mvIn t i := fun i hi => by rw [mvIn_cons]; simp [hi]
      exact RepOB.killed (c := midCtx c c' t) (c' := midCtx c c' ((j, ob) :: t)) (id := j) ⟨fun fr b hb => ⟨rfl, hb⟩, fun i hi _ => by simp only [midCtx, e i (Ne.symm hi), and_self]⟩ (by simp only [midCtx, e k hjk]) (fun _ _ _ => rfl) ih

theorem mvIn_hget {l : Heap} {i : Nat} (hnd : ∀ j ob, (j, ob) ∈ l → hget l j = some ob) (h : mvIn l i = true) : ∃ ob, hget l i = some ob ∧ ob.fixed = false := by
  obtain ⟨p, hp, hq⟩ := List.any_eq_true.1 h
  simp only [Bool.and_eq_true, beq_iff_eq, Bool.not_eq_true'] at hq
  obtain ⟨rfl, hf⟩ := hq
  exact ⟨p.2, hnd p.1 p.2 hp, hf⟩
theorem hget_mem {l : Heap} {i : Nat} {ob : OB} (h : hget l i = some ob) : (i, ob) ∈ l := by
  induction l with
  | nil => cases h
  | cons p t ih =>
    obtain ⟨j, o⟩ := p
    simp only [hget] at h
    split at h
    · rename_i e; subst e; simp at h; subst h; simp
    · exact List.mem_cons_of_mem _ (ih h)

theorem hget_none_mem {l : Heap} {i : Nat} (h : hget l i = none) : ∀ p, p ∈ l → p.1 ≠ i := by
  induction l with
  | nil => intro p hp; cases hp
  | cons q t ih =>
    obtain ⟨j, o⟩ := q
    simp only [hget] at h
    split at h
    · cases h
    · rename_i hne
      intro p hp
      rcases List.mem_cons.1 hp with rfl | hp
      · exact hne
      · exact ih h p hp

/-! what is handed over reads as it is asked -/
theorem dv_ro_rep {w : World} {ok : Nat → Prop} {α β : Type} {s1 s2 : Nat} {e1 : α → List DV} {e2 : β → List DV} {l1 : List α} {l2 : List β} {v : Value} (he : DV.ro s1 e1 l1 = DV.ro s2 e2 l2) (h : RepD w ok (.ro s2 e2 l2) v) : RepD w ok (.ro s1 e1 l1) v := he ▸ h

theorem nil_rep {w : World} {ok : Nat → Prop} {α : Type} {sz : Nat} {enc : α → List DV} {xs : List α} (h : xs.length = 0) : RepD w ok (.ro sz enc xs) (.slice none 0 0) := by
  obtain rfl := List.eq_nil_of_length_eq_zero h
  exact .ro sz enc [] none 0 (fun _ _ => undef) (by simp) (by simp) (fun h0 => by simp at h0) (fun x hx => by cases hx) (fun i x j u h1 => by simp at h1)

/-- From one context to another in which what was known is known still. -/
structure Hand (c c' : Ctx) (lent : Heap) : Prop where
  w : c'.w = c.w
  ro : ∀ fr fr' b, (fr' = true → fr = true) → c.okf fr b → c'.okf fr' b
  row : ∀ i, hget lent i ≠ none → c'.sh i = c.sh i ∧ c'.ρ i = c.ρ i

theorem lits_rep {w : World} {ok : Nat → Prop} {α : Type} {sz : Nat} {enc : α → List DV} {ys : List α} {b n : Nat} {cell : Nat → Nat → Value} (hn : n = (ys.map enc).length) (hm : n ≤ 281474976710656) (hb : ok b)
    (hcell : ∀ i j, i < (ys.map enc).length → j < sz → w.cell? ⟨b, i * sz + j, none⟩ = some (cell i j)) (hs : ∀ e, e ∈ ys.map enc → e.length = sz) (hd : ∀ i e j u, (ys.map enc)[i]? = some e → e[j]? = some u → RepD w ok u (cell i j)) :
    RepD w ok (.ro sz enc ys) (.slice (some ⟨b, 0, none⟩) n n) := by
  obtain rfl : n = ys.length := by rw [hn]; simp
  refine .ro sz enc ys _ _ cell (Nat.le_refl _) hm (fun h0 => ⟨b, 0, rfl, hb, fun i j hi hj => by rw [Nat.zero_add]; exact hcell i j (by simpa using hi) hj⟩) (fun x hx => hs _ (List.mem_map_of_mem hx)) (fun i x j u hx hu => hd i (enc x) j u (by simp [hx]) hu)

theorem sub_rep {hp lent : Heap} {c' : Ctx} (h : RepS B ⟨[], hp⟩ a w ρ) (hh : Hand (ctxOf B hp w ρ) c' lent) (hown : ∀ i g cap, hget hp i ≠ none → hget lent i = none → ρ i = some (g, cap) → c'.okf false g)
    {u v : AV} {x : Value} (hs : sub hp lent u v) (hr : RepC (ctxOf B hp w ρ) u x) : RepC c' v x := by
  obtain ⟨hw, hro, hrow⟩ := hh
  have hmono : ∀ {fr fr' : Bool} {d : DV} {x : Value}, (fr' = true → fr = true) → RepD (ctxOf B hp w ρ).w ((ctxOf B hp w ρ).okf fr) d x → RepD c'.w (c'.okf fr') d x := fun hf hd => hd.mono fun b hb => ⟨by rw [hw], hro _ _ b hf hb⟩
  cases v with
  | any => trivial
  | int k n => cases u <;> simp only [sub] at hs; obtain ⟨rfl, rfl⟩ := hs; exact hr
  | bool b => cases u <;> simp only [sub] at hs; subst hs; exact hr
  | str s => cases u <;> simp only [sub] at hs; subst hs; exact hr
  | nilS => cases u <;> simp only [sub] at hs; exact hr
  | fn f => cases u <;> simp only [sub] at hs; subst hs; exact hr
  | ro fr' sz' enc' ys =>
    cases u <;> (try simp only [sub] at hs) <;> (try exact hs.elim)
    case nilS => obtain rfl := hr; exact nil_rep hs
    case ro α fr sz enc xs => exact dv_ro_rep hs.2 (hmono hs.1 hr)
    case own id off len app =>
      cases fr' with
      | true => exact hs.elim
      | false =>
        simp only [sub] at hs
        obtain ⟨hnl, hs⟩ := hs
        split at hs
        · rename_i β T mov fr sz enc xs hob
          obtain ⟨sz2, n2, hsh, hol, hv⟩ := hr
          have hsh' : sz2 = sz ∧ n2 = xs.length := by
            have : (ctxOf B hp w ρ).sh id = some (sz, xs.length) := by simp [ctxOf, shOf, hob, OB.shape]
            rw [this] at hsh; simp at hsh; exact ⟨hsh.1.symm, hsh.2.symm⟩
          obtain ⟨rfl, rfl⟩ := hsh'
          refine dv_ro_rep hs ?_
          obtain ⟨h0, hsl, hmx, hb⟩ := h.hp id _ hob
          have hll : ((xs.drop off).take len).length = len := by rw [List.length_take, List.length_drop]; omega
          rcases hv with ⟨h1, ⟨A0, rfl⟩, rfl⟩ | ⟨g, cap, k, oo, hρ, rfl, ho, hlk, hcap, happ⟩
          · have e : (xs.drop off).take 0 = [] := List.take_zero
            rw [e]
            exact .ro sz2 enc [] A0 0 (fun _ _ => undef) (by simp) (by simp) (fun h0 => by simp at h0) (fun x hx => by cases hx) (fun i x j u h1 => by simp at h1)
          · rcases hb with ⟨hn, rfl, _⟩ | ⟨g', cap', cur, hρ', hg, hnc, hcm, hcs, hrep⟩
            · have : (ctxOf B hp w ρ).ρ id = none := hn
              rw [hρ] at this; cases this
            rw [hρ] at hρ'
            simp only [Option.some.injEq, Prod.mk.injEq] at hρ'
            obtain ⟨rfl, rfl⟩ := hρ'
            have key : RepD c'.w (c'.okf false) (.ro sz2 enc ((xs.drop off).take len)) (.slice (some ⟨g, oo, none⟩) ((xs.drop off).take len).length k) := by
              refine .ro sz2 enc _ _ _ (fun i j => cur.getD ((off + i) * sz2 + j) undef) (by omega) (by omega) (fun hpos => ⟨g, oo, rfl, hown id g cap (by rw [hob]; simp) hnl hρ, fun i j hi hj => ?_⟩) (fun z hz => hsl z (List.mem_of_mem_drop (List.mem_of_mem_take hz))) (fun i z j u hz hu => ?_)
              · rw [ho (by omega), show off * sz2 + i * sz2 + j = (off + i) * sz2 + j by rw [Nat.add_mul], hw]
                exact cell_of_block hg (by rw [hcs]; exact mul_add_lt (n := xs.length) (by omega) hnc hj)
              · rw [List.getElem?_take] at hz
                split at hz
                · rw [List.getElem?_drop] at hz
                  exact hmono (fun e => by cases e) (hrep _ z j u hz hu)
                · cases hz
            rwa [hll] at key
        · exact hs.elim
    case lits fr sz es =>
      obtain ⟨hf, rfl, rfl⟩ := hs
      obtain ⟨b, cell, rfl, hm, hb, hcell, hsz, hd⟩ := hr
      exact lits_rep (cell := cell) rfl hm (hro _ _ b hf hb) (fun i j hi hj => by rw [hw]; exact hcell i j hi hj) hsz (fun i e j u h1 h2 => hmono hf (hd i e j u h1 h2))
  | own id off len app =>
    cases u <;> simp only [sub] at hs
    rename_i id2 off2 len2 app2
    obtain ⟨rfl, rfl, rfl, ha, hl⟩ := hs
    obtain ⟨sz, n, h1, h2, h3⟩ := hr
    obtain ⟨e1, e2⟩ := hrow id2 hl
    refine ⟨sz, n, e1.trans h1, h2, ?_⟩
    rw [e2]
    rcases h3 with h3 | ⟨g, cap, k, oo, hρ, e, ho, hlk, hcap, happ⟩
    · exact .inl h3
    · exact .inr ⟨g, cap, k, oo, hρ, e, ho, hlk, hcap, fun e => happ (ha e)⟩
  | optr id i off =>
    cases u <;> simp only [sub] at hs
    rename_i id2 i2 off2
    obtain ⟨rfl, rfl, rfl, hl⟩ := hs
    obtain ⟨sz, n, g, cap, h1, h2, h3⟩ := hr
    obtain ⟨e1, e2⟩ := hrow id2 hl
    exact ⟨sz, n, g, cap, e1.trans h1, e2.trans h2, h3⟩
  | bptr id off =>
    cases u <;> simp only [sub] at hs
    rename_i id2 off2
    obtain ⟨rfl, rfl, hl⟩ := hs
    obtain ⟨n, g, cap, h1, h2, h3⟩ := hr
    obtain ⟨e1, e2⟩ := hrow id2 hl
    exact ⟨n, g, cap, e1.trans h1, e2.trans h2, h3⟩
  | rptr => cases u <;> exact hs.elim
  | lits => cases u <;> exact hs.elim
  | agg => cases u <;> exact hs.elim
  | tup => cases u <;> exact hs.elim

theorem subL_get {hp lent : Heap} : ∀ {us vs : List AV}, subL hp lent us vs → us.length = vs.length ∧ ∀ (i : Nat) (v : AV), vs[i]? = some v → ∃ u, us[i]? = some u ∧ sub hp lent u v
  | [], [], _ => ⟨rfl, fun i v h => by simp at h⟩
  | u :: us, v :: vs, h => by
    obtain ⟨h1, h2⟩ := subL_get h.2
    refine ⟨by simp [h1], fun i v' hi => ?_⟩
    cases i with
    | zero => simp at hi; subst hi; exact ⟨u, rfl, h.1⟩
    | succ i => simpa using h2 i v' (by simpa using hi)
  | [], _ :: _, h => h.elim
  | _ :: _, [], h => h.elim
theorem subs_get {hp lent : Heap} : ∀ {us vs : List AV}, subs hp lent us vs → us.length = vs.length ∧ ∀ (i : Nat) (v : AV), vs[i]? = some v → ∃ u, us[i]? = some u ∧ subA hp lent u v
  | [], [], _ => ⟨rfl, fun i v h => by simp at h⟩
  | u :: us, v :: vs, h => by
    obtain ⟨h1, h2⟩ := subs_get h.2
    refine ⟨by simp [h1], fun i v' hi => ?_⟩
    cases i with
    | zero => simp at hi; subst hi; exact ⟨u, rfl, h.1⟩
    | succ i => simpa using h2 i v' (by simpa using hi)
  | [], _ :: _, h => h.elim
  | _ :: _, [], h => h.elim

theorem sub_one {hp lent : Heap} {u v : AV} (h : sub hp lent u v) : v.flat = true := by
  cases v <;> first | rfl | (cases u <;> exact h.elim)

theorem subA_rep {hp lent : Heap} {c' : Ctx} (h : RepS B ⟨[], hp⟩ a w ρ) (hh : Hand (ctxOf B hp w ρ) c' lent) (hown : ∀ i g cap, hget hp i ≠ none → hget lent i = none → ρ i = some (g, cap) → c'.okf false g)
    {u v : AV} {x : Value} (hs : subA hp lent u v) (hr : RepA (ctxOf B hp w ρ) u x) : RepA c' v x := by
  have key : ∀ {u v : AV}, sub hp lent u v → RepA (ctxOf B hp w ρ) u x → RepA c' v x := fun {u v} hs hr => by
    by_cases ha : v = .any
    · subst ha; trivial
    · rw [RepA_of_flat (sub_one hs)]
      by_cases hf : u.flat = true
      · rw [RepA_of_flat hf] at hr
        exact sub_rep h hh hown hs hr
      · cases u <;> simp [AV.flat] at hf <;> (cases v <;> first | exact (ha rfl).elim | exact hs.elim)
  have hs' : (∃ cs ds, u = .agg cs ∧ v = .agg ds) ∨ sub hp lent u v := by
    cases u <;> cases v <;> first | exact .inl ⟨_, _, rfl, rfl⟩ | exact .inr hs
  rcases hs' with ⟨cs, ds, rfl, rfl⟩ | hs'
  case inr => exact key hs' hr
  obtain ⟨vs, e, hsz, hc⟩ := hr
  obtain ⟨h1, h2⟩ := subL_get hs
  refine ⟨vs, e, by omega, fun i d hd => ?_⟩
  obtain ⟨u, hu, hsu⟩ := h2 i d hd
  exact ⟨sub_rep h hh hown hsu (hc i u hu).1, (hc i u hu).2⟩

theorem lends_get {hp lent : Heap} : ∀ {l : Heap}, lends hp lent l → ∀ {i : Nat} {ob : OB}, hget l i = some ob → ∃ ob0, hget hp i = some ob0 ∧ lend hp lent ob0 ob
  | [], _, i, ob, h => by cases h
  | (j, o) :: t, hl, i, ob, h => by
    simp only [hget] at h
    split at h
    · rename_i e
      subst e
      simp at h; subst h
      have h1 := hl.1
      split at h1
      · exact ⟨_, by assumption, h1⟩
      · exact h1.elim
    · exact lends_get hl.2 h

theorem lend_shape {hp lent : Heap} {o o' : OB} (h : lend hp lent o o') : o'.shape = o.shape ∧ o'.fixed = o.fixed := by
  cases o <;> cases o' <;> simp only [lend] at h
  · obtain ⟨_, hm, _, he⟩ := h
    injection he with h1 h2 h3 h4
    subst h1; subst h2
    obtain rfl := eq_of_heq h3
    obtain rfl := eq_of_heq h4
    exact ⟨rfl, by simp [OB.fixed, hm]⟩
  · exact ⟨by simp [OB.shape, (subL_get h.2).1], rfl⟩

theorem lend_rep {hp lent : Heap} {c' : Ctx} (h : RepS B ⟨[], hp⟩ a w ρ) (hh : Hand (ctxOf B hp w ρ) c' lent) (hown : ∀ i g cap, hget hp i ≠ none → hget lent i = none → ρ i = some (g, cap) → c'.okf false g)
    {i : Nat} {o o' : OB} (hi : hget lent i ≠ none) (hs : lend hp lent o o') (hr : RepOB (ctxOf B hp w ρ) i o) : RepOB c' i o' := by
  obtain ⟨hw, hro, hrow⟩ := hh
  cases o <;> cases o' <;> simp only [lend] at hs
  case arr.arr α T mov fr sz enc xs β T' mov' fr' sz' enc' xs' =>
    obtain ⟨rfl, rfl, hf, he⟩ := hs
    injection he with h1 h2 h3 h4
    subst h1; subst h2
    obtain rfl := eq_of_heq h3
    obtain rfl := eq_of_heq h4
    obtain ⟨h0, hs, hm, h1 | ⟨g, cap, cur, h1, h2, h3, h4, h5, h6⟩⟩ := hr
    · exact ⟨h0, hs, hm, .inl ⟨(hrow i hi).2.trans h1.1, h1.2⟩⟩
    · exact ⟨h0, hs, hm, .inr ⟨g, cap, cur, (hrow i hi).2.trans h1, by rw [hw]; exact h2, h3, h4, h5, fun p x j u hx hu => (h6 p x j u hx hu).mono fun b hb => ⟨by rw [hw], hro _ _ b hf hb⟩⟩⟩
  case blk.blk T cs T' cs' =>
    obtain ⟨rfl, hl⟩ := hs
    obtain ⟨g, cap, cur, h1, h2, h3, h4⟩ := hr
    obtain ⟨h5, h6⟩ := subL_get hl
    refine ⟨g, cap, cur, (hrow i hi).2.trans h1, by rw [hw]; exact h2, by omega, fun k v hv => ?_⟩
    obtain ⟨u, hu, hsu⟩ := h6 k v hv
    exact ⟨sub_rep h ⟨hw, hro, hrow⟩ hown hsu (h4 k u hu).1, (h4 k u hu).2⟩

theorem RepS.bare {env : Env} {hp : Heap} (h : RepS B ⟨env, hp⟩ a w ρ) : RepS B ⟨[], hp⟩ a w ρ := h.weaken (env' := []) fun n => .inl rfl

/-- The call. -/
theorem call_ok {f : FuncId} {vs : List AV} {d : Option Nat} {K : St → Prop} (h : RepS B st a w ρ) (hN : ∀ t, d = some t → t < B.N) (hc : CallP P f vs st d K) {xs : Array Value} (hsz : xs.size = vs.length)
    (hx : ∀ i v, vs[i]? = some v → RepV (ctxOf B st.hp w ρ) v (xs.getD i undef)) :
    Calls P f xs w fun e w' => ∃ x st' ρ', e = .returned x ∧ RepS B st' (a.put d x) w' ρ' ∧ K st' := by
  obtain ⟨env, hp⟩ := st
  obtain ⟨args, lent, post, hspec, hsubs, hlends, hpost⟩ := hc
  have hin : ∀ i, hget lent i ≠ none → hget hp i ≠ none := fun i hi => by
    cases hl : hget lent i with
    | none => exact absurd hl hi
    | some ob => obtain ⟨ob0, h1, _⟩ := lends_get hlends hl; rw [h1]; simp
  have hlo : ∀ b, owned lent ρ b → owned hp ρ b := fun b ⟨i, h1, c, h2⟩ => ⟨i, hin i h1, c, h2⟩
  have hsh : ∀ i, hget lent i ≠ none → shOf lent i = shOf hp i := fun i hi => by
    cases hl : hget lent i with
    | none => exact absurd hl hi
    | some ob =>
      obtain ⟨ob0, h1, h2⟩ := lends_get hlends hl
      simp only [shOf, hl, h1, Option.map_some, (lend_shape h2).1]
  let S : Nat → Prop := fun b => b < w.heap.size ∧ ¬ owned hp ρ b ∧ (B.S b ∨ B.w0.heap.size ≤ b)
  have hb := h.bare
  have hhand : Hand (ctxOf B hp w ρ) (handCtx w S ρ lent) lent := ⟨rfl, fun fr fr' b hf hb => ⟨hb.1, fun ho => hb.2.1 (hlo b ho), fun e => .inl ⟨hb.1, hb.2.1, hb.2.2 (hf e)⟩⟩, fun i hi => ⟨hsh i hi, rfl⟩⟩
  have hown : ∀ i g cap, hget hp i ≠ none → hget lent i = none → ρ i = some (g, cap) → (handCtx w S ρ lent).okf false g := fun i g cap h1 h2 h3 => ⟨h.lt i g cap h1 h3, fun ⟨j, h4, c, h5⟩ => by
    have := h.inj i j g cap c h1 (hin j h4) h3 h5
    subst this; exact h4 h2, fun e => by cases e⟩
  obtain ⟨hal, hag⟩ := subs_get hsubs
  have hnotup : ∀ {u v : AV} {x : Value}, subA hp lent u v → RepV (ctxOf B hp w ρ) u x → RepV (handCtx w S ρ lent) v x := by
    intro u v x hs hr
    have hr' : RepA (ctxOf B hp w ρ) u x ∨ v = .any := by
      cases u with
      | tup vs => right; cases v <;> first | rfl | exact hs.elim
      | _ => exact .inl hr
    rcases hr' with hr' | rfl
    · have := subA_rep hb hhand hown hs hr'
      cases v with
      | tup vs => exact this.elim
      | _ => exact this
    · trivial
  have hH : Handed w S ρ args lent xs := ⟨hsz.trans hal, fun i v hv => by
      obtain ⟨u, hu, hsu⟩ := hag i v hv
      exact hnotup hsu (hx i u hu),
    fun i j g c d hi hj => h.inj i j g c d (hin i hi) (hin j hj), fun i g c hi => h.lt i g c (hin i hi), fun i ob hi => by
      obtain ⟨ob0, h1, h2⟩ := lends_get hlends hi
      exact lend_rep hb hhand hown (by rw [hi]; simp) h2 (h.hp i ob0 h1),
    Glob_keep (fun b hb => h.ext.block b (B.glob.2 b hb).1 (B.glob.2 b hb).2) B.glob.1, fun b hb => ⟨Nat.lt_of_lt_of_le (B.glob.2 b hb).1 h.ext.size, fun ⟨i, h1, c, h2⟩ => by
      rcases h.wr i b c (hin i h1) h2 with h3 | h3
      · have := (B.glob.2 b hb).1; omega
      · exact (B.glob.2 b hb).2 h3.1⟩⟩
  refine (hspec w S ρ xs hH).mono ?_
  rintro e w' ⟨r, hp', x, ρ1, rfl, hp1, hback⟩
  obtain ⟨hnew, hK⟩ := hpost r hp' hp1
  obtain ⟨hext, hrep, hrows, hinj, hlt, hkeep, hfix, hsame, hwr⟩ := hback
  refine ⟨x, _, fun i => if hget hp' i ≠ none then ρ1 i else ρ i, rfl, ?_, hK⟩
  generalize hρ2 : (fun i => if hget hp' i ≠ none then ρ1 i else ρ i) = ρ2
  have e1 : ∀ i, hget hp' i ≠ none → ρ2 i = ρ1 i := fun i hi => by rw [← hρ2]; simp only; rw [if_pos hi]
  have e2 : ∀ i, hget hp' i = none → ρ2 i = ρ i := fun i hi => by rw [← hρ2]; simp only; rw [if_neg (by simp [hi])]
  let hpA := hupd (killMH hp lent) hp'
  have hgA : ∀ i, hget hpA i = match hget hp' i with | some o => some o | none => (hget hp i).map (fun o => lent.foldr (fun p o => if p.2.fixed = true then o else killO p.1 o) o) := fun i => by
    show hget (hupd (killMH hp lent) hp') i = _
    rw [hget_hupd]
    split
    · rfl
    · exact hget_killMH hp lent i
  have hneA : ∀ i, hget hpA i ≠ none → hget hp' i ≠ none ∨ hget hp' i = none ∧ hget hp i ≠ none ∧ hget lent i = none := fun i hi => by
    cases h1 : hget hp' i with
    | some o => exact .inl (by simp)
    | none =>
      refine .inr ⟨rfl, ?_, ?_⟩
      · intro h2; apply hi; rw [hgA, h1, h2]; rfl
      · cases h2 : hget lent i with
        | none => rfl
        | some o => exact absurd h1 (hkeep i (by rw [h2]; simp))
  -- whose block is it?
  have hblk : ∀ i g c, hget hpA i ≠ none → ρ2 i = some (g, c) → (hget hp' i ≠ none ∧ (w.heap.size ≤ g ∨ (owned lent ρ g ∧ 1000 ≤ i)) ∧ g < w'.heap.size) ∨ (hget hp' i = none ∧ hget hp i ≠ none ∧ hget lent i = none ∧ ρ i = some (g, c)) := fun i g c hi hg => by
    rcases hneA i hi with h1 | ⟨h1, h2, h3⟩
    · rw [e1 i h1] at hg; exact .inl ⟨h1, hwr i g c h1 hg, hlt i g c h1 hg⟩
    · rw [e2 i h1] at hg; exact .inr ⟨h1, h2, h3, hg⟩
  have hsizes := hext.size
  have hownA : ∀ b, b < w.heap.size → ¬ owned hp ρ b → ¬ owned hpA ρ2 b := fun b hb hn ⟨i, hi, c, hg⟩ => by
    rcases hblk i b c hi hg with ⟨_, h2 | h2, _⟩ | ⟨_, h2, _, h3⟩
    · omega
    · exact hn (hlo b h2.1)
    · exact hn ⟨i, h2, c, h3⟩
  have hro : ∀ fr b, (ctxOf B hp w ρ).okf fr b → (ctxOf B hpA w' ρ2).w.heap[b]? = (ctxOf B hp w ρ).w.heap[b]? ∧ (ctxOf B hpA w' ρ2).okf fr b := fun fr b hb =>
    ⟨hext.block b hb.1 (fun ho => hb.2.1 (hlo b ho)), Nat.lt_of_lt_of_le hb.1 hsizes, hownA b hb.1 hb.2.1, hb.2.2⟩
  -- what came back, read in the new state
  have hleB : (backCtx w S ρ lent w' ρ1 hp').Le (ctxOf B hpA w' ρ2) := ⟨fun fr b hb => ⟨rfl, hb.2.1, fun ⟨i, hi, c, hg⟩ => by
      rcases hblk i b c hi hg with ⟨h1, h2, _⟩ | ⟨_, h2, h4, h3⟩
      · rw [e1 i h1] at hg; exact hb.2.2.1 ⟨i, h1, c, hg⟩
      · rcases hb.1 with hS | hge
        · exact hS.2.1 ⟨i, h2, c, h3⟩
        · have := h.lt i b c h2 h3; omega, fun _ => by
      rcases hb.1 with hS | hge
      · exact hS.2.2
      · exact .inr (Nat.le_trans h.ext.size hge)⟩, fun i hi => by
    have h1 : hget hp' i ≠ none := fun h => hi (by simp [backCtx, shOf, h])
    refine ⟨?_, e1 i h1⟩
    show shOf hpA i = shOf hp' i
    unfold shOf
    rw [hgA]
    cases h2 : hget hp' i with
    | none => exact absurd h2 h1
    | some o => rfl⟩
  have hmid : (midCtx (ctxOf B hp w ρ) (ctxOf B hpA w' ρ2) lent).Le (ctxOf B hpA w' ρ2) := ⟨fun fr b hb => ⟨rfl, hb⟩, fun i hi => by
    by_cases hm : mvIn lent i = true
    · simp only [midCtx, if_pos hm, and_self]
    · simp only [midCtx, if_neg hm] at hi ⊢
      have hih : hget hp i ≠ none := fun h => hi (by simp [ctxOf, shOf, h])
      cases hl : hget lent i with
      | some ob =>
        have hfx : ob.fixed = true := by
          by_cases hf : ob.fixed = true
          · exact hf
          · exact absurd (List.any_eq_true.2 ⟨(i, ob), hget_mem hl, by simp [hf]⟩) hm
        obtain ⟨h1, h2⟩ := hfix i ob hl hfx
        have h3 := hkeep i (by rw [hl]; simp)
        refine ⟨?_, (e1 i h3).trans h1⟩
        show shOf hpA i = shOf hp i
        rw [← hsh i (by rw [hl]; simp), ← h2]
        unfold shOf
        rw [hgA]
        cases h4 : hget hp' i with
        | none => exact absurd h4 h3
        | some o => rfl
      | none =>
        have h3 : hget hp' i = none := by
          cases h4 : hget hp' i with
          | none => rfl
          | some o =>
            rcases hnew i (by rw [h4]; simp) with h5 | ⟨h5, _⟩
            · exact absurd hl h5
            · exact absurd h5 hih
        refine ⟨?_, e2 i h3⟩
        show shOf hpA i = shOf hp i
        unfold shOf
        rw [hgA, h3]
        cases hget hp i with
        | none => rfl
        | some o => simp [(killMO_shape lent o).1]⟩
  have hst : RepS B ⟨killM env lent, hpA⟩ a w' ρ2 := by
    refine ⟨h.defers, h.size, ⟨hext.os.trans h.ext.os, hext.tape.trans h.ext.tape, hext.output.trans h.ext.output, Nat.le_trans h.ext.size hsizes, fun k hk hbk => ?_, fun ad => (hext.froz ad).trans (h.ext.froz ad)⟩, ?_, ?_, ?_, ?_, fun n => ?_, h.fixN, ?_⟩
    · have hno : ¬ owned hp ρ k := by
        rintro ⟨i, h1, c, h2⟩
        rcases h.wr i k c h1 h2 with h3 | h3
        · omega
        · exact hbk h3.1
      exact (hext.block k (Nat.lt_of_lt_of_le hk h.ext.size) (fun ho => hno (hlo k ho))).trans (h.ext.block k hk hbk)
    · intro i j g c c' hi hj h1 h2
      rcases hblk i g c hi h1 with ⟨p1, p2, p3⟩ | ⟨p1, p2, p3, p4⟩ <;> rcases hblk j g c' hj h2 with ⟨q1, q2, q3⟩ | ⟨q1, q2, q3, q4⟩
      · rw [e1 i p1] at h1; rw [e1 j q1] at h2; exact hinj i j g c c' p1 q1 h1 h2
      · rcases p2 with p2 | ⟨⟨k, k1, kc, k2⟩, _⟩
        · have := h.lt j g c' q2 q4; omega
        · have := h.inj k j g kc c' (hin k k1) q2 k2 q4
          subst this; exact absurd q3 k1
      · rcases q2 with q2 | ⟨⟨k, k1, kc, k2⟩, _⟩
        · have := h.lt i g c p2 p4; omega
        · have := h.inj i k g c kc p2 (hin k k1) p4 k2
          subst this; exact absurd p3 k1
      · exact h.inj i j g c c' p2 q2 p4 q4
    · intro i g c hi h1
      rcases hblk i g c hi h1 with ⟨_, _, p3⟩ | ⟨p1, p2, p3, p4⟩
      · exact p3
      · have := h.lt i g c p2 p4; omega
    · intro i g c hi h1
      rcases hblk i g c hi h1 with ⟨_, p2 | ⟨⟨k, k1, kc, k2⟩, hi1000⟩, _⟩ | ⟨p1, p2, p3, p4⟩
      · have := h.ext.size; left; omega
      · exact (h.wr k g kc (hin k k1) k2).imp id fun q => ⟨q.1, hi1000⟩
      · exact h.wr i g c p2 p4
    · intro i ob hi
      have hi' : hget hpA i = some ob := hi
      rw [hgA] at hi'
      cases h1 : hget hp' i with
      | some o =>
        rw [h1] at hi'
        simp at hi'; subst hi'
        exact (hrows i o h1).mono hleB (e1 i (by rw [h1]; simp)) (fun _ _ _ => rfl)
      | none =>
        rw [h1] at hi'
        cases h2 : hget hp i with
        | none => rw [h2] at hi'; cases hi'
        | some o =>
          rw [h2] at hi'
          simp only [Option.map_some, Option.some.injEq] at hi'
          subst hi'
          have hli : hget lent i = none := by
            cases h3 : hget lent i with
            | none => rfl
            | some o => exact absurd h1 (hkeep i (by rw [h3]; simp))
          have hmv : mvIn lent i = false := by
            cases hm : mvIn lent i with
            | false => rfl
            | true =>
              obtain ⟨p, hp1, hq⟩ := List.any_eq_true.1 hm
              simp only [Bool.and_eq_true, beq_iff_eq] at hq
              exact absurd hq.1 (hget_none_mem hli p hp1)
          have hr := killM_repOB (c := ctxOf B hp w ρ) (c' := ctxOf B hpA w' ρ2) hro (k := i) (fun g cap hg => by
            have hgl := h.lt i g cap (by rw [h2]; simp) hg
            exact hext.block g hgl (fun ⟨k, k1, kc, k2⟩ => by
              have := h.inj i k g cap kc (by rw [h2]; simp) (hin k k1) hg k2
              subst this; exact k1 hli)) (h.hp i o h2) lent hmv
          exact hr.mono hmid (by simp only [midCtx, hmv]; exact e2 i h1) (fun _ _ _ => rfl)
    · show RepV _ (eget (killM env lent) n) _
      rw [eget_killM]
      exact (killM_rep hro (h.env n) lent).mono hmid
    · intro i v ob hv hi hf
      have hi' : hget hpA i = some ob := hi
      rw [hgA] at hi'
      cases h1 : hget hp' i with
      | some o =>
        rw [h1] at hi'
        simp at hi'; subst hi'
        rcases hnew i (by rw [h1]; simp) with h5 | ⟨_, h5⟩
        · cases h3 : hget lent i with
          | none => exact absurd h3 h5
          | some ol =>
            have hfl := hsame i ol o h3 h1
            obtain ⟨g1, g2⟩ := hfix i ol h3 (by rw [hfl]; exact hf)
            obtain ⟨o0, h6, h7⟩ := lends_get hlends h3
            obtain ⟨f1, f2⟩ := h.fix i v o0 hv h6 (by rw [← (lend_shape h7).2, hfl]; exact hf)
            refine ⟨(e1 i (by rw [h1]; simp)).trans (g1.trans f1), ?_⟩
            have g3 : some o.shape = some o0.shape := by
              have := g2.trans (hsh i h5)
              simpa [shOf, h1, h6] using this
            rw [Option.some.inj g3]; exact f2
        · have := (h.fixN i v hv).2; omega
      | none =>
        rw [h1] at hi'
        cases h2 : hget hp i with
        | none => rw [h2] at hi'; cases hi'
        | some o =>
          rw [h2] at hi'
          simp only [Option.map_some, Option.some.injEq] at hi'
          subst hi'
          obtain ⟨k1, k2⟩ := killMO_shape lent o
          rw [k1, e2 i h1]
          exact h.fix i v o hv h2 (by rw [← k2]; exact hf)
  have hrV : RepV (ctxOf B hpA w' ρ2) r x := hrep.mono hleB
  show RepS B (put? d ⟨killM env lent, hpA⟩ r) (a.put d x) w' ρ2
  cases d with
  | none => exact hst
  | some d => exact hst.set (hN d rfl) hrV

end
end Go.Vc
