/-
  Vc16: from a body to a contract.
-/
import Derived.Test.YtdlddbclcmecjaaDoorVc15
set_option linter.unusedVariables false
set_option linter.unusedSimpArgs false
namespace Go.Vc
open Go

/-- 'a' (a slot at the return) may be handed back where 'b' is promised; 'hp'' : the rows that are handed back. -/
def ret1 (hp hp' : Heap) : AV → AV → Prop
  | _, .any => True
  | .int k n, .int k' m => k = k' ∧ n = m
  | .bool b, .bool c => b = c
  | .str s, .str t => s = t
  | .nilS, .nilS => True
  | .fn f, .fn g => f = g
  | .ro fr sz enc xs, .ro _ sz' enc' ys => fr = true ∧ DV.ro sz' enc' ys = DV.ro sz enc xs
  | .nilS, .ro _ _ _ ys => ys.length = 0
  | .own id off len _, .ro _ sz enc ys => id < 1000 ∧ hget hp' id = none ∧ (match hget hp id with
      | some (.arr _ _ fr sz' enc' xs) => (fr = true ∨ scalE enc' xs) ∧ DV.ro sz enc ys = DV.ro sz' enc' ((xs.drop off).take len)
      | _ => False)
  | .lits fr sz' es, .ro _ sz enc ys => fr = true ∧ sz = sz' ∧ ys.map enc = es
  | .own id off len app, .own id' off' len' app' => id = id' ∧ off = off' ∧ len = len' ∧ (app' = true → app = true) ∧ hget hp' id ≠ none
  | .optr id i off, .optr id' i' off' => id = id' ∧ i = i' ∧ off = off' ∧ hget hp' id ≠ none
  | .bptr id off, .bptr id' off' => id = id' ∧ off = off' ∧ hget hp' id ≠ none
  | .rptr fr cs, .rptr _ ds => fr = true ∧ cs = ds
  | _, _ => False

def ret1L (hp hp' : Heap) : List AV → List AV → Prop
  | [], [] => True
  | a :: as, b :: bs => ret1 hp hp' a b ∧ ret1L hp hp' as bs
  | _, _ => False

def retA (hp hp' : Heap) : AV → AV → Prop
  | .agg cs, .agg ds => ret1L hp hp' cs ds
  | a, b => ret1 hp hp' a b

def retL (hp hp' : Heap) : List AV → List AV → Prop
  | [], [] => True
  | a :: as, b :: bs => retA hp hp' a b ∧ retL hp hp' as bs
  | _, _ => False

def retR (hp hp' : Heap) : List AV → AV → Prop
  | [v], r => retA hp hp' v r
  | vs, .tup rs => retL hp hp' vs rs
  | _, .any => True
  | _, _ => False

def retO (hp hp' : Heap) : OB → OB → Prop
  | .arr T mov fr sz enc xs, .arr T' mov' _ sz' enc' ys => T = T' ∧ mov = mov' ∧ (fr = true ∨ scalE enc xs) ∧ DV.ro sz' enc' ys = DV.ro sz enc xs
  | .blk T cs, .blk T' ds => T = T' ∧ ret1L hp hp' cs ds
  | _, _ => False

def retH (hp hp' : Heap) : Heap → Prop
  | [] => True
  | (i, ob) :: t => (match hget hp i with | some ob0 => retO hp hp' ob0 ob | none => False) ∧ retH hp hp' t

def keptH (hp' : Heap) : Heap → Prop
  | [] => True
  | (i, ob) :: t => (match hget hp' i with | some ob' => ob'.fixed = ob.fixed | none => False) ∧ keptH hp' t

/-- What must hold where the function returns. -/
def Ret (slots : List Nat) (hp0 : Heap) (post : AV → Heap → Prop) (st : St) : Prop :=
  ∃ r hp', retR st.hp hp' (slots.map (eget st.env)) r ∧ retH st.hp hp' hp' ∧ keptH hp' hp0 ∧ post r hp'

structure Retd (hp hp' : Heap) (ρ : Nat → Option (Nat × Nat)) (c c' : Ctx) : Prop where
  w : c'.w = c.w
  ro : ∀ fr b, c.okf true b → c'.okf fr b
  row : ∀ i, hget hp' i ≠ none → c'.sh i = c.sh i ∧ c'.ρ i = c.ρ i
  own : ∀ i g cap, i < 1000 → hget hp i ≠ none → hget hp' i = none → ρ i = some (g, cap) → ∀ fr, c'.okf fr g

section
variable {P : Program} {B : Base} {st : St} {a : Act} {w : World} {ρ : Nat → Option (Nat × Nat)} {Q : St → Prop}

theorem ret1_rep {hp hp' : Heap} {c' : Ctx} (h : RepS B ⟨[], hp⟩ a w ρ) (hh : Retd hp hp' ρ (ctxOf B hp w ρ) c') {u v : AV} {x : Value} (hs : ret1 hp hp' u v) (hr : RepC (ctxOf B hp w ρ) u x) : RepC c' v x := by
  obtain ⟨hw, hro, hrow, hown⟩ := hh
  have hmono : ∀ {fr fr' : Bool} {d : DV} {x : Value}, fr = true → RepD (ctxOf B hp w ρ).w ((ctxOf B hp w ρ).okf fr) d x → RepD c'.w (c'.okf fr') d x := fun hf hd => hd.mono fun b hb => ⟨by rw [hw], hro _ b (hf ▸ hb)⟩
  cases v with
  | any => trivial
  | int k n => cases u <;> simp only [ret1] at hs; obtain ⟨rfl, rfl⟩ := hs; exact hr
  | bool b => cases u <;> simp only [ret1] at hs; subst hs; exact hr
  | str s => cases u <;> simp only [ret1] at hs; subst hs; exact hr
  | nilS => cases u <;> simp only [ret1] at hs; exact hr
  | fn f => cases u <;> simp only [ret1] at hs; subst hs; exact hr
  | ro fr' sz' enc' ys =>
    cases u <;> (try simp only [ret1] at hs) <;> (try exact hs.elim)
    case nilS => obtain rfl := hr; exact nil_rep hs
    case ro α fr sz enc xs => exact dv_ro_rep hs.2 (hmono hs.1 hr)
    case own id off len app =>
      obtain ⟨hid, hnl, hs⟩ := hs
      split at hs
      · rename_i β T mov fr sz enc xs hob
        obtain ⟨hsc, hs⟩ := hs
        obtain ⟨sz2, n2, hsh, hol, hv⟩ := hr
        have hsh' : sz2 = sz ∧ n2 = xs.length := by
          have : (ctxOf B hp w ρ).sh id = some (sz, xs.length) := by simp [ctxOf, shOf, hob, OB.shape]
          rw [this] at hsh; simp at hsh; exact ⟨hsh.1.symm, hsh.2.symm⟩
        obtain ⟨rfl, rfl⟩ := hsh'
        refine dv_ro_rep hs ?_
        obtain ⟨h0, hsl, hmx, hb⟩ := h.hp id _ hob
        have hll : ((xs.drop off).take len).length = len := by rw [List.length_take, List.length_drop]; omega
        rcases hv with ⟨h1, ⟨A0, rfl⟩, rfl⟩ | ⟨g, cap, k, oo, hρ, rfl, ho, hlk, hcap, happ⟩
        · have e : (xs.drop off).take 0 = [] := List.take_zero
          rw [e]
          exact .ro sz2 enc [] A0 0 (fun _ _ => undef) (by simp) (by simp) (fun h0 => by simp at h0) (fun x hx => by cases hx) (fun i x j u h1 => by simp at h1)
        · rcases hb with ⟨hn, rfl, _⟩ | ⟨g', cap', cur, hρ', hg, hnc, hcm, hcs, hrep⟩
          · have : (ctxOf B hp w ρ).ρ id = none := hn
            rw [hρ] at this; cases this
          rw [hρ] at hρ'
          simp only [Option.some.injEq, Prod.mk.injEq] at hρ'
          obtain ⟨rfl, rfl⟩ := hρ'
          have key : RepD c'.w (c'.okf fr') (.ro sz2 enc ((xs.drop off).take len)) (.slice (some ⟨g, oo, none⟩) ((xs.drop off).take len).length k) := by
            refine .ro sz2 enc _ _ _ (fun i j => cur.getD ((off + i) * sz2 + j) undef) (by omega) (by omega) (fun hpos => ⟨g, oo, rfl, hown id g cap hid (by rw [hob]; simp) hnl hρ fr', fun i j hi hj => ?_⟩) (fun z hz => hsl z (List.mem_of_mem_drop (List.mem_of_mem_take hz))) (fun i z j u hz hu => ?_)
            · rw [ho (by omega), show off * sz2 + i * sz2 + j = (off + i) * sz2 + j by rw [Nat.add_mul], hw]
              exact cell_of_block hg (by rw [hcs]; exact mul_add_lt (n := xs.length) (by omega) hnc hj)
            · rw [List.getElem?_take] at hz
              split at hz
              · rw [List.getElem?_drop] at hz
                have hd := hrep _ z j u hz hu
                rcases hsc with hf | hsc
                · exact hmono hf hd
                · exact scal_rep (hsc z (List.mem_of_getElem? hz) u (List.mem_of_getElem? hu)) hd
              · cases hz
          rwa [hll] at key
      · exact hs.elim
    case lits fr sz es =>
      obtain ⟨hf, rfl, rfl⟩ := hs
      obtain ⟨b, cell, rfl, hm, hb, hcell, hsz, hd⟩ := hr
      exact lits_rep (cell := cell) rfl hm (hro _ b (hf ▸ hb)) (fun i j hi hj => by rw [hw]; exact hcell i j hi hj) hsz (fun i e j u h1 h2 => hmono hf (hd i e j u h1 h2))
  | own id off len app =>
    cases u <;> simp only [ret1] at hs
    rename_i id2 off2 len2 app2
    obtain ⟨rfl, rfl, rfl, ha, hl⟩ := hs
    obtain ⟨sz, n, h1, h2, h3⟩ := hr
    obtain ⟨e1, e2⟩ := hrow id2 hl
    refine ⟨sz, n, e1.trans h1, h2, ?_⟩
    rw [e2]
    rcases h3 with h3 | ⟨g, cap, k, oo, hρ, e, ho, hlk, hcap, happ⟩
    · exact .inl h3
    · exact .inr ⟨g, cap, k, oo, hρ, e, ho, hlk, hcap, fun e => happ (ha e)⟩
  | optr id i off =>
    cases u <;> simp only [ret1] at hs
    rename_i id2 i2 off2
    obtain ⟨rfl, rfl, rfl, hl⟩ := hs
    obtain ⟨sz, n, g, cap, h1, h2, h3⟩ := hr
    obtain ⟨e1, e2⟩ := hrow id2 hl
    exact ⟨sz, n, g, cap, e1.trans h1, e2.trans h2, h3⟩
  | bptr id off =>
    cases u <;> simp only [ret1] at hs
    rename_i id2 off2
    obtain ⟨rfl, rfl, hl⟩ := hs
    obtain ⟨n, g, cap, h1, h2, h3⟩ := hr
    obtain ⟨e1, e2⟩ := hrow id2 hl
    exact ⟨n, g, cap, e1.trans h1, e2.trans h2, h3⟩
  | rptr fr' ds =>
    cases u <;> simp only [ret1] at hs
    rename_i fr cs
    obtain ⟨hf, rfl⟩ := hs
    obtain ⟨b, off, e, hb, hc⟩ := hr
    refine ⟨b, off, e, hro _ b (hf ▸ hb), fun j u hj => ?_⟩
    obtain ⟨x, hx, hd⟩ := hc j u hj
    exact ⟨x, by rw [hw]; exact hx, hmono hf hd⟩
  | lits => cases u <;> exact hs.elim
  | agg => cases u <;> exact hs.elim
  | tup => cases u <;> exact hs.elim

theorem ret1L_get {hp hp' : Heap} : ∀ {us vs : List AV}, ret1L hp hp' us vs → us.length = vs.length ∧ ∀ (i : Nat) (v : AV), vs[i]? = some v → ∃ u, us[i]? = some u ∧ ret1 hp hp' u v
  | [], [], _ => ⟨rfl, fun i v h => by simp at h⟩
  | a :: as, b :: bs, h => by
    obtain ⟨h1, h2⟩ := ret1L_get h.2
    refine ⟨by simp [h1], fun i v hv => ?_⟩
    cases i with
    | zero => simp at hv; subst hv; exact ⟨a, rfl, h.1⟩
    | succ i => simpa using h2 i v (by simpa using hv)
  | [], _ :: _, h => h.elim
  | _ :: _, [], h => h.elim

theorem ret1_flat {hp hp' : Heap} {u v : AV} (h : ret1 hp hp' u v) : v.flat = true := by
  cases v <;> first | rfl | (cases u <;> exact h.elim)
theorem ret1_flatU {hp hp' : Heap} {u v : AV} (h : ret1 hp hp' u v) : v = .any ∨ u.flat = true := by
  cases v <;> cases u <;> first | exact .inl rfl | exact .inr rfl | exact h.elim

theorem retA_rep {hp hp' : Heap} {c' : Ctx} (h : RepS B ⟨[], hp⟩ a w ρ) (hh : Retd hp hp' ρ (ctxOf B hp w ρ) c') {u v : AV} {x : Value} (hs : retA hp hp' u v) (hr : RepV (ctxOf B hp w ρ) u x) : RepA c' v x := by
  have flat : ret1 hp hp' u v → RepA c' v x := fun hs => by
    rw [RepA_of_flat (ret1_flat hs)]
    rcases ret1_flatU hs with rfl | hu
    · trivial
    · rw [RepV_of_flat hu] at hr
      exact ret1_rep h hh hs hr
  cases u <;> try exact flat hs
  case agg cs =>
    cases v <;> try exact flat hs
    case agg ds =>
      obtain ⟨vs, e, hsz, hc⟩ := hr
      obtain ⟨h1, h2⟩ := ret1L_get hs
      refine ⟨vs, e, by omega, fun i v hv => ?_⟩
      obtain ⟨u, hu, hsu⟩ := h2 i v hv
      exact ⟨ret1_rep h hh hsu (hc i u hu).1, (hc i u hu).2⟩

theorem retL_get {hp hp' : Heap} : ∀ {us vs : List AV}, retL hp hp' us vs → us.length = vs.length ∧ ∀ (i : Nat) (v : AV), vs[i]? = some v → ∃ u, us[i]? = some u ∧ retA hp hp' u v
  | [], [], _ => ⟨rfl, fun i v h => by simp at h⟩
  | a :: as, b :: bs, h => by
    obtain ⟨h1, h2⟩ := retL_get h.2
    refine ⟨by simp [h1], fun i v hv => ?_⟩
    cases i with
    | zero => simp at hv; subst hv; exact ⟨a, rfl, h.1⟩
    | succ i => simpa using h2 i v (by simpa using hv)
  | [], _ :: _, h => h.elim
  | _ :: _, [], h => h.elim

theorem retH_get {hp hp' : Heap} : ∀ {l : Heap}, retH hp hp' l → ∀ {i : Nat} {ob : OB}, hget l i = some ob → ∃ ob0, hget hp i = some ob0 ∧ retO hp hp' ob0 ob
  | [], _, i, ob, h => by cases h
  | (j, o) :: t, hl, i, ob, h => by
    simp only [hget] at h
    split at h
    · subst_vars
      cases h
      have h1 := hl.1
      split at h1
      · exact ⟨_, by assumption, h1⟩
      · exact h1.elim
    · exact retH_get hl.2 h

theorem keptH_get {hp' : Heap} : ∀ {l : Heap}, keptH hp' l → ∀ {i : Nat} {ob : OB}, hget l i = some ob → ∃ ob', hget hp' i = some ob' ∧ ob'.fixed = ob.fixed
  | [], _, i, ob, h => by cases h
  | (j, o) :: t, hl, i, ob, h => by
    simp only [hget] at h
    split at h
    · subst_vars
      cases h
      have h1 := hl.1
      split at h1
      · exact ⟨_, by assumption, h1⟩
      · exact h1.elim
    · exact keptH_get hl.2 h

theorem retO_shape {hp hp' : Heap} {o o' : OB} (h : retO hp hp' o o') : o'.shape = o.shape ∧ o'.fixed = o.fixed := by
  cases o <;> cases o' <;> simp only [retO] at h
  · obtain ⟨_, hm, _, he⟩ := h
    injection he with h1 h2 h3 h4
    subst h1; subst h2
    obtain rfl := eq_of_heq h3
    obtain rfl := eq_of_heq h4
    exact ⟨rfl, by simp [OB.fixed, hm]⟩
  · exact ⟨by simp [OB.shape, (ret1L_get h.2).1], rfl⟩

theorem retO_rep {hp hp' : Heap} {c' : Ctx} (h : RepS B ⟨[], hp⟩ a w ρ) (hh : Retd hp hp' ρ (ctxOf B hp w ρ) c') {i : Nat} {o o' : OB} (hi : hget hp' i ≠ none) (hs : retO hp hp' o o')
    (hr : RepOB (ctxOf B hp w ρ) i o) : RepOB c' i o' := by
  obtain ⟨hw, hro, hrow, hown⟩ := hh
  cases o <;> cases o' <;> simp only [retO] at hs
  case arr.arr α T mov fr sz enc xs β T' mov' fr' sz' enc' xs' =>
    obtain ⟨rfl, rfl, hf, he⟩ := hs
    injection he with h1 h2 h3 h4
    subst h1; subst h2
    obtain rfl := eq_of_heq h3
    obtain rfl := eq_of_heq h4
    obtain ⟨h0, hs, hm, h1 | ⟨g, cap, cur, h1, h2, h3, h4, h5, h6⟩⟩ := hr
    · exact ⟨h0, hs, hm, .inl ⟨(hrow i hi).2.trans h1.1, h1.2⟩⟩
    · refine ⟨h0, hs, hm, .inr ⟨g, cap, cur, (hrow i hi).2.trans h1, by rw [hw]; exact h2, h3, h4, h5, fun p x j u hx hu => ?_⟩⟩
      have hd := h6 p x j u hx hu
      rcases hf with hf | hf
      · exact hd.mono fun b hb => ⟨by rw [hw], hro _ b (hf ▸ hb)⟩
      · exact scal_rep (hf x (List.mem_of_getElem? hx) u (List.mem_of_getElem? hu)) hd
  case blk.blk T cs T' cs' =>
    obtain ⟨rfl, hl⟩ := hs
    obtain ⟨g, cap, cur, h1, h2, h3, h4⟩ := hr
    obtain ⟨h5, h6⟩ := ret1L_get hl
    refine ⟨g, cap, cur, (hrow i hi).2.trans h1, by rw [hw]; exact h2, by omega, fun k v hv => ?_⟩
    obtain ⟨u, hu, hsu⟩ := h6 k v hv
    exact ⟨ret1_rep h ⟨hw, hro, hrow, hown⟩ hsu (h4 k u hu).1, (h4 k u hu).2⟩

end
end Go.Vc
