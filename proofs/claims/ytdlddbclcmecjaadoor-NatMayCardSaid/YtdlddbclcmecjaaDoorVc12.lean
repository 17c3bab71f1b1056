/-
  Vc12: ghosts are sound; operations are sound; code is sound.
-/
import Derived.Test.YtdlddbclcmecjaaDoorVc11
set_option linter.unusedVariables false
set_option linter.unusedSimpArgs false
namespace Go.Vc
open Go

section
variable {P : Program} {B : Base} {st : St} {a : Act} {w : World} {ρ : Nat → Option (Nat × Nat)} {o : Oper}

/-- From one set of rows to another over the same world: nothing is owned that was not; slots and rows are read anew. -/
theorem RepS.rows {env env' : Env} {hp hp' : Heap} (h : RepS B ⟨env, hp⟩ a w ρ) (hsub : ∀ i, hget hp' i ≠ none → hget hp i ≠ none)
    (hob : ∀ i ob, hget hp' i = some ob → RepOB (ctxOf B hp' w ρ) i ob) (henv : ∀ n, RepV (ctxOf B hp' w ρ) (eget env' n) (a.tmps.getD n undef))
    (hfix : ∀ i v ob, B.fix i = some v → hget hp' i = some ob → ob.fixed = true → ρ i = v.1 ∧ ob.shape = v.2) : RepS B ⟨env', hp'⟩ a w ρ :=
  ⟨h.defers, h.size, h.ext, fun i j g c d hi hj => h.inj i j g c d (hsub i hi) (hsub j hj), fun i g c hi => h.lt i g c (hsub i hi), fun i g c hi => h.wr i g c (hsub i hi), hob, henv, h.fixN, hfix⟩

theorem hget_map (f : OB → OB) (hp : Heap) (n : Nat) : hget (hp.map fun p => (p.1, f p.2)) n = (hget hp n).map f := by
  induction hp with
  | nil => rfl
  | cons p t ih =>
    obtain ⟨i, v⟩ := p
    show (if i = n then some (f v) else hget (t.map fun p => (p.1, f p.2)) n) = (if i = n then some v else hget t n).map f
    split
    · rfl
    · exact ih
theorem eget_map (f : AV → AV) (hf : f .any = .any) (env : Env) (n : Nat) : eget (env.map fun p => (p.1, f p.2)) n = f (eget env n) := by
  induction env with
  | nil => exact hf.symm
  | cons p t ih =>
    obtain ⟨i, v⟩ := p
    show (if i = n then f v else eget (t.map fun p => (p.1, f p.2)) n) = f (if i = n then v else eget t n)
    split
    · rfl
    · exact ih

theorem gh_drop (h : RepS B st a w ρ) (ns : List Nat) : RepS B (gst st (.drop ns)) a w ρ :=
  h.weaken fun n => by
    show eget (edrop st.env ns) n = .any ∨ _
    rw [eget_edrop]
    split
    · exact .inl rfl
    · exact .inr rfl

theorem gh_free (h : RepS B st a w ρ) (id : Nat) : RepS B (gst st (.free id)) a w ρ := by
  obtain ⟨env, hp⟩ := st
  have hg : ∀ i, hget (killH id (hdel hp id)) i = if id = i then none else (hget hp i).map (killO id) := fun i => by
    rw [hget_killH, hget_hdel]; split <;> rfl
  have hsub : ∀ i, hget (killH id (hdel hp id)) i ≠ none → hget hp i ≠ none := fun i hi => by
    rw [hg] at hi; split at hi
    · exact absurd rfl hi
    · intro e; rw [e] at hi; exact hi rfl
  have hle : (ctxOf B hp w ρ).LeBut id (ctxOf B (killH id (hdel hp id)) w ρ) := ⟨fun fr b hb => ⟨rfl, hb.1, fun ⟨i, h1, c, h2⟩ => hb.2.1 ⟨i, hsub i h1, c, h2⟩, hb.2.2⟩, fun i hi _ => ⟨by
    show shOf _ i = shOf _ i
    unfold shOf
    rw [hg, if_neg (Ne.symm hi)]
    cases hget hp i with
    | none => rfl
    | some o => simp [killO_shape], rfl⟩⟩
  refine h.rows hsub (fun i ob hi => ?_) (fun n => ?_) (fun i v ob hv hi hf => ?_)
  · rw [hg] at hi
    split at hi
    · cases hi
    · cases hc : hget hp i with
      | none => simp [hc] at hi
      | some o => simp [hc] at hi; subst hi; exact (h.hp i o hc).killed hle rfl (fun _ _ _ => rfl)
  · rw [eget_killE]; exact (h.env n).killed hle
  · rw [hg] at hi
    split at hi
    · cases hi
    · cases hc : hget hp i with
      | none => simp [hc] at hi
      | some o =>
        simp [hc] at hi; subst hi
        rw [killO_shape]
        exact h.fix i v o hv hc (by cases o <;> exact hf)

theorem gh_pub (h : RepS B st a w ρ) (id : Nat) (hp : gpre st (.pub id)) : RepS B (gst st (.pub id)) a w ρ := by
  obtain ⟨env, hp0⟩ := st
  simp only [gpre] at hp
  split at hp
  case h_2 => exact hp.elim
  rename_i α T mov fr sz enc xs hob
  simp only [gst, hob]
  let f : AV → AV := pubV id fr sz enc xs
  let hp' : Heap := (hdel hp0 id).map fun p => (p.1, pubO id fr sz enc xs p.2)
  have hg : ∀ i, hget hp' i = if id = i then none else (hget hp0 i).map (pubO id fr sz enc xs) := fun i => by
    show hget ((hdel hp0 id).map fun p => (p.1, pubO id fr sz enc xs p.2)) i = _
    rw [hget_map, hget_hdel]; split <;> rfl
  have hsub : ∀ i, hget hp' i ≠ none → hget hp0 i ≠ none := fun i hi => by
    rw [hg] at hi; split at hi
    · exact absurd rfl hi
    · intro e; rw [e] at hi; exact hi rfl
  have hpsh : ∀ o, (pubO id fr sz enc xs o).shape = o.shape := fun o => by cases o <;> simp [pubO, OB.shape]
  have hshp : ∀ i, i ≠ id → shOf hp' i = shOf hp0 i := fun i hi => by
    unfold shOf
    rw [hg, if_neg (Ne.symm hi)]
    cases hget hp0 i with
    | none => rfl
    | some o => simp [hpsh]
  have hro : ∀ fr b, (ctxOf B hp0 w ρ).okf fr b → (ctxOf B hp' w ρ).okf fr b := fun fr b hb => ⟨hb.1, fun ⟨i, h1, c, h2⟩ => hb.2.1 ⟨i, hsub i h1, c, h2⟩, hb.2.2⟩
  have hidn : hget hp0 id ≠ none := by rw [hob]; simp
  have hle : (ctxOf B hp0 w ρ).LeBut id (ctxOf B hp' w ρ) := ⟨fun fr b hb => ⟨rfl, hro fr b hb⟩, fun i hi _ => ⟨hshp i hi, rfl⟩⟩
  obtain ⟨h0, hsl, hmx, hrow⟩ := h.hp id _ hob
  have hC : ∀ {v : AV} {x : Value}, RepC (ctxOf B hp0 w ρ) v x → RepC (ctxOf B hp' w ρ) (pubC id fr sz enc xs v) x := by
    intro v x hr
    cases v with
    | own i off len app =>
      simp only [pubC]
      by_cases e : i = id
      · subst e
        rw [if_pos rfl]
        obtain ⟨sz2, n2, hsh, hol, hv⟩ := hr
        have hsh' : sz2 = sz ∧ n2 = xs.length := by
          have : (ctxOf B hp0 w ρ).sh i = some (sz, xs.length) := by simp [ctxOf, shOf, hob, OB.shape]
          rw [this] at hsh; simp at hsh; exact ⟨hsh.1.symm, hsh.2.symm⟩
        obtain ⟨rfl, rfl⟩ := hsh'
        have hll : ((xs.drop off).take len).length = len := by rw [List.length_take, List.length_drop]; omega
        show RepD w ((ctxOf B hp' w ρ).okf fr) (.ro sz2 enc ((xs.drop off).take len)) x
        rcases hv with ⟨h1, ⟨A0, rfl⟩, rfl⟩ | ⟨g, cap, k, oo, hρ, rfl, ho, hlk, hcap, happ⟩
        · have e : (xs.drop off).take 0 = [] := List.take_zero
          rw [e]
          exact .ro sz2 enc [] A0 0 (fun _ _ => undef) (by simp) (by simp) (fun h0 => by simp at h0) (fun x hx => by cases hx) (fun i x j u h1 => by simp at h1)
        · rcases hrow with ⟨hn, rfl, _⟩ | ⟨g', cap', cur, hρ', hgc, hnc, hcm, hcs, hrep⟩
          · have : (ctxOf B hp0 w ρ).ρ i = none := hn
            rw [hρ] at this; cases this
          rw [hρ] at hρ'
          simp only [Option.some.injEq, Prod.mk.injEq] at hρ'
          obtain ⟨rfl, rfl⟩ := hρ'
          have hok : (ctxOf B hp' w ρ).okf fr g := ⟨h.lt i g cap hidn hρ, fun ⟨j, h1, c, h2⟩ => by
            have := h.inj i j g cap c hidn (hsub j h1) hρ h2
            subst this
            rw [hg, if_pos rfl] at h1; exact h1 rfl, fun _ => by
            rcases h.wr i g cap hidn hρ with h3 | ⟨_, h3⟩
            · exact .inr h3
            · omega⟩
          have key : RepD w ((ctxOf B hp' w ρ).okf fr) (.ro sz2 enc ((xs.drop off).take len)) (.slice (some ⟨g, oo, none⟩) ((xs.drop off).take len).length k) := by
            refine .ro sz2 enc _ _ _ (fun i j => cur.getD ((off + i) * sz2 + j) undef) (by omega) (by omega) (fun hpos => ⟨g, oo, rfl, hok, fun i j hi hj => ?_⟩) (fun z hz => hsl z (List.mem_of_mem_drop (List.mem_of_mem_take hz))) (fun i z j u hz hu => ?_)
            · rw [ho (by omega), show off * sz2 + i * sz2 + j = (off + i) * sz2 + j by rw [Nat.add_mul]]
              exact cell_of_block hgc (by rw [hcs]; exact mul_add_lt (n := xs.length) (by omega) hnc hj)
            · rw [List.getElem?_take] at hz
              split at hz
              · rw [List.getElem?_drop] at hz
                exact (hrep _ z j u hz hu).ok_imp (hro fr)
              · cases hz
          rwa [hll] at key
      · rw [if_neg e]
        have := hr.killed hle
        simpa only [killC, if_neg e] using this
    | optr i j off =>
      simp only [pubC]
      by_cases e : i = id
      · rw [if_pos e]; trivial
      · rw [if_neg e]
        have := hr.killed hle
        simpa only [killC, if_neg e] using this
    | bptr i off =>
      simp only [pubC]
      obtain ⟨n, g, cap, h1, h2, h3⟩ := hr
      have hne : i ≠ id := by
        rintro rfl
        have : (ctxOf B hp0 w ρ).sh i = some (sz, xs.length) := by simp [ctxOf, shOf, hob, OB.shape]
        rw [this] at h1; simp at h1; omega
      exact ⟨n, g, cap, (hshp i hne).trans h1, h2, h3⟩
    | any => exact hr.killed hle
    | int => exact hr.killed hle
    | bool => exact hr.killed hle
    | str => exact hr.killed hle
    | nilS => exact hr.killed hle
    | ro => exact hr.killed hle
    | rptr => exact hr.killed hle
    | lits => exact hr.killed hle
    | fn => exact hr.killed hle
    | agg => exact hr.killed hle
    | tup => exact hr.killed hle
  have hflat : ∀ {v : AV}, v.flat = true → (pubC id fr sz enc xs v).flat = true := fun {v} hv => by
    cases v <;> (try simp only [pubC]) <;> (try exact hv) <;> split <;> first | rfl | exact hv
  have hag : ∀ {cs : List AV} {x : Value}, RepA (ctxOf B hp0 w ρ) (.agg cs) x → RepA (ctxOf B hp' w ρ) (.agg (cs.map (pubC id fr sz enc xs))) x := by
    intro cs x ⟨vs, e, hs, hr⟩
    refine ⟨vs, e, by rw [List.length_map]; exact hs, fun i u hu => ?_⟩
    rw [List.getElem?_map] at hu
    cases hc : cs[i]? with
    | none => simp [hc] at hu
    | some u' => simp only [hc, Option.map_some, Option.some.injEq] at hu; subst hu; exact ⟨hC (hr i u' hc).1, (hr i u' hc).2⟩
  have hV : ∀ {v : AV} {x : Value}, RepV (ctxOf B hp0 w ρ) v x → RepV (ctxOf B hp' w ρ) (pubV id fr sz enc xs v) x := by
    intro v x hr
    by_cases hf : v.flat = true
    · have e : pubV id fr sz enc xs v = pubC id fr sz enc xs v := by cases v <;> first | rfl | (simp [AV.flat] at hf)
      rw [e, RepV_of_flat (hflat hf)]
      rw [RepV_of_flat hf] at hr
      exact hC hr
    · cases v <;> simp [AV.flat] at hf
      case agg cs => exact hag (cs := cs) hr
      case tup as =>
        obtain ⟨vs, e, hs, hr⟩ := hr
        refine ⟨vs, e, by rw [List.length_map]; exact hs, fun i u hu => ?_⟩
        rw [List.getElem?_map] at hu
        cases hc : as[i]? with
        | none => simp [hc] at hu
        | some u' =>
          simp only [hc, Option.map_some, Option.some.injEq] at hu
          subst hu
          have hr' := hr i u' hc
          by_cases hf : u'.flat = true
          · rw [RepA_of_flat hf] at hr'
            have := hC hr'
            cases u' <;> first | (simp [AV.flat] at hf; done) | (simp only; rw [RepA_of_flat (hflat hf)]; exact this)
          · cases u' <;> simp [AV.flat] at hf
            · exact hag hr'
            · exact False.elim hr'
  refine h.rows (hp' := hp') hsub (fun i ob hi => ?_) (fun n => ?_) (fun i v ob hv hi hf => ?_)
  · rw [hg] at hi
    split at hi
    · cases hi
    · rename_i hne
      cases hc : hget hp0 i with
      | none => simp [hc] at hi
      | some o =>
        simp only [hc, Option.map_some, Option.some.injEq] at hi; subst hi
        have hr := h.hp i o hc
        cases o with
        | arr T2 mov2 fr2 sz2 enc2 xs2 =>
          obtain ⟨q0, qs, qm, q1 | ⟨g, cap, cur, q1, q2, q3, q4, q5, q6⟩⟩ := hr
          · exact ⟨q0, qs, qm, .inl q1⟩
          · exact ⟨q0, qs, qm, .inr ⟨g, cap, cur, q1, q2, q3, q4, q5, fun i x j u hx hu => (q6 i x j u hx hu).ok_imp (hro fr2)⟩⟩
        | blk T2 cs =>
          obtain ⟨g, cap, cur, q1, q2, q3, q4⟩ := hr
          refine ⟨g, cap, cur, q1, q2, by rw [List.length_map]; exact q3, fun k u hu => ?_⟩
          rw [List.getElem?_map] at hu
          cases hc2 : cs[k]? with
          | none => simp [hc2] at hu
          | some u' => simp only [hc2, Option.map_some, Option.some.injEq] at hu; subst hu; exact ⟨hC (q4 k u' hc2).1, (q4 k u' hc2).2⟩
  · rw [eget_map (pubV id fr sz enc xs) rfl]; exact hV (h.env n)
  · rw [hg] at hi
    split at hi
    · cases hi
    · cases hc : hget hp0 i with
      | none => simp [hc] at hi
      | some o =>
        simp only [hc, Option.map_some, Option.some.injEq] at hi; subst hi
        rw [hpsh]
        exact h.fix i v o hv hc (by cases o <;> exact hf)

def Base.bare (B : Base) : Prop := (∀ i, B.fix i = none) ∧ ∀ b, ¬ B.bor b

theorem renO_shape (x y : Nat) (o : OB) : (renO x y o).shape = o.shape := by cases o <;> simp [renO, OB.shape]
theorem renO_fixed (x y : Nat) (o : OB) : (renO x y o).fixed = o.fixed := by cases o <;> rfl

theorem gh_ren (hB : B.bare) (h : RepS B st a w ρ) (x y : Nat) (hp : gpre st (.ren x y)) : ∃ ρ', RepS B (gst st (.ren x y)) a w ρ' := by
  obtain ⟨env, hp0⟩ := st
  obtain ⟨hx, hy⟩ := hp
  have hx : (hget hp0 x).isSome = true := hx
  have hy : hget hp0 y = none := hy
  obtain ⟨ox, hox⟩ := Option.isSome_iff_exists.1 hx
  simp only [gst, hox]
  let hp' : Heap := hset ((hdel hp0 x).map fun p => (p.1, renO x y p.2)) y (renO x y ox)
  let ρ' : Nat → Option (Nat × Nat) := fun n => if n = y then ρ x else ρ n
  have hxy : x ≠ y := by rintro rfl; rw [hox] at hy; cases hy
  have hg : ∀ i, hget hp' i = if y = i then some (renO x y ox) else if x = i then none else (hget hp0 i).map (renO x y) := fun i => by
    show hget (hset _ y _) i = _
    rw [hget_hset]
    split
    · rfl
    · rw [hget_map, hget_hdel]; split <;> rfl
  have hσ : ∀ i, hget hp0 i ≠ none → shOf hp' (if i = x then y else i) = shOf hp0 i ∧ ρ' (if i = x then y else i) = ρ i := fun i hi => by
    have hne : i ≠ y := by rintro rfl; exact hi hy
    by_cases e : i = x
    · subst e
      rw [if_pos rfl]
      refine ⟨?_, by simp [ρ']⟩
      unfold shOf
      rw [hg, if_pos rfl, hox]; simp [renO_shape]
    · rw [if_neg e]
      refine ⟨?_, by simp [ρ', hne]⟩
      unfold shOf
      rw [hg, if_neg (Ne.symm hne), if_neg (Ne.symm e)]
      cases hget hp0 i with
      | none => rfl
      | some o => simp [renO_shape]
  -- what stands under a name now stood under one then
  have hback : ∀ i, hget hp' i ≠ none → ∃ j, hget hp0 j ≠ none ∧ ρ' i = ρ j ∧ i = (if j = x then y else j) ∧ ∃ o, hget hp0 j = some o ∧ hget hp' i = some (renO x y o) := fun i hi => by
    by_cases e : y = i
    · subst e
      exact ⟨x, by rw [hox]; simp, by simp [ρ'], by simp, ox, hox, by rw [hg, if_pos rfl]⟩
    · rw [hg, if_neg e] at hi
      by_cases e2 : x = i
      · rw [if_pos e2] at hi; exact absurd rfl hi
      · rw [if_neg e2] at hi
        cases hc : hget hp0 i with
        | none => rw [hc] at hi; exact absurd rfl hi
        | some o => exact ⟨i, by rw [hc]; simp, by simp [ρ', Ne.symm e], by rw [if_neg (Ne.symm e2)], o, hc, by rw [hg, if_neg e, if_neg e2, hc]; rfl⟩
  have hro : ∀ fr b, (ctxOf B hp0 w ρ).okf fr b → (ctxOf B hp' w ρ').okf fr b := fun fr b hb => ⟨hb.1, fun ⟨i, h1, c, h2⟩ => by
    obtain ⟨j, h3, h4, _⟩ := hback i h1
    exact hb.2.1 ⟨j, h3, c, h4 ▸ h2⟩, hb.2.2⟩
  have hsome : ∀ {i : Nat} {p : Nat × Nat}, (ctxOf B hp0 w ρ).sh i = some p → hget hp0 i ≠ none := fun {i p} hs e => by
    have : shOf hp0 i = some p := hs
    simp [shOf, e] at this
  have hD : ∀ {fr : Bool} {d : DV} {v : Value}, RepD (ctxOf B hp0 w ρ).w ((ctxOf B hp0 w ρ).okf fr) d v → RepD (ctxOf B hp' w ρ').w ((ctxOf B hp' w ρ').okf fr) d v := fun {fr d v} hd => hd.ok_imp (hro fr)
  have hC : ∀ {v : AV} {u : Value}, RepC (ctxOf B hp0 w ρ) v u → RepC (ctxOf B hp' w ρ') (renC x y v) u := by
    intro v u hr
    cases v with
    | own i off len app =>
      obtain ⟨sz, n, h1, h2, h3⟩ := hr
      obtain ⟨e1, e2⟩ := hσ i (hsome h1)
      exact ⟨sz, n, e1.trans h1, h2, by show (ρ' _ = none ∧ _) ∨ _; rw [show (ctxOf B hp' w ρ').ρ (if i = x then y else i) = (ctxOf B hp0 w ρ).ρ i from e2, e2]; exact h3⟩
    | optr i j off =>
      obtain ⟨sz, n, g, cap, h1, h2, h3⟩ := hr
      obtain ⟨e1, e2⟩ := hσ i (hsome h1)
      exact ⟨sz, n, g, cap, e1.trans h1, e2.trans h2, h3⟩
    | bptr i off =>
      obtain ⟨n, g, cap, h1, h2, h3⟩ := hr
      obtain ⟨e1, e2⟩ := hσ i (hsome h1)
      exact ⟨n, g, cap, e1.trans h1, e2.trans h2, h3⟩
    | any => trivial
    | int k n => exact hr
    | bool b => exact hr
    | str s => exact hr
    | nilS => exact hr
    | ro fr sz enc xs => exact hD (d := .ro sz enc xs) hr
    | rptr fr cs =>
      obtain ⟨b, off, e, hb, hc⟩ := hr
      exact ⟨b, off, e, hro fr b hb, fun j u hj => by obtain ⟨z, hz, hd⟩ := hc j u hj; exact ⟨z, hz, hD hd⟩⟩
    | lits fr sz es =>
      obtain ⟨b, cell, e, hm, hb, hc, hs, hd⟩ := hr
      exact ⟨b, cell, e, hm, hro fr b hb, hc, hs, fun i e j u h1 h2 => hD (hd i e j u h1 h2)⟩
    | fn f => exact hr
    | agg cs => exact hr
    | tup vs => exact hr
  have hflat : ∀ {v : AV}, v.flat = true → (renC x y v).flat = true := fun {v} hv => by cases v <;> first | rfl | exact hv
  have hag : ∀ {cs : List AV} {u : Value}, RepA (ctxOf B hp0 w ρ) (.agg cs) u → RepA (ctxOf B hp' w ρ') (.agg (cs.map (renC x y))) u := by
    intro cs u ⟨vs, e, hs, hr⟩
    refine ⟨vs, e, by rw [List.length_map]; exact hs, fun i u hu => ?_⟩
    rw [List.getElem?_map] at hu
    cases hc : cs[i]? with
    | none => simp [hc] at hu
    | some u' => simp only [hc, Option.map_some, Option.some.injEq] at hu; subst hu; exact ⟨hC (hr i u' hc).1, (hr i u' hc).2⟩
  have hV : ∀ {v : AV} {u : Value}, RepV (ctxOf B hp0 w ρ) v u → RepV (ctxOf B hp' w ρ') (renV x y v) u := by
    intro v u hr
    by_cases hf : v.flat = true
    · have e : renV x y v = renC x y v := by cases v <;> first | rfl | (simp [AV.flat] at hf)
      rw [e, RepV_of_flat (hflat hf)]
      rw [RepV_of_flat hf] at hr
      exact hC hr
    · cases v <;> simp [AV.flat] at hf
      case agg cs => exact hag (cs := cs) hr
      case tup as =>
        obtain ⟨vs, e, hs, hr⟩ := hr
        refine ⟨vs, e, by rw [List.length_map]; exact hs, fun i u hu => ?_⟩
        rw [List.getElem?_map] at hu
        cases hc : as[i]? with
        | none => simp [hc] at hu
        | some u' =>
          simp only [hc, Option.map_some, Option.some.injEq] at hu
          subst hu
          have hr' := hr i u' hc
          by_cases hf : u'.flat = true
          · rw [RepA_of_flat hf] at hr'
            have := hC hr'
            cases u' <;> first | (simp [AV.flat] at hf; done) | (simp only; rw [RepA_of_flat (hflat hf)]; exact this)
          · cases u' <;> simp [AV.flat] at hf
            · exact hag hr'
            · exact False.elim hr'
  have hO : ∀ {i j : Nat} {o : OB}, ρ' i = ρ j → RepOB (ctxOf B hp0 w ρ) j o → RepOB (ctxOf B hp' w ρ') i (renO x y o) := by
    intro i j o he hr
    cases o with
    | arr T mov fr sz enc xs =>
      obtain ⟨q0, qs, qm, q1 | ⟨g, cap, cur, q1, q2, q3, q4, q5, q6⟩⟩ := hr
      · exact ⟨q0, qs, qm, .inl ⟨he.trans q1.1, q1.2⟩⟩
      · exact ⟨q0, qs, qm, .inr ⟨g, cap, cur, he.trans q1, q2, q3, q4, q5, fun i x j u hx hu => hD (q6 i x j u hx hu)⟩⟩
    | blk T cs =>
      obtain ⟨g, cap, cur, q1, q2, q3, q4⟩ := hr
      refine ⟨g, cap, cur, he.trans q1, q2, by rw [List.length_map]; exact q3, fun k u hu => ?_⟩
      rw [List.getElem?_map] at hu
      cases hc2 : cs[k]? with
      | none => simp [hc2] at hu
      | some u' => simp only [hc2, Option.map_some, Option.some.injEq] at hu; subst hu; exact ⟨hC (q4 k u' hc2).1, (q4 k u' hc2).2⟩
  refine ⟨ρ', h.defers, h.size, h.ext, fun i j g c d hi hj h1 h2 => ?_, fun i g c hi h1 => ?_, fun i g c hi h1 => ?_, fun i ob hi => ?_, fun n => ?_, h.fixN, fun i v ob hv _ _ => ?_⟩
  · obtain ⟨i', a1, a2, a3, _⟩ := hback i hi
    obtain ⟨j', b1, b2, b3, _⟩ := hback j hj
    rw [a3, b3, h.inj i' j' g c d a1 b1 (a2 ▸ h1) (b2 ▸ h2)]
  · obtain ⟨i', a1, a2, _⟩ := hback i hi
    exact h.lt i' g c a1 (a2 ▸ h1)
  · obtain ⟨i', a1, a2, a3, _⟩ := hback i hi
    rcases h.wr i' g c a1 (a2 ▸ h1) with h3 | h3
    · exact .inl h3
    · exact absurd h3.1 (hB.2 g)
  · have hi' : hget hp' i = some ob := hi
    obtain ⟨j, a1, a2, a3, o, a4, a5⟩ := hback i (by rw [hi']; simp)
    rw [hi'] at a5
    obtain rfl := Option.some.inj a5
    exact hO a2 (h.hp j o a4)
  · show RepV _ (eget (env.map fun p => (p.1, renV x y p.2)) n) _
    rw [eget_map (renV x y) rfl]; exact hV (h.env n)
  · rw [hB.1 i] at hv; cases hv

theorem gh_nil (hB : B.bare) (h : RepS B st a w ρ) {α : Type} (i j id : Nat) (T : TypeId) (sz : Nat) (enc : α → List DV) (hp : gpre st (.nil i j id T sz enc)) : ∃ ρ', RepS B (gst st (.nil i j id T sz enc)) a w ρ' := by
  obtain ⟨env, hp0⟩ := st
  simp only [gpre] at hp
  split at hp
  case h_2 => exact hp.elim
  rename_i T0 cs hob
  have hob : hget hp0 i = some (.blk T0 cs) := hob
  obtain ⟨hj, hid, hsz⟩ := hp
  have hid : hget hp0 id = none := hid
  simp only [gst, hob]
  have hii : i ≠ id := by rintro rfl; rw [hob] at hid; cases hid
  let hp' : Heap := hset (hset hp0 i (.blk T0 (cs.set j (.own id 0 0 true)))) id (.arr T true true sz enc ([] : List α))
  have hg : ∀ n, hget hp' n = if id = n then some (.arr T true true sz enc ([] : List α)) else if i = n then some (.blk T0 (cs.set j (.own id 0 0 true))) else hget hp0 n := fun n => by
    show hget (hset (hset _ _ _) _ _) n = _
    rw [hget_hset, hget_hset]
  have hρ : ∀ n, n ≠ id → upd ρ id none n = ρ n := fun n hn => by unfold upd; rw [if_neg hn]
  have hsub : ∀ n, hget hp' n ≠ none → n = id ∨ hget hp0 n ≠ none := fun n hn => by
    rw [hg] at hn
    by_cases e : id = n
    · exact .inl e.symm
    · right
      rw [if_neg e] at hn
      by_cases e2 : i = n
      · subst e2; rw [hob]; simp
      · rwa [if_neg e2] at hn
  have hreal : ∀ n g c, hget hp' n ≠ none → upd ρ id none n = some (g, c) → hget hp0 n ≠ none ∧ ρ n = some (g, c) := fun n g c hn hc => by
    rcases hsub n hn with rfl | h1
    · simp [upd] at hc
    · have : n ≠ id := by rintro rfl; exact h1 hid
      exact ⟨h1, by rwa [hρ n this] at hc⟩
  have hsh : ∀ n, n ≠ id → shOf hp' n = shOf hp0 n := fun n hn => by
    unfold shOf
    rw [hg, if_neg (Ne.symm hn)]
    by_cases e : i = n
    · subst e; rw [if_pos rfl, hob]; simp [OB.shape]
    · rw [if_neg e]
  have hle : (ctxOf B hp0 w ρ).Le (ctxOf B hp' w (upd ρ id none)) := ⟨fun fr b hb => ⟨rfl, hb.1, fun ⟨n, h1, c, h2⟩ => by
    obtain ⟨h3, h4⟩ := hreal n b c h1 h2
    exact hb.2.1 ⟨n, h3, c, h4⟩, hb.2.2⟩, fun n hn => by
    have : n ≠ id := by
      rintro rfl
      apply hn
      show shOf hp0 n = none
      simp [shOf, hid]
    exact ⟨hsh n this, hρ n this⟩⟩
  refine ⟨upd ρ id none, h.defers, h.size, h.ext, fun p q g c d hi hj h1 h2 => ?_, fun p g c hi h1 => ?_, fun p g c hi h1 => ?_, fun p ob hi => ?_, fun n => (h.env n).mono hle, h.fixN, fun p v ob hv _ _ => ?_⟩
  · obtain ⟨a1, a2⟩ := hreal p g c hi h1
    obtain ⟨b1, b2⟩ := hreal q g d hj h2
    exact h.inj p q g c d a1 b1 a2 b2
  · obtain ⟨a1, a2⟩ := hreal p g c hi h1
    exact h.lt p g c a1 a2
  · obtain ⟨a1, a2⟩ := hreal p g c hi h1
    exact h.wr p g c a1 a2
  · have hi' : hget hp' p = some ob := hi
    rw [hg] at hi'
    by_cases e : id = p
    · subst e
      rw [if_pos rfl] at hi'
      obtain rfl := Option.some.inj hi'
      exact ⟨hsz, fun x hx => (by cases hx), by simp, .inl ⟨by simp [ctxOf, upd], rfl, rfl⟩⟩
    · rw [if_neg e] at hi'
      by_cases e2 : i = p
      · subst e2
        rw [if_pos rfl] at hi'
        obtain rfl := Option.some.inj hi'
        obtain ⟨g, cap, cur, q1, q2, q3, q4⟩ := h.hp i _ hob
        refine ⟨g, cap, cur, (hρ i hii).trans q1, q2, by rw [List.length_set]; exact q3, fun k u hu => ?_⟩
        rw [List.getElem?_set] at hu
        by_cases e3 : j = k
        · subst e3
          rw [if_pos rfl] at hu
          split at hu
          · obtain rfl := Option.some.inj hu
            obtain ⟨r1, r2⟩ := q4 j .nilS hj
            have r1 : cur.getD j undef = .slice none 0 0 := r1
            refine ⟨?_, r2⟩
            rw [r1]
            exact ⟨sz, 0, by show shOf hp' id = _; unfold shOf; rw [hg, if_pos rfl]; simp [OB.shape], by omega, .inl ⟨by simp [ctxOf, upd], ⟨none, rfl⟩, rfl⟩⟩
          · cases hu
        · rw [if_neg e3] at hu
          exact ⟨(q4 k u hu).1.mono hle, (q4 k u hu).2⟩
      · rw [if_neg e2] at hi'
        exact (h.hp p ob hi').mono hle (hρ p (Ne.symm e)) (fun _ _ _ => rfl)
  · rw [hB.1 p] at hv; cases hv

theorem gh_ok (g : G) (hB : g.top = true → B.bare) (h : RepS B st a w ρ) (hp : gpre st g) : ∃ ρ', RepS B (gst st g) a w ρ' := by
  cases g with
  | drop ns => exact ⟨ρ, gh_drop h ns⟩
  | pub id => exact ⟨ρ, gh_pub h id hp⟩
  | free id => exact ⟨ρ, gh_free h id⟩
  | ren x y => exact gh_ren (hB rfl) h x y hp
  | nil i j id T sz enc => exact gh_nil (hB rfl) h i j id T sz enc hp

end
end Go.Vc
