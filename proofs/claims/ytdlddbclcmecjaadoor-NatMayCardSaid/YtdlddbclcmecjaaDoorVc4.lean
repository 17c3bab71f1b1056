/-
  Vc4: loads, addresses, cuts, lengths: they yield what their short forms say.
-/
import Derived.Test.YtdlddbclcmecjaaDoorVc3
import Derived.Laws.BytesArg
set_option linter.unusedVariables false
set_option linter.unusedSimpArgs false
namespace Go.Vc
open Go

section
variable {P : Program} {B : Base} {st : St} {a : Act} {w : World} {ρ : Nat → Option (Nat × Nat)} {o : Oper} {K : AV → Prop}

theorem add_at (b off n : Nat) : (⟨b, off, none⟩ : Addr).add n = ⟨b, off + n, none⟩ := by
  unfold Addr.add; split
  · subst_vars; rfl
  · rfl

theorem elemSz_spec {t : TypeId} {sz : Nat} (h : ((elemSz P t).map (·.2) == some sz) = true) : ∃ e i, P.underlying t = some (.slice e) ∧ P.info? e = some i ∧ i.size = sz := by
  unfold elemSz at h
  split at h
  · rename_i e he
    cases hi : P.info? e with
    | none => simp [hi] at h
    | some i => exact ⟨e, i, he, hi, by simpa [hi] using h⟩
  · simp at h

theorem sizeOf_run {e : TypeId} {i : TypeInfo} (hi : P.info? e = some i) (w : World) : (sizeOf e).run P w = .ok i.size w := by
  simp [sizeOf, typeInfo, hi, Result.andThen, pure, Sem.run, bind, Sem.bind, program]

theorem chkO_ok (h : RepS B st a w ρ) {o : Option Operand} {x : Option X} (hc : chkO o x = true) {l : Option Int} (hl : optI st x = some l) :
    (o.map a.eval = none ∧ l = none) ∨ ∃ k n, o.map a.eval = some (.int k n) ∧ l = some n := by
  cases o with
  | none =>
    cases x with
    | none => simp [optI] at hl; exact .inl ⟨rfl, hl.symm⟩
    | some x => simp [chkO] at hc
  | some y =>
    cases x with
    | none => simp [chkO] at hc
    | some x =>
      simp only [optI] at hl
      split at hl
      · rename_i k n e
        obtain ⟨e1, _⟩ := eval_int h hc e
        exact .inr ⟨k, n, by simp [e1], by simpa using hl.symm⟩
      · cases hl

theorem RepD.one {w : World} {ok : Nat → Prop} {d : DV} {v : Value} (h : RepD w ok d v) : v.oneCell' = true := by cases h <;> rfl

theorem okCells_load {c : Ctx} {fr : Bool} {b off : Nat} {cs : List DV} {n : Nat}
    (hn : n ≤ cs.length) (hcell : ∀ j u, cs[j]? = some u → ∃ x, c.w.cell? ⟨b, off + j, none⟩ = some x ∧ RepD c.w (c.okf fr) u x) :
    ∃ vs : Array Value, vs.size = n ∧ (loadCells ⟨b, off, none⟩ n).run P c.w = .ok vs c.w ∧ ∀ j u, (cs.take n)[j]? = some u → RepD c.w (c.okf fr) u (vs.getD j undef) := by
  have key : ∀ m (acc : Array Value) i, i + m = n → acc.size = i → (∀ j u, j < i → cs[j]? = some u → RepD c.w (c.okf fr) u (acc.getD j undef)) →
      ∃ vs : Array Value, vs.size = n ∧ (loadCellsFrom ⟨b, off, none⟩ i m acc).run P c.w = .ok vs c.w ∧ ∀ j u, j < n → cs[j]? = some u → RepD c.w (c.okf fr) u (vs.getD j undef) := by
    intro m
    induction m with
    | zero =>
      intro acc i him hacc hr
      obtain rfl : i = n := by omega
      exact ⟨acc, hacc, rfl, hr⟩
    | succ m ih =>
      intro acc i him hacc hr
      have hi : i < cs.length := by omega
      obtain ⟨x, hx, hd⟩ := hcell i cs[i] (List.getElem?_eq_getElem hi)
      obtain ⟨vs, h1, h2, h3⟩ := ih (acc.push x) (i + 1) (by omega) (by simp [hacc]) (fun j u hj hu => by
        by_cases e : j = i
        · subst e
          rw [List.getElem?_eq_getElem hi] at hu
          obtain rfl := Option.some.inj hu
          simpa [← hacc] using hd
        · have := hr j u (by omega) hu
          rw [Array.getD_eq_getD_getElem?] at this ⊢
          rw [Array.getElem?_push, if_neg (by omega)]
          exact this)
      refine ⟨vs, h1, ?_, h3⟩
      simp only [loadCellsFrom, add_at]
      simp [load, Sem.run, hx, h2, Result.andThen]
  obtain ⟨vs, h1, h2, h3⟩ := key n #[] 0 (by omega) rfl (fun j u hj => by omega)
  refine ⟨vs, h1, h2, fun j u hu => ?_⟩
  rw [List.getElem?_take] at hu
  split at hu
  · rename_i hj; exact h3 j u hj hu
  · cases hu

theorem okCells_load' {c : Ctx} {b off : Nat} {cs : List AV} {n : Nat}
    (hn : n ≤ cs.length) (hcell : ∀ j u, cs[j]? = some u → ∃ x, c.w.cell? ⟨b, off + j, none⟩ = some x ∧ RepC1 c u x) :
    ∃ vs : Array Value, vs.size = n ∧ (loadCells ⟨b, off, none⟩ n).run P c.w = .ok vs c.w ∧ ∀ j u, (cs.take n)[j]? = some u → RepC1 c u (vs.getD j undef) := by
  have key : ∀ m (acc : Array Value) i, i + m = n → acc.size = i → (∀ j u, j < i → cs[j]? = some u → RepC1 c u (acc.getD j undef)) →
      ∃ vs : Array Value, vs.size = n ∧ (loadCellsFrom ⟨b, off, none⟩ i m acc).run P c.w = .ok vs c.w ∧ ∀ j u, j < n → cs[j]? = some u → RepC1 c u (vs.getD j undef) := by
    intro m
    induction m with
    | zero =>
      intro acc i him hacc hr
      obtain rfl : i = n := by omega
      exact ⟨acc, hacc, rfl, hr⟩
    | succ m ih =>
      intro acc i him hacc hr
      have hi : i < cs.length := by omega
      obtain ⟨x, hx, hd⟩ := hcell i cs[i] (List.getElem?_eq_getElem hi)
      obtain ⟨vs, h1, h2, h3⟩ := ih (acc.push x) (i + 1) (by omega) (by simp [hacc]) (fun j u hj hu => by
        by_cases e : j = i
        · subst e
          rw [List.getElem?_eq_getElem hi] at hu
          obtain rfl := Option.some.inj hu
          simpa [← hacc] using hd
        · have := hr j u (by omega) hu
          rw [Array.getD_eq_getD_getElem?] at this ⊢
          rw [Array.getElem?_push, if_neg (by omega)]
          exact this)
      refine ⟨vs, h1, ?_, h3⟩
      simp only [loadCellsFrom, add_at]
      simp [load, Sem.run, hx, h2, Result.andThen]
  obtain ⟨vs, h1, h2, h3⟩ := key n #[] 0 (by omega) rfl (fun j u hj => by omega)
  refine ⟨vs, h1, h2, fun j u hu => ?_⟩
  rw [List.getElem?_take] at hu
  split at hu
  · rename_i hj; exact h3 j u hj hu
  · cases hu

/-- A load at an address whose cells are known. -/
theorem ld_core {c : Ctx} {dst type pos after guard} {t : TypeId} {y : Operand} {b off n : Nat} {fr agg : Bool} {cs : List DV} (hw : c.w = w) (hy : a.eval y = .pointer (some ⟨b, off, none⟩))
    (ht : (match P.underlying t with
      | some (.struct _) => agg && (P.info? t).map (·.size) == some n
      | some (.array _ _) => false
      | some _ => !agg && n == 1
      | none => false) = true)
    (hn : n ≤ cs.length) (hcell : ∀ j u, cs[j]? = some u → ∃ x, c.w.cell? ⟨b, off + j, none⟩ = some x ∧ RepD c.w (c.okf fr) u x) :
    ∃ x, (execOp a.eval ⟨dst, .load t y, type, pos, after, guard⟩).run P w = .ok (.value x) w ∧ RepV c (ldCells fr n agg cs) x := by
  subst hw
  cases agg with
  | true =>
    have hst : ∃ fs i, P.underlying t = some (.struct fs) ∧ P.info? t = some i ∧ i.size = n := by
      split at ht
      · rename_i fs hf
        cases hi : P.info? t with
        | none => simp [hi] at ht
        | some i => exact ⟨fs, i, hf, rfl, by simpa [hi] using ht⟩
      · cases ht
      · simp at ht
      · cases ht
    obtain ⟨fs, i, hf, hi, hin⟩ := hst
    obtain ⟨vs, h1, h2, h3⟩ := okCells_load (P := P) hn hcell
    refine ⟨.agg vs, ?_, vs, rfl, by simp [h1, hn], fun j u hu => ?_⟩
    · simp [execOp, hy, Instr.loadAt, Instr.sureAddr, loadVar, isAgg, run_underlying hf, sizeOf_run hi, hin, h2, Result.andThen, pure, Sem.run]
    · rw [List.getElem?_map] at hu
      cases hd : (cs.take n)[j]? with
      | none => simp [hd] at hu
      | some d =>
        simp only [hd, Option.map_some, Option.some.injEq] at hu
        subst hu
        exact ⟨up_rep (h3 j d hd), (h3 j d hd).one⟩
  | false =>
    have hst : ∃ d, P.underlying t = some d ∧ n = 1 ∧ (isAgg t).run P c.w = .ok false c.w := by
      split at ht
      · simp at ht
      · cases ht
      · rename_i d h1 h2 hd
        refine ⟨d, hd, by simpa using ht, ?_⟩
        simp only [isAgg]
        cases d <;> first | exact absurd rfl (h1 _) | exact absurd rfl (h2 _ _) | simp [run_underlying hd, Result.andThen, pure, Sem.run]
      · cases ht
    obtain ⟨d, hd, rfl, hag⟩ := hst
    cases cs with
    | nil => simp at hn
    | cons u cs =>
      obtain ⟨x, hx, hr⟩ := hcell 0 u rfl
      have hx' : c.w.cell? ⟨b, off, none⟩ = some x := by simpa using hx
      refine ⟨x, ?_, ?_⟩
      · simp [execOp, hy, Instr.loadAt, Instr.sureAddr, loadVar, hag, load, Sem.run, hx', Result.andThen, pure]
      · simp only [ldCells, Bool.false_eq_true, if_false]
        rw [RepV_of_flat (up_flat fr u)]
        exact up_rep hr

theorem ldCells_flat_or (c : Ctx) : True := trivial

theorem cell_of_block {w : World} {g off : Nat} {cur : Array Value} {T : TypeId} {fz : Nat × Nat} (h : w.heap[g]? = some (.cells cur T fz)) (hlt : off < cur.size) : w.cell? ⟨g, off, none⟩ = some (cur.getD off undef) := by
  simp [World.cell?, h, Array.getElem?_eq_getElem hlt, hlt]

theorem mul_add_lt {i j sz cap n : Nat} (hi : i < n) (hn : n ≤ cap) (hj : j < sz) : i * sz + j < cap * sz := by
  have h1 : (i + 1) * sz ≤ cap * sz := Nat.mul_le_mul_right _ (by omega)
  rw [Nat.add_mul, Nat.one_mul] at h1
  omega

/-- The cells of an element of an own row. -/
theorem own_cells {c : Ctx} {id : Nat} {α : Type} {T : TypeId} {mov fr : Bool} {sz : Nat} {enc : α → List DV} {xs : List α} (h : RepOB c id (.arr T mov fr sz enc xs)) {g cap : Nat} (hρ : c.ρ id = some (g, cap)) {i : Nat} {e : α} (he : xs[i]? = some e) :
    ∀ j u, (enc e)[j]? = some u → ∃ x, c.w.cell? ⟨g, i * sz + j, none⟩ = some x ∧ RepD c.w (c.okf fr) u x := by
  obtain ⟨h0, hs, hm, h | ⟨g', cap', cur, hρ', hg, hn, hmax, hsz, hr⟩⟩ := h
  · obtain ⟨-, rfl, -⟩ := h; simp at he
  · rw [hρ] at hρ'
    simp only [Option.some.injEq, Prod.mk.injEq] at hρ'
    obtain ⟨rfl, rfl⟩ := hρ'
    intro j u hu
    have hj : j < sz := by
      have := (List.getElem?_eq_some_iff.1 hu).1
      rwa [hs e (List.mem_of_getElem? he)] at this
    have hi := (List.getElem?_eq_some_iff.1 he).1
    exact ⟨_, cell_of_block hg (by rw [hsz]; exact mul_add_lt hi hn hj), hr i e j u he hu⟩

theorem pm_ld (h : RepS B st a w ρ) (n : Nat) (agg : Bool) (x : X) (hc : chkPM P o (.ld n agg x) = true) (hk : (res st (.ld n agg x)).holds K) : Yield P B st a w ρ o K := by
  simp only [res] at hk
  obtain ⟨dst, op', type, pos, after, guard⟩ := o
  cases op' <;> simp only [chkPM, Bool.false_eq_true] at hc
  rename_i t y
  rw [Bool.and_eq_true] at hc
  obtain ⟨hx, ht⟩ := hc
  have hr := chkX_ok h hx
  generalize ex : evX st x = vx at hk hr
  cases vx <;> (try simp only [ldR] at hk) <;> (try exact False.elim hk)
  case rptr fr cs =>
    obtain ⟨hn, hK⟩ := hk trivial
    obtain ⟨b, off, e1, hb, hcell⟩ := hr
    obtain ⟨v, h1, h2⟩ := ld_core (c := ctxOf B st.hp w ρ) (fr := fr) rfl e1 ht hn hcell
    exact ⟨_, v, h1, h2, hK⟩
  case optr id i off =>
    split at hk
    · rename_i α T mov fr sz enc xs hob
      obtain ⟨⟨hn, hi⟩, hK⟩ := hk trivial
      obtain ⟨sz', n', g, cap, hsh, hρ, hin, hoff, e1⟩ := hr
      have hsz : sz' = sz := by
        have : (ctxOf B st.hp w ρ).sh id = some (sz, xs.length) := by simp [ctxOf, shOf, hob, OB.shape]
        rw [this] at hsh; simp at hsh; exact hsh.1.symm
      subst hsz
      obtain ⟨e, he⟩ : ∃ e, xs[i]? = some e := ⟨xs[i], List.getElem?_eq_getElem hi⟩
      have hobr := h.hp id _ hob
      have hcells := own_cells hobr hρ he
      have hel : (enc e).length = sz' := hobr.2.1 e (List.mem_of_getElem? he)
      obtain ⟨v, h1, h2⟩ := ld_core (c := ctxOf B st.hp w ρ) (fr := fr) (cs := (enc e).drop off) rfl e1 ht (by rw [List.length_drop]; omega) (fun j u hu => by
        rw [List.getElem?_drop] at hu
        obtain ⟨x, hx, hd⟩ := hcells (off + j) u hu
        exact ⟨x, by rw [show i * sz' + off + j = i * sz' + (off + j) by omega]; exact hx, hd⟩)
      exact ⟨_, v, h1, h2, hK e he⟩
    · exact False.elim hk
  case bptr id off =>
    split at hk
    · rename_i T cs hob
      obtain ⟨hn, hK⟩ := hk trivial
      obtain ⟨n', g, cap, hsh, hρ, e1⟩ := hr
      obtain ⟨g', cap', cur, hρ', hg, hsz, hcs⟩ := h.hp id _ hob
      rw [hρ] at hρ'
      simp only [Option.some.injEq, Prod.mk.injEq] at hρ'
      obtain ⟨rfl, rfl⟩ := hρ'
      have hcell : ∀ j u, (cs.drop off)[j]? = some u → ∃ x, w.cell? ⟨g, off + j, none⟩ = some x ∧ RepC1 (ctxOf B st.hp w ρ) u x := fun j u hu => by
        rw [List.getElem?_drop] at hu
        have hlt := (List.getElem?_eq_some_iff.1 hu).1
        exact ⟨_, cell_of_block hg (by omega), hcs _ u hu⟩
      cases agg with
      | true =>
        have hst : ∃ fs i, P.underlying t = some (.struct fs) ∧ P.info? t = some i ∧ i.size = n := by
          split at ht
          · rename_i fs hf
            cases hi : P.info? t with
            | none => simp [hi] at ht
            | some i => exact ⟨fs, i, hf, rfl, by simpa [hi] using ht⟩
          · cases ht
          · simp at ht
          · cases ht
        obtain ⟨fs, i, hf, hi, hin⟩ := hst
        obtain ⟨vs, h1, h2, h3⟩ := okCells_load' (P := P) (c := ctxOf B st.hp w ρ) (n := n) (by rw [List.length_drop]; omega) hcell
        refine ⟨_, .agg vs, ?_, ?_, hK⟩
        · have h2' : (loadCells ⟨g, off, none⟩ n).run P w = .ok vs w := h2
          simp [execOp, e1, Instr.loadAt, Instr.sureAddr, loadVar, isAgg, run_underlying hf, sizeOf_run hi, hin, h2', Result.andThen, pure, Sem.run]
        · simp only [if_true]
          exact ⟨vs, rfl, by rw [h1, List.length_take, List.length_drop]; omega, h3⟩
      | false =>
        have hst : n = 1 ∧ (isAgg t).run P w = .ok false w := by
          split at ht
          · simp at ht
          · cases ht
          · rename_i d h1 h2 hd
            refine ⟨by simpa using ht, ?_⟩
            simp only [isAgg]
            cases d <;> first | exact absurd rfl (h1 _) | exact absurd rfl (h2 _ _) | simp [run_underlying hd, Result.andThen, pure, Sem.run]
          · cases ht
        obtain ⟨rfl, hag⟩ := hst
        have hlt : off < cs.length := by omega
        obtain ⟨x, hx, hr⟩ := hcell 0 cs[off] (by simp [List.getElem?_drop, hlt])
        have hx' : w.cell? ⟨g, off, none⟩ = some x := by simpa using hx
        refine ⟨_, x, ?_, ?_, hK⟩
        · simp [execOp, e1, Instr.loadAt, Instr.sureAddr, loadVar, hag, load, Sem.run, hx', Result.andThen, pure]
        · simp only [Bool.false_eq_true, if_false]
          have e2 : cs.getD off .any = cs[off] := by simp [List.getD, hlt]
          rw [e2]
          by_cases hf : cs[off].flat = true
          · rw [RepV_of_flat hf]; exact hr.1
          · generalize cs[off] = u at hf hr
            cases u <;> simp [AV.flat] at hf <;> exact False.elim hr.1
    · exact False.elim hk

theorem pm_faF (h : RepS B st a w ρ) (off : Nat) (x : X) (hc : chkPM P o (.fa off x) = true) (hk : (res st (.fa off x)).holds K) : YieldF P B st a w ρ o K := by
  simp only [res] at hk
  obtain ⟨dst, op', type, pos, after, guard⟩ := o
  cases op' <;> simp only [chkPM, Bool.false_eq_true] at hc
  rename_i s y f
  rw [Bool.and_eq_true] at hc
  obtain ⟨hx, ht⟩ := hc
  have hr := chkX_ok h hx
  have hst : ∃ fs fd i, P.underlying s = some (.struct fs) ∧ fs[f]? = some fd ∧ fd.offset = off ∧ P.info? fd.type = some i ∧ i.size ≠ 0 := by
    split at ht
    · rename_i fs hf
      split at ht
      · rename_i fd hfd
        rw [Bool.and_eq_true] at ht
        cases hi : P.info? fd.type with
        | none => simp [hi] at ht
        | some i => exact ⟨fs, fd, i, hf, hfd, by simpa using ht.1, hi, by simpa [hi] using ht.2⟩
      · cases ht
    · cases ht
  obtain ⟨fs, fd, i, hf, hfd, hoff, hi, hi0⟩ := hst
  have hrun : ∀ w' b p, a.eval y = .pointer (some ⟨b, p, none⟩) → (execOp a.eval ⟨dst, .fieldAddr s y f, type, pos, after, guard⟩).run P w' = .ok (.value (.pointer (some ⟨b, p + off, none⟩))) w' := by
    intro w' b p e
    simp [execOp, Instr.fieldAt, run_underlying hf, hfd, e, Instr.sureAddr, fieldPlace, sizeOf_run hi, hi0, hoff, add_at, Result.andThen, pure, Sem.run]
  generalize ex : evX st x = vx at hk hr
  cases vx <;> (try simp only [faR] at hk) <;> (try exact False.elim hk)
  case rptr fr cs =>
    obtain ⟨-, hK⟩ := hk trivial
    obtain ⟨b, p, e1, hb, hcell⟩ := hr
    refine ⟨_, _, fun w' => hrun w' b p e1, show RepV _ (.rptr _ _) _ from ⟨b, p + off, rfl, hb, fun j u hu => ?_⟩, hK⟩
    rw [List.getElem?_drop] at hu
    rw [Nat.add_assoc]
    exact hcell _ u hu
  case optr id i p =>
    split at hk
    · rename_i α T mov fr sz enc xs hob
      obtain ⟨hlt, hK⟩ := hk trivial
      obtain ⟨sz', n', g, cap, hsh, hρ, hin, hoff', e1⟩ := hr
      have hsz : sz' = sz := by
        have : (ctxOf B st.hp w ρ).sh id = some (sz, xs.length) := by simp [ctxOf, shOf, hob, OB.shape]
        rw [this] at hsh; simp at hsh; exact hsh.1.symm
      subst hsz
      refine ⟨_, _, fun w' => hrun w' g _ e1, show RepV _ (.optr _ _ _) _ from ⟨sz', n', g, cap, hsh, hρ, hin, hlt, ?_⟩, hK⟩
      rw [Nat.add_assoc]
    · exact False.elim hk
  case bptr id p =>
    obtain ⟨-, hK⟩ := hk trivial
    obtain ⟨n', g, cap, hsh, hρ, e1⟩ := hr
    exact ⟨_, _, fun w' => hrun w' g _ e1, show RepV _ (.bptr _ _) _ from ⟨n', g, cap, hsh, hρ, rfl⟩, hK⟩

theorem pm_fa (h : RepS B st a w ρ) (off : Nat) (x : X) (hc : chkPM P o (.fa off x) = true) (hk : (res st (.fa off x)).holds K) : Yield P B st a w ρ o K := (pm_faF h off x hc hk).yield

theorem pm_ia (h : RepS B st a w ρ) (sz : Nat) (x i : X) (hc : chkPM P o (.ia sz x i) = true) (hk : (res st (.ia sz x i)).holds K) : Yield P B st a w ρ o K := by
  simp only [res] at hk
  obtain ⟨dst, op', type, pos, after, guard⟩ := o
  cases op' <;> simp only [chkPM, Bool.false_eq_true] at hc
  rename_i t y j
  rw [Bool.and_eq_true, Bool.and_eq_true] at hc
  obtain ⟨⟨hx, hi⟩, ht⟩ := hc
  obtain ⟨e, inf, hu, hinf, rfl⟩ := elemSz_spec ht
  have hr := chkX_ok h hx
  generalize ei : evX st i = vi at hk
  cases vi <;> (try simp only [iaR] at hk) <;> (try exact False.elim hk)
  rename_i ki n
  obtain ⟨e2, i2⟩ := eval_int h hi ei
  have hrun : ∀ b p len cap, a.eval y = .slice (some ⟨b, p, none⟩) len cap → 0 ≤ n → n < len → (execOp a.eval ⟨dst, .indexAddr t y j, type, pos, after, guard⟩).run P w = .ok (.value (.pointer (some ⟨b, p + n.toNat * inf.size, none⟩))) w := by
    intro b p len cap e h0 h1
    simp [execOp, Instr.indexAt, run_underlying hu, e, e2, asIntOf, h0, h1, sizeOf_run hinf, add_at, Result.andThen, pure, Sem.run]
  generalize ex : evX st x = vx at hk hr
  cases vx <;> (try simp only [] at hk) <;> (try exact False.elim hk)
  case ro α fr sz' enc xs =>
    obtain ⟨⟨hsz, h0, h1⟩, hK⟩ := hk trivial
    have hr' : RepD w ((ctxOf B st.hp w ρ).okf fr) (.ro sz' enc xs) (a.eval y) := hr
    generalize a.eval y = v at hr' hrun
    cases hr' with
    | ro _ _ _ A c cell hcc hm hA hs hd =>
      obtain ⟨b, p, rfl, hb, hcell⟩ := hA (by omega)
      have hlt : n.toNat < xs.length := by omega
      refine ⟨_, _, hrun b p _ _ rfl h0 h1, show RepV _ (.rptr _ (enc xs[n.toNat])) _ from ⟨b, p + n.toNat * inf.size, rfl, hb, fun j u hu => ?_⟩, hK _ (List.getElem?_eq_getElem hlt)⟩
      have hj : j < sz' := by
        have := (List.getElem?_eq_some_iff.1 hu).1
        rwa [hs _ (List.getElem_mem hlt)] at this
      rw [hsz]
      exact ⟨_, hcell _ j hlt hj, hd _ _ j u (List.getElem?_eq_getElem hlt) hu⟩
  case own id off len app =>
    split at hk
    · rename_i α T mov fr sz' enc xs hob
      obtain ⟨sz2, n2, hsh, hol, hv⟩ := hr
      have hsh' : sz2 = sz' ∧ n2 = xs.length := by
        have : (ctxOf B st.hp w ρ).sh id = some (sz', xs.length) := by simp [ctxOf, shOf, hob, OB.shape]
        rw [this] at hsh; simp at hsh; exact ⟨hsh.1.symm, hsh.2.symm⟩
      obtain ⟨rfl, rfl⟩ := hsh'
      obtain ⟨⟨hsz, h0, h1⟩, hK⟩ := hk hol
      rcases hv with ⟨_, _, h2⟩ | ⟨g, cap, k, o, hρ, e1, ho, hlk, hcap, happ⟩
      · omega
      · have hpos : 0 < sz2 := (h.hp id _ hob).1
        refine ⟨_, _, hrun g o _ _ e1 h0 h1, show RepV _ (.optr _ _ _) _ from ⟨sz2, xs.length, g, cap, hsh, hρ, by omega, hpos, ?_⟩, hK⟩
        rw [hsz, ho (by omega), Nat.add_zero, Nat.add_mul]
    · exact False.elim hk
  case lits fr sz' es =>
    obtain ⟨⟨hsz, h0, h1⟩, hK⟩ := hk trivial
    obtain ⟨b, cell, e1, hm, hb, hcell, hs, hd⟩ := hr
    have hlt : n.toNat < es.length := by omega
    have hge : es.getD n.toNat [] = es[n.toNat] := by simp [List.getD, hlt]
    refine ⟨_, _, hrun b 0 _ _ e1 h0 h1, show RepV _ (.rptr _ _) _ from ⟨b, 0 + n.toNat * inf.size, rfl, hb, fun j u hu => ?_⟩, hK⟩
    rw [hge] at hu
    have hj : j < sz' := by
      have := (List.getElem?_eq_some_iff.1 hu).1
      rwa [hs _ (List.getElem_mem hlt)] at this
    rw [hsz, Nat.zero_add]
    exact ⟨_, hcell _ j hlt hj, hd _ _ j u (List.getElem?_eq_getElem hlt) hu⟩

theorem pm_ix (h : RepS B st a w ρ) (x i : X) (hc : chkPM P o (.ix x i) = true) (hk : (res st (.ix x i)).holds K) : Yield P B st a w ρ o K := by
  simp only [res] at hk
  obtain ⟨dst, op', type, pos, after, guard⟩ := o
  cases op' <;> simp only [chkPM, Bool.false_eq_true] at hc
  rename_i t y j
  rw [Bool.and_eq_true, Bool.and_eq_true] at hc
  obtain ⟨⟨hx, hi⟩, ht⟩ := hc
  have hu : P.underlying t = some .string := by
    revert ht; split
    · intro _; assumption
    · intro h; cases h
  generalize ex : evX st x = vx at hk
  generalize ei : evX st i = vi at hk
  cases vx <;> cases vi <;> (try simp only [ixR] at hk) <;> (try exact False.elim hk)
  rename_i s k n
  obtain ⟨e1, i1⟩ := eval_str h hx ex
  obtain ⟨e2, i2⟩ := eval_int h hi ei
  obtain ⟨⟨h0, h1⟩, hK⟩ := hk trivial
  have hlt : n.toNat < s.size := by omega
  have hb : byteAt s n = ((s[n.toNat]'hlt).toNat : Int) := by
    unfold byteAt
    have : n.toNat < s.data.toList.length := by simpa using hlt
    rw [List.getD_eq_getElem?_getD, List.getElem?_eq_getElem this]
    rfl
  refine ⟨_, _, ?_, repInt (k := .u8) ?_, hK⟩
  · simp [execOp, Instr.index, e1, e2, asIntOf, run_underlying hu, h0, ByteArray.getElem?_lt' s _ hlt, hb, Result.andThen, pure, Sem.run]
  · rw [hb]; have := (s[n.toNat]'hlt).toNat_lt; simp only [inK]; omega

theorem bound_run {k : IntKind} {n : Int} {y : Nat} (code : BoundsCode) (h0 : 0 ≤ n) (h1 : n ≤ y) (w : World) : (Instr.sliceBound (.int k n) y code).run P w = .ok n.toNat w := by
  simp [Instr.sliceBound, asIntOf, h0, h1, Result.andThen, pure, Sem.run]

/-- The bounds of a cut, run. -/
theorem bounds_run {len cap : Nat} {lo hi mx : Option Int} {vl vh vm : Option Value} (isS : Bool) (hlc : len ≤ cap)
    (hl : (vl = none ∧ lo = none) ∨ ∃ k n, vl = some (.int k n) ∧ lo = some n) (hh : (vh = none ∧ hi = none) ∨ ∃ k n, vh = some (.int k n) ∧ hi = some n) (hm : (vm = none ∧ mx = none) ∨ ∃ k n, vm = some (.int k n) ∧ mx = some n)
    (hp : (cutB len lo hi mx).1) (w : World) :
    (Instr.sliceBounds isS len cap vl vh vm).run P w = .ok ((cutB len lo hi mx).2.1.toNat, (cutB len lo hi mx).2.2.toNat, (mx.map Int.toNat).getD cap) w ∧
      (cutB len lo hi mx).2.1.toNat ≤ (cutB len lo hi mx).2.2.toNat ∧ (cutB len lo hi mx).2.2.toNat ≤ len ∧ (cutB len lo hi mx).2.2.toNat ≤ (mx.map Int.toNat).getD cap ∧ (mx.map Int.toNat).getD cap ≤ cap := by
  rcases hl with ⟨rfl, rfl⟩ | ⟨kl, l, rfl, rfl⟩ <;> rcases hh with ⟨rfl, rfl⟩ | ⟨kh, h, rfl, rfl⟩ <;> rcases hm with ⟨rfl, rfl⟩ | ⟨km, m, rfl, rfl⟩ <;> simp only [cutB] at hp ⊢
  · refine ⟨?_, by omega, by omega, by simp; omega, by simp⟩
    simp [Instr.sliceBounds, Result.andThen, pure, Sem.run]
  · refine ⟨?_, by omega, by omega, by simp; omega, by simp⟩
    have b1 := bound_run (P := P) (k := kh) (n := h) (y := cap) (if isS then .sliceAcap else .sliceAlen) (by omega) (by omega) w
    simp [Instr.sliceBounds, b1, Result.andThen, pure, Sem.run]
  · refine ⟨?_, by omega, by omega, by simp; omega, by simp; omega⟩
    have b1 := bound_run (P := P) (k := km) (n := m) (y := cap) (if isS then .slice3Acap else .slice3Alen) (by omega) (by omega) w
    have b2 := bound_run (P := P) (k := kh) (n := h) (y := m.toNat) .slice3B (by omega) (by omega) w
    simp [Instr.sliceBounds, b1, b2, Result.andThen, pure, Sem.run]
  · refine ⟨?_, by omega, by omega, by simp; omega, by simp⟩
    have b1 := bound_run (P := P) (k := kl) (n := l) (y := len) .sliceB (by omega) (by omega) w
    simp [Instr.sliceBounds, b1, Result.andThen, pure, Sem.run]
  · refine ⟨?_, by omega, by omega, by simp; omega, by simp⟩
    have b1 := bound_run (P := P) (k := kh) (n := h) (y := cap) (if isS then .sliceAcap else .sliceAlen) (by omega) (by omega) w
    have b2 := bound_run (P := P) (k := kl) (n := l) (y := h.toNat) .sliceB (by omega) (by omega) w
    simp [Instr.sliceBounds, b1, b2, Result.andThen, pure, Sem.run]
  · refine ⟨?_, by omega, by omega, by simp; omega, by simp; omega⟩
    have b1 := bound_run (P := P) (k := km) (n := m) (y := cap) (if isS then .slice3Acap else .slice3Alen) (by omega) (by omega) w
    have b2 := bound_run (P := P) (k := kh) (n := h) (y := m.toNat) .slice3B (by omega) (by omega) w
    have b3 := bound_run (P := P) (k := kl) (n := l) (y := h.toNat) .slice3C (by omega) (by omega) w
    simp [Instr.sliceBounds, b1, b2, b3, Result.andThen, pure, Sem.run]

theorem cutL_eq {α : Type} (xs : List α) (lo hi mx : Option Int) (hp : (cutB xs.length lo hi mx).1) :
    cutL xs lo hi = (xs.take (cutB xs.length lo hi mx).2.2.toNat).drop (cutB xs.length lo hi mx).2.1.toNat := by
  cases lo <;> cases hi <;> cases mx <;> simp only [cutB, cutL] at hp ⊢ <;> first | exact hp.elim | simp

theorem pm_sl (h : RepS B st a w ρ) (sz : Nat) (x : X) (lo hi mx : Option X) (hc : chkPM P o (.sl sz x lo hi mx) = true) (hk : (res st (.sl sz x lo hi mx)).holds K) : Yield P B st a w ρ o K := by
  simp only [res] at hk
  obtain ⟨dst, op', type, pos, after, guard⟩ := o
  cases op' <;> simp only [chkPM, Bool.false_eq_true] at hc
  rename_i t y lo' hi' mx'
  simp only [Bool.and_eq_true] at hc
  obtain ⟨⟨⟨⟨hx, hlo⟩, hhi⟩, hmx⟩, ht⟩ := hc
  obtain ⟨e, inf, hu, hinf, rfl⟩ := elemSz_spec ht
  split at hk
  · rename_i l hh m el eh em
    have hl := chkO_ok h hlo el
    have hh' := chkO_ok h hhi eh
    have hm := chkO_ok h hmx em
    have hr := chkX_ok h hx
    have hrun : ∀ A len cap, len ≤ cap → a.eval y = .slice A len cap → (cutB len l hh m).1 → (execOp a.eval ⟨dst, .slice t y lo' hi' mx', type, pos, after, guard⟩).run P w =
        .ok (.value (.slice (if (m.map Int.toNat).getD cap = (cutB len l hh m).2.1.toNat then A else A.map (·.add ((cutB len l hh m).2.1.toNat * inf.size))) ((cutB len l hh m).2.2.toNat - (cutB len l hh m).2.1.toNat) ((m.map Int.toNat).getD cap - (cutB len l hh m).2.1.toNat))) w := by
      intro A len cap hlc e1 hp
      have hb := (bounds_run (P := P) true hlc hl hh' hm hp w).1
      simp [execOp, Instr.sliceAt, Instr.slice, run_underlying hu, e1, hb, sizeOf_run hinf, Result.andThen, pure, Sem.run]
    generalize ex : evX st x = vx at hk hr
    cases vx <;> (try simp only [sliceR] at hk) <;> (try exact False.elim hk)
    case nilS =>
      obtain ⟨hp, hK⟩ := hk trivial
      have e1 : a.eval y = .slice none 0 0 := hr
      have hb := (bounds_run (P := P) true (Nat.le_refl 0) hl hh' hm hp w)
      have := hrun none 0 0 (Nat.le_refl _) e1 hp
      refine ⟨_, _, this, ?_, hK⟩
      show _ = _
      have e2 : (cutB 0 l hh m).2.2.toNat = 0 := by omega
      have e3 : (m.map Int.toNat).getD 0 = 0 := by omega
      simp [e2, e3]
    case ro α fr sz' enc xs =>
      obtain ⟨⟨hsz, hp⟩, hK⟩ := hk trivial
      have hr' : RepD w ((ctxOf B st.hp w ρ).okf fr) (.ro sz' enc xs) (a.eval y) := hr
      rw [cutL_eq xs l hh m hp] at hK
      generalize a.eval y = v at hr' hrun
      cases hr' with
      | ro _ _ _ A c cell hcc hmx' hA hs hd =>
        have hb := (bounds_run (P := P) true hcc hl hh' hm hp w).2
        have hv := hrun A xs.length c hcc rfl hp
        generalize (cutB xs.length l hh m).2.1.toNat = lo at *
        generalize (cutB xs.length l hh m).2.2.toNat = hi at *
        generalize (m.map Int.toNat).getD c = mm at *
        have hlen : ((xs.take hi).drop lo).length = hi - lo := by rw [List.length_drop, List.length_take]; omega
        refine ⟨_, _, hv, ?_, hK⟩
        show RepD w ((ctxOf B st.hp w ρ).okf fr) (.ro sz' enc ((xs.take hi).drop lo)) _
        rw [← hlen]
        refine .ro sz' enc _ _ _ (fun i j => cell (lo + i) j) (by omega) (by omega) (fun hpos => ?_) (fun z hz => hs z (List.mem_of_mem_take (List.mem_of_mem_drop hz))) (fun i z j u hz hu => ?_)
        · obtain ⟨b, p, rfl, hb', hcell⟩ := hA (by omega)
          refine ⟨b, p + lo * sz', ?_, hb', fun i j hi' hj => ?_⟩
          · rw [if_neg (by omega)]; simp [add_at, hsz]
          · rw [show p + lo * sz' + i * sz' + j = p + (lo + i) * sz' + j by rw [Nat.add_mul]; omega]
            exact hcell _ j (by omega) hj
        · have hz' : xs[lo + i]? = some z := by
            rw [List.getElem?_drop, List.getElem?_take] at hz
            split at hz
            · exact hz
            · cases hz
          exact hd _ z j u hz' hu
    case own id off len app =>
      split at hk
      · rename_i α T mov fr sz' enc xs hob
        obtain ⟨sz2, n2, hsh, hol, hv⟩ := hr
        have hsh' : sz2 = sz' ∧ n2 = xs.length := by
          have : (ctxOf B st.hp w ρ).sh id = some (sz', xs.length) := by simp [ctxOf, shOf, hob, OB.shape]
          rw [this] at hsh; simp at hsh; exact ⟨hsh.1.symm, hsh.2.symm⟩
        obtain ⟨rfl, rfl⟩ := hsh'
        obtain ⟨⟨hsz, hp⟩, hK⟩ := hk hol
        rcases hv with ⟨h1, ⟨A0, e1⟩, rfl⟩ | ⟨g, cap, k, o, hρ, e1, ho, hlk, hcap, happ⟩
        · have hb := (bounds_run (P := P) true (Nat.le_refl 0) hl hh' hm hp w)
          have := hrun A0 0 0 (Nat.le_refl _) e1 hp
          have e2 : (cutB 0 l hh m).2.2.toNat = 0 := by omega
          have e3 : (m.map Int.toNat).getD 0 = 0 := by omega
          have e4 : (cutB 0 l hh m).2.1.toNat = 0 := by omega
          refine ⟨_, _, this, show RepV _ (.own _ _ _ _) _ from ⟨sz2, xs.length, hsh, by omega, .inl ⟨h1, ⟨A0, ?_⟩, by omega⟩⟩, hK⟩
          simp [e2, e3, e4]
        · have hb := (bounds_run (P := P) true hlk hl hh' hm hp w).2
          have hv := hrun _ len k hlk e1 hp
          have hlo0 : l.isNone = true → (cutB len l hh m).2.1.toNat = 0 := by
            intro hl0; cases l <;> simp at hl0; cases hh <;> cases m <;> simp [cutB]
          generalize (cutB len l hh m).2.1.toNat = lo at *
          generalize (cutB len l hh m).2.2.toNat = hi at *
          have hmm : m.isNone = true → (m.map Int.toNat).getD k = k := by intro hm0; cases m <;> simp at hm0 ⊢
          generalize (m.map Int.toNat).getD k = mm at *
          refine ⟨_, _, hv, show RepV _ (.own _ _ _ _) _ from ⟨sz2, xs.length, hsh, by omega, .inr ⟨g, cap, mm - lo, if mm = lo then o else o + lo * sz2, hρ, ?_, ?_, by omega, by omega, ?_⟩⟩, hK⟩
          · split
            · rfl
            · simp [add_at, hsz]
          · intro hpos
            rw [if_neg (by omega), ho (by omega), Nat.add_mul]
          · intro ha
            simp only [Bool.and_eq_true, beq_iff_eq] at ha
            obtain ⟨⟨⟨ha, hmn⟩, hoff⟩, hln⟩ := ha
            have h1 := happ ha
            have h2 := hlo0 hln
            have h3 := hmm hmn
            subst h2 h3
            refine ⟨by omega, fun _ => ?_⟩
            have := h1.2 hoff
            split <;> simp [this]
      · exact False.elim hk
    case lits fr sz' es =>
      split at hk
      · obtain ⟨-, hK⟩ := hk trivial
        obtain ⟨b, cell, e1, hmm, hb, hcell, hs, hd⟩ := hr
        have := hrun _ es.length es.length (Nat.le_refl _) e1 (by simp [cutB])
        refine ⟨_, _, this, ?_, hK⟩
        refine ⟨b, cell, ?_, hmm, hb, hcell, hs, hd⟩
        simp [cutB, add_at]
      · exact False.elim hk
  · exact False.elim hk

theorem pm_ss (h : RepS B st a w ρ) (x : X) (lo hi : Option X) (hc : chkPM P o (.ss x lo hi) = true) (hk : (res st (.ss x lo hi)).holds K) : Yield P B st a w ρ o K := by
  simp only [res] at hk
  obtain ⟨dst, op', type, pos, after, guard⟩ := o
  cases op' <;> simp only [chkPM, Bool.false_eq_true] at hc
  rename_i t y lo' hi' mx'
  simp only [Bool.and_eq_true] at hc
  obtain ⟨⟨⟨⟨hx, hlo⟩, hhi⟩, hmx⟩, ht⟩ := hc
  obtain rfl : mx' = none := by cases mx' <;> simp at hmx ⊢
  have hu : P.underlying t = some .string := by
    revert ht; split
    · intro _; assumption
    · intro h; cases h
  split at hk
  · rename_i l hh el eh
    have hl := chkO_ok h hlo el
    have hh' := chkO_ok h hhi eh
    generalize ex : evX st x = vx at hk
    cases vx <;> (try simp only [strR] at hk) <;> (try exact False.elim hk)
    rename_i s
    obtain ⟨e1, i1⟩ := eval_str h hx ex
    obtain ⟨hp, hK⟩ := hk trivial
    have hb := bounds_run (P := P) (vm := none) (mx := none) false (Nat.le_refl s.size) hl hh' (.inl ⟨rfl, rfl⟩) hp w
    refine ⟨_, _, ?_, show RepV _ (.str _) _ from ⟨rfl, ?_⟩, hK⟩
    · have hb1 := hb.1
      simp [execOp, Instr.sliceAt, Instr.slice, run_underlying hu, e1, hb1, Result.andThen, pure, Sem.run]
    · have : (s.extract (cutB s.size l hh none).2.1.toNat (cutB s.size l hh none).2.2.toNat).size ≤ s.size := by
        rw [ByteArray.size_extract]; omega
      omega
  · exact False.elim hk

theorem pm_len (h : RepS B st a w ρ) (x : X) (hc : chkPM P o (.len x) = true) (hk : (res st (.len x)).holds K) : Yield P B st a w ρ o K := by
  simp only [res] at hk
  obtain ⟨dst, op', type, pos, after, guard⟩ := o
  cases op' <;> simp only [chkPM, Bool.false_eq_true] at hc
  split at hc
  · rename_i args argTypes heq
    injection heq with heq
    subst heq
    split at hc
    · rename_i y t ha ht
      obtain rfl : args = #[y] := by simpa using congrArg List.toArray ha
      obtain rfl : argTypes = #[t] := by simpa using congrArg List.toArray ht
      rw [Bool.and_eq_true] at hc
      obtain ⟨hx, ht⟩ := hc
      obtain ⟨e, hu⟩ : ∃ e, P.underlying t = some (.slice e) := by
        revert ht; split
        · intro _; exact ⟨_, by assumption⟩
        · intro h; cases h
      have hrun : ∀ A n c, a.eval y = .slice A n c → (execOp a.eval ⟨dst, .call { callee := .builtin .len, args := #[y], argTypes := #[t] }, type, pos, after, guard⟩).run P w = .ok (.value (.int .i64 n)) w := by
        intro A n c e1
        simp [execOp, resolve, invoke, builtin, Builtin.len_, run_underlying hu, e1, goInt, Result.andThen, pure, Sem.run]
      have hr := chkX_ok h hx
      generalize ex : evX st x = vx at hk hr
      cases vx <;> (try simp only [lenR] at hk) <;> (try exact False.elim hk)
      case nilS => exact ⟨_, _, hrun none 0 0 hr, repInt (by simp [inK]), (hk trivial).2⟩
      case ro α fr sz' enc xs =>
        have hr' : RepD w ((ctxOf B st.hp w ρ).okf fr) (.ro sz' enc xs) (a.eval y) := hr
        generalize a.eval y = v at hr' hrun
        cases hr' with
        | ro _ _ _ A c cell hcc hmx' hA hs hd => exact ⟨_, _, hrun A _ c rfl, repInt (by simp only [inK]; omega), (hk hmx').2⟩
      case own id off len app =>
        split at hk
        · rename_i α T mov fr sz' enc xs hob
          obtain ⟨sz2, n2, hsh, hol, hv⟩ := hr
          have hsh' : sz2 = sz' ∧ n2 = xs.length := by
            have : (ctxOf B st.hp w ρ).sh id = some (sz', xs.length) := by simp [ctxOf, shOf, hob, OB.shape]
            rw [this] at hsh; simp at hsh; exact ⟨hsh.1.symm, hsh.2.symm⟩
          obtain ⟨rfl, rfl⟩ := hsh'
          have hmx := (h.hp id _ hob).2.2.1
          have hin : inK .i64 (len : Int) := by simp only [inK]; omega
          rcases hv with ⟨h1, ⟨A0, e1⟩, rfl⟩ | ⟨g, cap, k, o, hρ, e1, ho, hlk, hcap, happ⟩
          · exact ⟨_, _, hrun _ _ _ e1, repInt hin, (hk ⟨hol, hmx⟩).2⟩
          · exact ⟨_, _, hrun _ _ _ e1, repInt hin, (hk ⟨hol, hmx⟩).2⟩
        · exact False.elim hk
      case lits fr sz' es =>
        obtain ⟨b, cell, e1, hmm, hb, hcell, hs, hd⟩ := hr
        exact ⟨_, _, hrun _ _ _ e1, repInt (by simp only [inK]; omega), (hk trivial).2⟩
    · cases hc
  · cases hc

theorem pm_lens (h : RepS B st a w ρ) (x : X) (hc : chkPM P o (.lens x) = true) (hk : (res st (.lens x)).holds K) : Yield P B st a w ρ o K := by
  simp only [res] at hk
  obtain ⟨dst, op', type, pos, after, guard⟩ := o
  cases op' <;> simp only [chkPM, Bool.false_eq_true] at hc
  split at hc
  · rename_i args argTypes heq
    injection heq with heq
    subst heq
    split at hc
    · rename_i y t ha ht
      obtain rfl : args = #[y] := by simpa using congrArg List.toArray ha
      obtain rfl : argTypes = #[t] := by simpa using congrArg List.toArray ht
      rw [Bool.and_eq_true] at hc
      obtain ⟨hx, ht⟩ := hc
      have hu : P.underlying t = some .string := by
        revert ht; split
        · intro _; assumption
        · intro h; cases h
      generalize ex : evX st x = vx at hk
      cases vx <;> (try simp only [lenSR] at hk) <;> (try exact False.elim hk)
      rename_i s
      obtain ⟨e1, i1⟩ := eval_str h hx ex
      refine ⟨_, _, ?_, repInt (k := .i64) (by simp only [inK]; omega), (hk i1).2⟩
      simp [execOp, resolve, invoke, builtin, Builtin.len_, run_underlying hu, e1, goInt, Result.andThen, pure, Sem.run]
    · cases hc
  · cases hc

theorem pm_ex (h : RepS B st a w ρ) (x : X) (j : Nat) (hc : chkPM P o (.ex x j) = true) (hk : (res st (.ex x j)).holds K) : Yield P B st a w ρ o K := by
  simp only [res] at hk
  obtain ⟨dst, op', type, pos, after, guard⟩ := o
  cases op' <;> simp only [chkPM, Bool.false_eq_true] at hc
  rename_i y j'
  rw [Bool.and_eq_true, beq_iff_eq] at hc
  obtain ⟨hx, rfl⟩ := hc
  have hr := chkX_ok h hx
  generalize ex : evX st x = vx at hk hr
  cases vx <;> (try simp only [exR] at hk) <;> (try exact False.elim hk)
  rename_i vs
  obtain ⟨hj, hK⟩ := hk trivial
  obtain ⟨us, e1, hs, hu⟩ := hr
  have hju : j < us.size := by omega
  refine ⟨_, us.getD j undef, ?_, ?_, hK⟩
  · simp [execOp, Instr.extract, e1, Array.getElem?_eq_getElem hju, hju, Result.andThen, pure, Sem.run]
  · have := hu j vs[j] (List.getElem?_eq_getElem hj)
    rw [show vs.getD j .any = vs[j] by simp [List.getD, hj]]
    generalize vs[j] = u at this
    by_cases hf : u.flat = true
    · rw [RepV_of_flat hf]; rwa [RepA_of_flat hf] at this
    · cases u <;> simp [AV.flat] at hf
      · exact this
      · exact False.elim this

theorem pm_fn (h : RepS B st a w ρ) (f : FuncId) (hc : chkPM P o (.fn f) = true) (hk : (res st (.fn f)).holds K) : Yield P B st a w ρ o K := by
  simp only [res] at hk
  obtain ⟨dst, op', type, pos, after, guard⟩ := o
  cases op' <;> simp only [chkPM, Bool.false_eq_true] at hc
  split at hc
  · rename_i heq
    injection heq with h1 h2 h3
    simp only [Bool.and_eq_true, beq_iff_eq, Array.isEmpty_iff] at hc
    obtain ⟨⟨rfl, rfl⟩, rfl⟩ := hc
    subst h1 h2 h3
    refine ⟨_, .func (.func f) #[] #[], ?_, show RepV _ (.fn f) _ from rfl, (hk trivial).2⟩
    simp [execOp, Instr.makeFunc, Result.andThen, pure, Sem.run]
  · cases hc

theorem pm_mx (h : RepS B st a w ρ) (big : Bool) (x y : X) (hc : chkPM P o (.mx big x y) = true) (hk : (res st (.mx big x y)).holds K) : Yield P B st a w ρ o K := by
  simp only [res] at hk
  obtain ⟨dst, op', type, pos, after, guard⟩ := o
  cases op' <;> simp only [chkPM, Bool.false_eq_true] at hc
  generalize ex : evX st x = vx at hk
  generalize ey : evX st y = vy at hk
  cases vx <;> cases vy <;> (try simp only [mxR] at hk) <;> (try exact False.elim hk)
  rename_i k p k' q
  by_cases hkk : k = k'
  · subst hkk
    rw [if_pos rfl] at hk
    have hK := (hk trivial).2
    split at hc
    · rename_i args argTypes heq
      injection heq with heq
      subst heq
      rw [Bool.and_eq_true] at hc
      obtain ⟨rfl, hc⟩ := hc
      split at hc
      · rename_i x' y' ha
        obtain rfl : args = #[x', y'] := by simpa using congrArg List.toArray ha
        rw [Bool.and_eq_true] at hc
        obtain ⟨e1, i1⟩ := eval_int h hc.1 ex
        obtain ⟨e2, i2⟩ := eval_int h hc.2 ey
        have em : (if q > p then q else p) = max p q := by omega
        refine ⟨_, .int k (max p q), ?_, repInt ?_, by simpa using hK⟩
        · simp [execOp, resolve, invoke, builtin, Builtin.max_, Builtin.max2, e1, e2, em, Result.andThen, pure, Sem.run]
        · rcases Int.le_total p q with hpq | hpq
          · rw [Int.max_eq_right hpq]; exact i2
          · rw [Int.max_eq_left hpq]; exact i1
      · cases hc
    · rename_i args argTypes heq
      injection heq with heq
      subst heq
      rw [Bool.and_eq_true] at hc
      obtain ⟨hb, hc⟩ := hc
      obtain rfl : big = false := by simpa using hb
      split at hc
      · rename_i x' y' ha
        obtain rfl : args = #[x', y'] := by simpa using congrArg List.toArray ha
        rw [Bool.and_eq_true] at hc
        obtain ⟨e1, i1⟩ := eval_int h hc.1 ex
        obtain ⟨e2, i2⟩ := eval_int h hc.2 ey
        have em : (if q < p then q else p) = min p q := by omega
        refine ⟨_, .int k (min p q), ?_, repInt ?_, by simpa using hK⟩
        · simp [execOp, resolve, invoke, builtin, Builtin.min_, Builtin.min2, e1, e2, em, Result.andThen, pure, Sem.run]
        · rcases Int.le_total p q with hpq | hpq
          · rw [Int.min_eq_left hpq]; exact i1
          · rw [Int.min_eq_right hpq]; exact i2
      · cases hc
    · cases hc
  · rw [if_neg hkk] at hk
    exact False.elim hk

/-- Every operation that leaves the world alone. -/
theorem conv_bytes {src dst e : TypeId} (hs : P.underlying src = some (.slice e)) (he : P.underlying e = some (.int .u8)) (hd : P.underlying dst = some .string) (A : Option Addr) (len c : Nat) (ys : List Int) (hl : ys.length = len)
    (hA : 0 < len → ∃ b off, A = some ⟨b, off, none⟩ ∧ ∀ i, i < len → w.cell? ⟨b, off + i, none⟩ = some (.int .u8 (ys.getD i 0))) :
    (convert src dst (.slice A len c)).run P w = .ok (.string (strOfNums ys)) w := by
  by_cases h0 : 0 < len
  · obtain ⟨b, off, rfl, hc⟩ := hA h0
    exact run_convert_bytes_arg w src e hs he b off len c ys hl hc dst hd
  · obtain rfl : len = 0 := by omega
    obtain rfl : ys = [] := List.eq_nil_of_length_eq_zero hl
    cases A with
    | none => exact run_convert_bytes_nil w src e hs he 0 c dst hd
    | some ad =>
      rw [run_convert_bytes_string w src dst e _ 0 c hs he hd, run_bytesToString w ad 0 c [] (by simp [loadCells, loadCellsFrom, Sem.run_pure])]
      rfl

theorem repStr {c : Ctx} {s : ByteArray} (h : s.size ≤ 281474976710656) : RepV c (.str s) (.string s) := ⟨rfl, h⟩

theorem isB_spec {l : List DV} (h : isB l = true) : ∃ n, l = [.int .u8 n] := by
  unfold isB at h
  split at h
  · exact ⟨_, rfl⟩
  · cases h

theorem bytes_of {α : Type} {enc : α → List DV} : ∀ {xs : List α}, (∀ x, x ∈ xs → isB (enc x) = true) → ∃ ys : List Int, ys.length = xs.length ∧ xs.map enc = ys.map (fun n => [.int .u8 n]) ∧ strOfDV (xs.map enc) = strOfNums ys
  | [], _ => ⟨[], rfl, rfl, rfl⟩
  | x :: xs, h => by
    obtain ⟨ys, h1, h2, h3⟩ := bytes_of (xs := xs) fun y hy => h y (List.mem_cons_of_mem _ hy)
    obtain ⟨n, hn⟩ := isB_spec (h x List.mem_cons_self)
    refine ⟨n :: ys, by simp [h1], by simp [hn, h2], ?_⟩
    rw [List.map_cons, hn, h2]
    simp only [strOfDV, strOfNums, List.map_cons, List.map_map, byteOf]
    congr 1

theorem byte_cell {w : World} {ok : Nat → Prop} {n : Int} {v : Value} (h : RepD w ok (.int .u8 n) v) : v = .int .u8 n := by cases h; rfl

theorem pm_cs (h : RepS B st a w ρ) (x : X) (hc : chkPM P o (.cs x) = true) (hk : (res st (.cs x)).holds K) : Yield P B st a w ρ o K := by
  simp only [res] at hk
  obtain ⟨dst, op', type, pos, after, guard⟩ := o
  cases op' <;> simp only [chkPM, Bool.false_eq_true] at hc
  rename_i s d y
  simp only [Bool.and_eq_true] at hc
  obtain ⟨hx, ht⟩ := hc
  split at ht
  case h_2 => cases ht
  rename_i e hs hd
  split at ht
  case h_2 => cases ht
  rename_i he
  have hrun : ∀ v (r : ByteArray), a.eval y = v → (convert s d v).run P w = .ok (.string r) w → (execOp a.eval ⟨dst, .convert s d y, type, pos, after, guard⟩).run P w = .ok (.value (.string r)) w := by
    intro v r e1 h1
    simp [execOp, e1, h1, Result.andThen, pure, Sem.run]
  have hr := chkX_ok h hx
  generalize ex : evX st x = vx at hk hr
  cases vx <;> (try simp only [csR] at hk) <;> (try exact False.elim hk)
  case nilS =>
    have hr' : a.eval y = .slice none 0 0 := hr
    exact ⟨_, _, hrun _ _ hr' (conv_bytes hs he hd none 0 0 [] rfl (fun h => by omega)), repStr (by decide), (hk trivial).2⟩
  case ro α fr sz enc xs =>
    have hr' : RepD w ((ctxOf B st.hp w ρ).okf fr) (.ro sz enc xs) (a.eval y) := hr
    obtain ⟨⟨rfl, hB⟩, hk2⟩ := hk trivial
    obtain ⟨ys, hl, hmap, hstr⟩ := bytes_of hB
    generalize hv : a.eval y = v at hr'
    cases hr' with
    | ro _ _ _ A c cell hcc hmx hA hse hd' =>
      rw [hstr] at hk2
      refine ⟨_, _, hrun _ _ hv (conv_bytes hs he hd A xs.length c ys hl (fun h0 => ?_)), repStr (by rw [strOfNums_size]; omega), hk2⟩
      obtain ⟨b, off, e1, hb, hcell⟩ := hA h0
      refine ⟨b, off, e1, fun i hi => ?_⟩
      have h1 := hcell i 0 hi (by omega)
      rw [Nat.mul_one, Nat.add_zero] at h1
      have hxi : xs[i]? = some xs[i] := List.getElem?_eq_getElem hi
      have hen : enc xs[i] = [.int .u8 (ys.getD i 0)] := by
        have := congrArg (fun l => l[i]?) hmap
        simp only [List.getElem?_map, hxi, Option.map_some] at this
        have hyi : ys[i]? = some ys[i] := List.getElem?_eq_getElem (by omega)
        rw [hyi] at this
        simp only [Option.map_some, Option.some.injEq] at this
        rw [this]; simp [List.getD, hyi]
      have h2 := hd' i xs[i] 0 (.int .u8 (ys.getD i 0)) hxi (by rw [hen]; rfl)
      rw [h1, byte_cell h2]
  case own id off len app =>
    split at hk
    case h_2 => exact False.elim hk
    rename_i α T mov fr sz enc xs hob
    obtain ⟨sz2, n2, hsh, hol, hv⟩ := hr
    have hsh' : sz2 = sz ∧ n2 = xs.length := by
      have : (ctxOf B st.hp w ρ).sh id = some (sz, xs.length) := by simp [ctxOf, shOf, hob, OB.shape]
      rw [this] at hsh; simp at hsh; exact ⟨hsh.1.symm, hsh.2.symm⟩
    obtain ⟨rfl, rfl⟩ := hsh'
    obtain ⟨⟨rfl, hB⟩, hk2⟩ := hk hol
    obtain ⟨ys, hl, hmap, hstr⟩ := bytes_of hB
    have hl' : ys.length = len := by rw [hl, List.length_take, List.length_drop]; omega
    rw [hstr] at hk2
    have hmx := (h.hp id _ hob).2.2.1
    have hsz : (strOfNums ys).size ≤ 281474976710656 := by rw [strOfNums_size]; omega
    rcases hv with ⟨h1, ⟨A0, e1⟩, rfl⟩ | ⟨g, cap, k, o, hρ, e1, ho, hlk, hcap, happ⟩
    · exact ⟨_, _, hrun _ _ e1 (conv_bytes hs he hd A0 0 0 ys hl' (fun h => by omega)), repStr hsz, hk2⟩
    · refine ⟨_, _, hrun _ _ e1 (conv_bytes hs he hd _ len k ys hl' (fun h0 => ⟨g, o, rfl, fun i hi => ?_⟩)), repStr hsz, hk2⟩
      have ho' := ho (by omega)
      have hxi : xs[off + i]? = some xs[off + i] := List.getElem?_eq_getElem (by omega)
      have hen : enc xs[off + i] = [.int .u8 (ys.getD i 0)] := by
        have := congrArg (fun l => l[i]?) hmap
        simp only [List.getElem?_map, List.getElem?_take, List.getElem?_drop, if_pos hi, hxi, Option.map_some] at this
        have hyi : ys[i]? = some ys[i] := List.getElem?_eq_getElem (by omega)
        rw [hyi] at this
        simp only [Option.map_some, Option.some.injEq] at this
        rw [this]; simp [List.getD, hyi]
      obtain ⟨v, hv1, hv2⟩ := own_cells (h.hp id _ hob) hρ hxi 0 (.int .u8 (ys.getD i 0)) (by rw [hen]; rfl)
      rw [byte_cell hv2] at hv1
      have e2 : o + i = (off + i) * 1 + 0 := by omega
      rw [e2]; exact hv1

theorem pm_ok (h : RepS B st a w ρ) (m : PM) (hc : chkPM P o m = true) (hk : (res st m).holds K) : Yield P B st a w ρ o K := by
  cases m with
  | mv x => exact pm_mv h x hc hk
  | nchk x => exact pm_nchk h x hc hk
  | bin op x y => exact pm_bin h op x y hc hk
  | bb op x y => exact pm_bb h op x y hc hk
  | un op x => exact pm_un h op x hc hk
  | cv k x => exact pm_cv h k x hc hk
  | ld n agg x => exact pm_ld h n agg x hc hk
  | fa off x => exact pm_fa h off x hc hk
  | ia sz x i => exact pm_ia h sz x i hc hk
  | ix x i => exact pm_ix h x i hc hk
  | sl sz x lo hi mx => exact pm_sl h sz x lo hi mx hc hk
  | ss x lo hi => exact pm_ss h x lo hi hc hk
  | len x => exact pm_len h x hc hk
  | lens x => exact pm_lens h x hc hk
  | cs x => exact pm_cs h x hc hk
  | ex x j => exact pm_ex h x j hc hk
  | fn f => exact pm_fn h f hc hk
  | mx big x y => exact pm_mx h big x y hc hk

end
end Go.Vc
