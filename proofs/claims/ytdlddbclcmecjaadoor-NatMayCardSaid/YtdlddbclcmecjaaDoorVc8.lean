/-
  Vc8: literals of slices, append, copy.
-/
import Derived.Test.YtdlddbclcmecjaaDoorVc7
set_option linter.unusedVariables false
set_option linter.unusedSimpArgs false
namespace Go.Vc
open Go

section
variable {P : Program} {B : Base} {st : St} {a : Act} {w : World} {ρ : Nat → Option (Nat × Nat)} {o : Oper} {K : St → Prop}

theorem Le_draw (B : Base) (hp : Heap) (w : World) (ρ : Nat → Option (Nat × Nat)) : (ctxOf B hp w ρ).Le (ctxOf B hp w.drew ρ) := ⟨fun fr b hb => ⟨rfl, hb⟩, fun id _ => ⟨rfl, rfl⟩⟩

theorem RepS.draw (h : RepS B st a w ρ) : RepS B st a w.drew ρ where
  defers := h.defers
  size := h.size
  ext := ⟨h.ext.os, h.ext.tape, h.ext.output, h.ext.size, h.ext.block, h.ext.froz⟩
  inj := h.inj
  lt := h.lt
  wr := h.wr
  hp := fun i ob hi => (h.hp i ob hi).mono (Le_draw B st.hp w ρ) rfl (fun _ _ _ => rfl)
  env := fun n => (h.env n).mono (Le_draw B st.hp w ρ)
  fixN := h.fixN
  fix := h.fix

/-! ### what is to be appended or copied -/
/-- The cells of a list that stands in a row of elements. -/
def rowCells (sz n : Nat) (cell : Nat → Nat → Value) : List Value := (List.range (n * sz)).map fun k => cell (k / sz) (k % sz)

theorem rowCells_len (sz n : Nat) (cell : Nat → Nat → Value) : (rowCells sz n cell).length = n * sz := by simp [rowCells]
theorem rowCells_get (sz n : Nat) (cell : Nat → Nat → Value) (k : Nat) : (rowCells sz n cell)[k]? = if k < n * sz then some (cell (k / sz) (k % sz)) else none := by
  unfold rowCells
  rw [List.getElem?_map]
  by_cases h : k < n * sz
  · rw [if_pos h, List.getElem?_range h]; rfl
  · rw [if_neg h, List.getElem?_eq_none (by simp; omega)]; rfl

theorem div_mod_lt {sz n k : Nat} (hsz : 0 < sz) (h : k < n * sz) : k / sz < n ∧ k % sz < sz ∧ k / sz * sz + k % sz = k :=
  ⟨(Nat.div_lt_iff_lt_mul hsz).2 h, Nat.mod_lt _ hsz, by rw [Nat.mul_comm]; exact Nat.div_add_mod k sz⟩

/-- The cells of this list's elements stand there. -/
def Src (w : World) (ok : Nat → Prop) {α : Type} (sz : Nat) (enc : α → List DV) (zs : List α) (v : Value) : Prop :=
  ∃ (A : Option Addr) (c : Nat) (cell : Nat → Nat → Value), v = .slice A zs.length c ∧ zs.length ≤ 281474976710656 ∧ (∀ z, z ∈ zs → (enc z).length = sz) ∧
    (0 < zs.length → ∃ b off, A = some ⟨b, off, none⟩ ∧ ∀ i j, i < zs.length → j < sz → w.cell? ⟨b, off + i * sz + j, none⟩ = some (cell i j)) ∧
    ∀ i z j u, zs[i]? = some z → (enc z)[j]? = some u → RepD w ok u (cell i j)

theorem Src.of_rep {ok : Nat → Prop} {α : Type} {sz : Nat} {enc : α → List DV} {zs : List α} {v : Value} (h : RepD w ok (.ro sz enc zs) v) : Src w ok sz enc zs v := by
  cases h with
  | ro _ _ _ A c cell hc hm hA hs hr => exact ⟨A, c, cell, rfl, hm, hs, fun h0 => by obtain ⟨b, off, e, _, hcell⟩ := hA h0; exact ⟨b, off, e, hcell⟩, hr⟩

theorem Src.ok_imp {ok ok' : Nat → Prop} (hk : ∀ b, ok b → ok' b) {α : Type} {sz : Nat} {enc : α → List DV} {zs : List α} {v : Value} (h : Src w ok sz enc zs v) : Src w ok' sz enc zs v := by
  obtain ⟨A, c, cell, h1, h2, h3, h4, h5⟩ := h
  exact ⟨A, c, cell, h1, h2, h3, h4, fun i z j u hz hu => (h5 i z j u hz hu).ok_imp hk⟩

theorem Src.scal {ok ok' : Nat → Prop} {α : Type} {sz : Nat} {enc : α → List DV} {zs : List α} (hk : scalE enc zs) {v : Value} (h : Src w ok sz enc zs v) : Src w ok' sz enc zs v := by
  obtain ⟨A, c, cell, h1, h2, h3, h4, h5⟩ := h
  exact ⟨A, c, cell, h1, h2, h3, h4, fun i z j u hz hu => scal_rep (hk z (List.mem_of_getElem? hz) u (List.mem_of_getElem? hu)) (h5 i z j u hz hu)⟩

theorem okf_imp {B : Base} {hp : Heap} {w : World} {ρ : Nat → Option (Nat × Nat)} {fr fr' : Bool} (hf : fr = true → fr' = true) (b : Nat) (hb : (ctxOf B hp w ρ).okf fr' b) : (ctxOf B hp w ρ).okf fr b := by
  cases fr with
  | true => rwa [hf rfl] at hb
  | false => cases fr' with
    | true => exact okf_weak B hp w ρ b hb
    | false => exact hb

theorem src_spec {α : Type} (h : RepS B st a w ρ) {x : AV} {v : Value} (hr : RepV (ctxOf B st.hp w ρ) x v) {fr : Bool} {sz : Nat} {enc : α → List DV} {zs : List α} (hq : srcQ st fr sz enc x zs) :
    Src w ((ctxOf B st.hp w ρ).okf fr) sz enc zs v := by
  cases x <;> simp only [srcQ] at hq <;> try exact hq.elim
  case nilS =>
    subst hq
    obtain rfl : v = .slice none 0 0 := hr
    exact ⟨none, 0, fun _ _ => undef, rfl, by simp, fun z hz => (by cases hz), fun h0 => (by simp at h0), fun i z j u hz => (by simp at hz)⟩
  case ro β fr' sz' enc' ys =>
    obtain ⟨hf, he⟩ := hq
    have hd : RepD w ((ctxOf B st.hp w ρ).okf fr') (.ro sz' enc' ys) v := hr
    rw [← he] at hd
    rcases hf with hf | hf
    · exact (Src.of_rep hd).ok_imp (okf_imp hf)
    · exact (Src.of_rep hd).scal hf
  case own id off len app =>
    split at hq
    · rename_i β T mov fr' sz' enc' ys hob
      obtain ⟨hf, he⟩ := hq
      obtain ⟨sz2, n2, hsh, hol, hv⟩ := hr
      have hsh' : sz2 = sz' ∧ n2 = ys.length := by
        have : (ctxOf B st.hp w ρ).sh id = some (sz', ys.length) := by simp [ctxOf, shOf, hob, OB.shape]
        rw [this] at hsh; simp at hsh; exact ⟨hsh.1.symm, hsh.2.symm⟩
      obtain ⟨rfl, rfl⟩ := hsh'
      obtain ⟨h0, hsl, hmx, hb⟩ := h.hp id _ hob
      have key : Src w ((ctxOf B st.hp w ρ).okf fr') sz2 enc' ((ys.drop off).take len) v := by
        have hll : ((ys.drop off).take len).length = len := by rw [List.length_take, List.length_drop]; omega
        rcases hv with ⟨h1, ⟨A0, rfl⟩, rfl⟩ | ⟨g, cap, k, oo, hρ, rfl, ho, hlk, hcap, happ⟩
        · exact ⟨A0, 0, fun _ _ => undef, by simp, by simp, fun z hz => (by simp at hz), fun h0 => (by simp at h0), fun i z j u hz => (by simp at hz)⟩
        · rcases hb with ⟨hn, rfl, _⟩ | ⟨g', cap', cur, hρ', hg, hnc, hcm, hcs, hrep⟩
          · have : (ctxOf B st.hp w ρ).ρ id = none := hn
            rw [hρ] at this; cases this
          · rw [hρ] at hρ'
            simp only [Option.some.injEq, Prod.mk.injEq] at hρ'
            obtain ⟨rfl, rfl⟩ := hρ'
            refine ⟨some ⟨g, oo, none⟩, k, fun i j => cur.getD ((off + i) * sz2 + j) undef, by rw [hll], by omega, fun z hz => hsl z (List.mem_of_mem_drop (List.mem_of_mem_take hz)), fun h0 => ⟨g, oo, rfl, fun i j hi hj => ?_⟩, fun i z j u hz hu => ?_⟩
            · rw [hll] at hi h0
              rw [ho (by omega), show off * sz2 + i * sz2 + j = (off + i) * sz2 + j by rw [Nat.add_mul]]
              exact cell_of_block hg (by rw [hcs]; exact mul_add_lt (n := ys.length) (by omega) hnc hj)
            · rw [List.getElem?_take] at hz
              split at hz
              · rw [List.getElem?_drop] at hz
                exact hrep _ z j u hz hu
              · cases hz
      -- the two lists of data are one
      have hd : ∀ {β γ : Type} {s1 s2 : Nat} {e1 : β → List DV} {e2 : γ → List DV} {l1 : List β} {l2 : List γ} {ok : Nat → Prop}, DV.ro s1 e1 l1 = DV.ro s2 e2 l2 → Src w ok s2 e2 l2 v → Src w ok s1 e1 l1 v := by
        intro β γ s1 s2 e1 e2 l1 l2 ok he hs
        injection he with h1 h2 h3 h4
        subst h1; subst h2
        obtain rfl := eq_of_heq h3
        obtain rfl := eq_of_heq h4
        exact hs
      rcases hf with hf | hf
      · exact (hd he key).ok_imp (okf_imp hf)
      · exact (hd he key).scal hf
    · exact hq.elim
  case lits fr' sz' es =>
    obtain ⟨hf, rfl, rfl⟩ := hq
    obtain ⟨b, cell, rfl, hm, hb, hcell, hs, hd⟩ := hr
    rw [List.length_map] at hm ⊢
    refine ⟨some ⟨b, 0, none⟩, zs.length, cell, rfl, hm, fun z hz => hs _ (List.mem_map_of_mem hz), fun h0 => ⟨b, 0, rfl, fun i j hi hj => ?_⟩, fun i z j u hz hu => ?_⟩
    · rw [Nat.zero_add]; exact hcell i j (by simpa using hi) hj
    · rcases hf with hf | hf
      · exact (hd i (enc z) j u (by simp [hz]) hu).ok_imp (okf_imp hf)
      · exact scal_rep (hf z (List.mem_of_getElem? hz) u (List.mem_of_getElem? hu)) (hd i (enc z) j u (by simp [hz]) hu)

/-- The cells as one list. -/
theorem Src.cells {ok : Nat → Prop} {α : Type} {sz : Nat} (hsz : 0 < sz) {enc : α → List DV} {zs : List α} {v : Value} (h : Src w ok sz enc zs v) :
    ∃ (A : Option Addr) (c : Nat) (news : List Value), v = .slice A zs.length c ∧ news.length = zs.length * sz ∧ (∀ u, u ∈ news → u.oneCell' = true) ∧ (A = none → zs = []) ∧ (∀ ad, A = some ad → ∀ j u, news[j]? = some u → w.cell? (ad.add j) = some u) ∧
      ∀ i z j u, zs[i]? = some z → (enc z)[j]? = some u → RepD w ok u (news.getD (i * sz + j) undef) := by
  obtain ⟨A, c, cell, rfl, hm, hs, hA, hr⟩ := h
  have hget : ∀ k x, (rowCells sz zs.length cell)[k]? = some x → k < zs.length * sz ∧ x = cell (k / sz) (k % sz) := by
    intro k x hx
    rw [rowCells_get] at hx
    split at hx
    · exact ⟨by assumption, by simpa using hx.symm⟩
    · cases hx
  have hrep : ∀ i j, i < zs.length → j < sz → ∃ u, RepD w ok u (cell i j) := fun i j hi hj => by
    have hl := hs zs[i] (List.getElem_mem hi)
    exact ⟨(enc zs[i])[j]'(by omega), hr i zs[i] j _ (List.getElem?_eq_getElem hi) (List.getElem?_eq_getElem (by omega))⟩
  refine ⟨A, c, rowCells sz zs.length cell, rfl, rowCells_len _ _ _, ?_, ?_, ?_, ?_⟩
  · intro u hu
    obtain ⟨k, hk⟩ := List.getElem?_of_mem hu
    obtain ⟨hlt, rfl⟩ := hget k u hk
    obtain ⟨h1, h2, _⟩ := div_mod_lt hsz hlt
    obtain ⟨d, hd⟩ := hrep _ _ h1 h2
    exact hd.one
  · rintro rfl
    rcases Nat.eq_zero_or_pos zs.length with h0 | h0
    · exact List.eq_nil_of_length_eq_zero h0
    · obtain ⟨b, off, e, _⟩ := hA h0; cases e
  · rintro ad rfl k x hx
    obtain ⟨hlt, rfl⟩ := hget k x hx
    obtain ⟨h1, h2, h3⟩ := div_mod_lt hsz hlt
    obtain ⟨b, off, e, hcell⟩ := hA (Nat.lt_of_le_of_lt (Nat.zero_le _) h1)
    obtain rfl := Option.some.inj e
    rw [add_at, ← hcell _ _ h1 h2, Nat.add_assoc, h3]
  · intro i z j u hz hu
    have hi := (List.getElem?_eq_some_iff.1 hz).1
    have hj : j < sz := by
      have := (List.getElem?_eq_some_iff.1 hu).1
      rwa [hs z (List.mem_of_getElem? hz)] at this
    have e : (rowCells sz zs.length cell).getD (i * sz + j) undef = cell i j := by
      rw [List.getD_eq_getElem?_getD, rowCells_get, if_pos (mul_add_lt hi (Nat.le_refl _) hj)]
      have h1 : (i * sz + j) / sz = i := by rw [Nat.add_comm, Nat.add_mul_div_right _ _ hsz, Nat.div_eq_of_lt hj, Nat.zero_add]
      have h2 : (i * sz + j) % sz = j := by rw [Nat.add_comm, Nat.add_mul_mod_self_right]; exact Nat.mod_eq_of_lt hj
      simp [h1, h2]
    rw [e]
    exact hr i z j u hz hu

/-! ### literals -/
theorem foldl_put (vs : List Value) (off : Nat) : ∀ (k : Nat) (cs : Array Value),
    ((vs.zipIdx k).foldl (fun cs (c, j) => cs.setIfInBounds (off + j) c) cs).size = cs.size ∧
    ∀ p, ((vs.zipIdx k).foldl (fun cs (c, j) => cs.setIfInBounds (off + j) c) cs).getD p undef = if off + k ≤ p ∧ p < off + k + vs.length ∧ p < cs.size then vs.getD (p - (off + k)) undef else cs.getD p undef := by
  induction vs with
  | nil =>
    intro k cs
    refine ⟨rfl, fun p => ?_⟩
    rw [if_neg (by simp; omega)]; rfl
  | cons v vs ih =>
    intro k cs
    simp only [List.zipIdx_cons, List.foldl_cons]
    obtain ⟨h1, h2⟩ := ih (k + 1) (cs.setIfInBounds (off + k) v)
    refine ⟨by rw [h1]; simp, fun p => ?_⟩
    rw [h2 p]
    simp only [Array.size_setIfInBounds, List.length_cons]
    by_cases e : p = off + k
    · subst e
      rw [if_neg (by omega)]
      by_cases hp : off + k < cs.size
      · rw [if_pos ⟨by omega, by omega, hp⟩, getD_setIfInBounds _ _ _ _ _ hp, if_pos rfl]; simp
      · rw [if_neg (by omega)]
        have : cs.setIfInBounds (off + k) v = cs := by simp [Array.setIfInBounds, hp]
        rw [this]
    · have e2 : (cs.setIfInBounds (off + k) v).getD p undef = cs.getD p undef := by
        rw [Array.getD_eq_getD_getElem?, Array.getD_eq_getD_getElem?, Array.getElem?_setIfInBounds_ne (by omega)]
      rw [e2]
      by_cases hc : off + (k + 1) ≤ p ∧ p < off + (k + 1) + vs.length ∧ p < cs.size
      · rw [if_pos hc, if_pos ⟨by omega, by omega, hc.2.2⟩]
        rw [show p - (off + k) = (p - (off + (k + 1))) + 1 by omega]
        simp
      · rw [if_neg hc, if_neg (by omega)]

theorem fill_all {sz : Nat} (hsz : 0 < sz) : ∀ (vs : List Value) (i : Nat) (cs : Array Value), (∀ v, v ∈ vs → v.cells.size = sz) → (i + vs.length) * sz = cs.size →
    ∃ cs', Instr.fill (fun i => some (i * sz, sz)) cs ((vs.zipIdx i).map fun p => (p.2, p.1)) = some cs' ∧ cs'.size = cs.size ∧
      (∀ k j v, vs[k]? = some v → j < sz → cs'.getD ((i + k) * sz + j) undef = v.cells.getD j undef) ∧ ∀ p, p < i * sz → cs'.getD p undef = cs.getD p undef
  | [], i, cs, _, _ => ⟨cs, rfl, rfl, fun k j v h => by simp at h, fun p hp => rfl⟩
  | v :: vs, i, cs, hv, hl => by
    have hv0 : v.cells.size = sz := hv v (by simp)
    have hle : (i + 1) * sz ≤ cs.size := by rw [← hl, List.length_cons]; exact Nat.mul_le_mul_right _ (by omega)
    rw [Nat.add_mul, Nat.one_mul] at hle
    obtain ⟨hs1, hg1⟩ := foldl_put v.cells.toList (i * sz) 0 cs
    obtain ⟨cs', h1, h2, h3, h4⟩ := fill_all hsz vs (i + 1) ((v.cells.toList.zipIdx).foldl (fun cs (c, j) => cs.setIfInBounds (i * sz + j) c) cs) (fun u hu => hv u (by simp [hu])) (by rw [hs1, ← hl, List.length_cons]; congr 1; omega)
    refine ⟨cs', ?_, h2.trans hs1, ?_, ?_⟩
    · simp only [List.zipIdx_cons, List.map_cons, Instr.fill]
      rw [if_neg (by simp [hv0]; try omega)]
      have e : (v.cells.zipIdx.foldl (fun cs (c, j) => cs.setIfInBounds (i * sz + j) c) cs) = ((v.cells.toList.zipIdx).foldl (fun cs (c, j) => cs.setIfInBounds (i * sz + j) c) cs) := by
        rw [← Array.foldl_toList, Array.toList_zipIdx]
      rw [e]
      exact h1
    · intro k j u hk hj
      cases k with
      | zero =>
        simp at hk; subst hk
        rw [Nat.add_zero, h4 _ (by rw [Nat.add_mul]; omega), hg1, if_pos ⟨by omega, by simp; omega, by omega⟩, toList_getD]
        congr 1; omega
      | succ k =>
        have := h3 k j u (by simpa using hk) hj
        rw [← this, show i + (k + 1) = i + 1 + k by omega]
    · intro p hp
      rw [h4 p (by rw [Nat.add_mul]; omega), hg1, if_neg (by omega)]

theorem downL_len : ∀ {vs : List AV} {fr : Bool} {ds : List DV}, downL vs = some (fr, ds) → ds.length = vs.length
  | [], fr, ds, h => by simp [downL] at h; rw [h.2]; rfl
  | v :: vs, fr, ds, h => by
    simp only [downL] at h
    split at h
    · rename_i f d g es h1 h2
      simp only [Option.some.injEq, Prod.mk.injEq] at h
      rw [← h.2]; simp [downL_len h2]
    · cases h

theorem downL_rep {c : Ctx} (hfr : ∀ b, c.okf true b → c.okf false b) {g : Bool} : ∀ {vs : List AV} {fr : Bool} {ds : List DV} {x : Array Value} {k : Nat}, downL vs = some (fr, ds) → (g = true → fr = true) →
    (∀ (j : Nat) (u : AV), vs[j]? = some u → RepC1 c u (x.getD (k + j) undef)) → ∀ (j : Nat) (d : DV), ds[j]? = some d → RepD c.w (c.okf g) d (x.getD (k + j) undef)
  | [], fr, ds, x, k, h, _, _ => fun j d hj => by simp [downL] at h; rw [h.2] at hj; simp at hj
  | v :: vs, fr, ds, x, k, h, hg, hr => fun j d hj => by
    simp only [downL] at h
    split at h
    · rename_i f d0 g0 es h1 h2
      simp only [Option.some.injEq, Prod.mk.injEq] at h
      obtain ⟨rfl, rfl⟩ := h
      cases j with
      | zero =>
        simp at hj; subst hj
        exact down_rep h1 (hr 0 v rfl).1 g (fun e => by have := hg e; simp at this; exact this.1) hfr
      | succ j =>
        have := downL_rep hfr (k := k + 1) h2 (fun e => by have := hg e; simp at this; exact this.2) (fun j u hu => by
          have := hr (j + 1) u (by simpa using hu)
          rwa [show k + 1 + j = k + (j + 1) by omega]) j d (by simpa using hj)
        rwa [show k + (j + 1) = k + 1 + j by omega]
    · cases h

theorem downLL_spec : ∀ {vs : List (List AV)} {fr : Bool} {es : List (List DV)}, downLL vs = some (fr, es) → es.length = vs.length ∧ ∀ (i : Nat) (e : List DV), es[i]? = some e → ∃ v f, vs[i]? = some v ∧ downL v = some (f, e) ∧ (fr = true → f = true)
  | [], fr, es, h => by simp [downLL] at h; obtain ⟨rfl, rfl⟩ := h; exact ⟨rfl, fun i e hi => by simp at hi⟩
  | v :: vs, fr, es, h => by
    simp only [downLL] at h
    split at h
    · rename_i f d g es' h1 h2
      simp only [Option.some.injEq, Prod.mk.injEq] at h
      obtain ⟨rfl, rfl⟩ := h
      obtain ⟨hl, hs⟩ := downLL_spec h2
      refine ⟨by simp [hl], fun i e hi => ?_⟩
      cases i with
      | zero => simp at hi; subst hi; exact ⟨v, f, rfl, h1, fun e => by simp at e; exact e.1⟩
      | succ i =>
        obtain ⟨v', f', h3, h4, h5⟩ := hs i e (by simpa using hi)
        exact ⟨v', f', by simpa using h3, h4, fun e => by simp at e; exact h5 e.2⟩
    · cases h

theorem chkParts_spec (h : RepS B st a w ρ) : ∀ {ps : List (Nat × Operand)} {xs : List X} {i : Nat}, chkParts i ps xs = true →
    ps.length = xs.length ∧ (ps.map fun p => (p.1, a.eval p.2)) = ((ps.map fun p => a.eval p.2).zipIdx i).map (fun p => (p.2, p.1)) ∧ ∀ (k : Nat) (x : X), xs[k]? = some x → ∃ v, (ps.map fun p => a.eval p.2)[k]? = some v ∧ RepV (ctxOf B st.hp w ρ) (evX st x) v
  | [], [], i, _ => ⟨rfl, rfl, fun k x hk => by simp at hk⟩
  | (j, o) :: ps, x :: xs, i, hc => by
    simp only [chkParts, Bool.and_eq_true, beq_iff_eq] at hc
    obtain ⟨⟨rfl, hx⟩, hc⟩ := hc
    obtain ⟨h1, h2, h3⟩ := chkParts_spec h hc
    refine ⟨by simp [h1], by simp [h2], fun k y hk => ?_⟩
    cases k with
    | zero => simp at hk; subst hk; exact ⟨_, rfl, chkX_ok h hx⟩
    | succ k => simpa using h3 k y (by simpa using hk)
  | [], _ :: _, i, hc => by simp [chkParts] at hc
  | _ :: _, [], i, hc => by simp [chkParts] at hc

theorem solid_of_down {v : AV} {fr : Bool} {d : DV} (h : down v = some (fr, d)) : solid v = true := by cases v <;> first | rfl | simp [down] at h

theorem wm_bs (h : RepS B st a w ρ) (T : TypeId) (sz : Nat) (parts : List X) (hN : ∀ t, o.dst = some t → t < B.N)
    (hc : chkWM P B.N o (.bs T sz parts) = true) (hk : (wres st o.dst (.bs T sz parts)).holds o.dst K) : WYield P B a w o K := by
  obtain ⟨dst, op', type, pos, after, guard⟩ := o
  simp only [chkWM] at hc
  cases op' <;> simp only [Bool.false_eq_true] at hc
  rename_i t n ps
  simp only [Bool.and_eq_true, bne_iff_ne, ne_eq, beq_iff_eq] at hc
  obtain ⟨⟨⟨⟨hps, hn⟩, ht⟩, hz⟩, hsz0⟩ := hc
  have hu : P.underlying t = some (.slice T) := by
    split at ht
    · rename_i e he; rw [he]; simp only [beq_iff_eq] at ht; rw [ht]
    · cases ht
  obtain ⟨i, zv, hi, hisz, hiz, hzl, hbig⟩ : ∃ i zv, P.info? T = some i ∧ i.size = sz ∧ i.zero = some zv ∧ zv.cells.size = sz ∧ n * sz ≤ 16777216 := by
    split at hz
    · rename_i i hi
      rw [Bool.and_eq_true, Bool.and_eq_true, beq_iff_eq, decide_eq_true_eq] at hz
      obtain ⟨⟨h1, h2⟩, h3⟩ := hz
      split at h3
      · rename_i z hz'; exact ⟨i, z, hi, h1, hz', by simpa using h3, h2⟩
      · cases h3
    · cases hz
  cases dst with
  | none => exact False.elim hk
  | some d =>
    simp only [wres, bsR] at hk
    split at hk
    · rename_i fr es hdl
      obtain ⟨hes, hK⟩ := hk trivial
      obtain ⟨hl1, hl2, hl3⟩ := chkParts_spec h hps
      obtain ⟨hel, hesp⟩ := downLL_spec hdl
      have hel' : es.length = n := by rw [hel, hn]; simp
      have hsz : 0 < sz := by omega
      -- each part's value has its cells
      have hval : ∀ (k : Nat) (v : Value), (ps.toList.map fun p => a.eval p.2)[k]? = some v → ∃ x f e, parts[k]? = some x ∧ es[k]? = some e ∧ downL (cellsOf (evX st x)) = some (f, e) ∧ (fr = true → f = true) ∧ v.cells.size = sz ∧ ∀ j u, (cellsOf (evX st x))[j]? = some u → RepC1 (ctxOf B st.hp w ρ) u (v.cells.getD j undef) := by
        intro k v hv
        have hk1 : k < parts.length := by have := (List.getElem?_eq_some_iff.1 hv).1; simp at this hl1; omega
        obtain ⟨v', hv', hrv⟩ := hl3 k parts[k] (List.getElem?_eq_getElem hk1)
        rw [hv] at hv'
        obtain rfl := Option.some.inj hv'
        have hk2 : k < es.length := by omega
        obtain ⟨cs, f, hcs, hd, hf⟩ := hesp k es[k] (List.getElem?_eq_getElem hk2)
        have hcs' : cs = cellsOf (evX st parts[k]) := by simp [hk1] at hcs; exact hcs.symm
        subst hcs'
        have hel2 := hes es[k] (List.getElem_mem hk2)
        have hlen := downL_len hd
        have hsol : solid (evX st parts[k]) = true := by
          cases hx : evX st parts[k] <;> first | rfl | (rw [hx] at hd; simp [cellsOf, downL, down] at hd)
        obtain ⟨hcn, hcr⟩ := cells_rep hrv hsol
        exact ⟨parts[k], f, es[k], List.getElem?_eq_getElem hk1, List.getElem?_eq_getElem hk2, hd, hf, by omega, hcr⟩
      have hall : ∀ v, v ∈ (ps.toList.map fun p => a.eval p.2) → v.cells.size = sz := fun v hv => by
        obtain ⟨k, hk⟩ := List.getElem?_of_mem hv
        obtain ⟨_, _, _, _, _, _, _, h1, _⟩ := hval k v hk
        exact h1
      have hpl : ps.toList.length = n := by rw [hl1, hn]
      obtain ⟨cs', hf1, hf2, hf3, _⟩ := fill_all hsz (ps.toList.map fun p => a.eval p.2) 0 (madeCells zv.cells (n * sz)) hall (by rw [size_madeCells, List.length_map, hpl, Nat.zero_add])
      have hrun : (execOp a.eval ⟨some d, .buildSlice t n ps, type, pos, after, guard⟩).run P w = .ok (.value (.slice (some ⟨w.heap.size, 0, none⟩) n n)) (w.alloc (.cells cs' T)) := by
        have e1 : (ps.map fun p => (p.1, a.eval p.2)).toList = ((ps.toList.map fun p => a.eval p.2).zipIdx 0).map (fun p => (p.2, p.1)) := by rw [Array.toList_map]; exact hl2
        have hfl : Instr.fill (fun i => some (i * sz, sz)) (madeCells zv.cells (n * sz)) (ps.map fun p => (p.1, a.eval p.2)).toList = some cs' := by rw [e1]; exact hf1
        by_cases hz0 : n * sz = 0
        · have hm : (madeCells zv.cells (n * sz)) = #[] := by rw [hz0]; exact Array.eq_empty_of_size_eq_zero (size_madeCells _ _)
          rw [hm] at hfl
          simp only [Array.toList_map] at hfl
          simp [execOp, Instr.buildSlice, run_underlying hu, sizeOf_run hi, hisz, hz0, Array.range_zero', hfl, newRow, newObj, Result.andThen, Sem.run]
        · have hbig' : ¬ 16777216 < n * sz := by omega
          simp only [madeCells, Array.toList_map] at hfl
          simp [execOp, Instr.buildSlice, run_underlying hu, sizeOf_run hi, hisz, hz0, hbig', zeroValue, typeInfo, hi, hiz, hfl, newRow, newObj, Result.andThen, pure, Sem.run]
      have hal := h.alloc (.cells cs' T)
      refine ⟨_, .slice (some ⟨w.heap.size, 0, none⟩) n n, _, _, ρ, hrun, .inl rfl, ?_, hK⟩
      refine hal.set (d := d) (hN d rfl) (v := .lits fr sz es) ?_
      have hle : (ctxOf B st.hp w ρ).Le (ctxOf B st.hp (w.alloc (.cells cs' T)) ρ) := Ctx.Le.of_keep (by rw [heap_alloc_size]; omega) (fun b hb hn => ⟨by rw [heap_alloc_get, if_neg (by omega)], hn⟩) (fun id _ => ⟨rfl, rfl⟩)
      refine ⟨w.heap.size, fun i j => cs'.getD (i * sz + j) undef, by rw [hel'], ?_, ⟨by show _ < (w.alloc _).heap.size; rw [heap_alloc_size]; omega, ?_, fun _ => .inr h.ext.size⟩, ?_, hes, ?_⟩
      · have : n ≤ n * sz := Nat.le_mul_of_pos_right n hsz
        omega
      · rintro ⟨id, h1, cap, h2⟩
        have := h.lt id _ _ h1 h2; omega
      · intro i j hi' hj
        have : i * sz + j < cs'.size := by rw [hf2, size_madeCells]; exact mul_add_lt (n := n) (by omega) (Nat.le_refl _) hj
        exact cell_of_block (fz := (0, 0)) (T := T) (by show (w.alloc _).heap[_]? = _; rw [heap_alloc_get, if_pos rfl]) this
      · intro i e j u hi' hj
        have hk2 := (List.getElem?_eq_some_iff.1 hi').1
        obtain ⟨v, hv⟩ : ∃ v, (ps.toList.map fun p => a.eval p.2)[i]? = some v := ⟨_, List.getElem?_eq_getElem (by rw [List.length_map]; omega)⟩
        obtain ⟨x, f, e', hx, he', hd, hf, hcs, hcr⟩ := hval i v hv
        rw [hi'] at he'
        obtain rfl := Option.some.inj he'
        have hjs : j < sz := by
          have := (List.getElem?_eq_some_iff.1 hj).1
          rwa [hes e (List.mem_of_getElem? hi')] at this
        have := hf3 i j v hv hjs
        rw [Nat.zero_add] at this
        show RepD _ _ u (cs'.getD (i * sz + j) undef)
        rw [this]
        have hd' := downL_rep (c := ctxOf B st.hp w ρ) (okf_weak B st.hp w ρ) (g := fr) (k := 0) (x := v.cells) hd hf (fun j u hu => by rw [Nat.zero_add]; exact hcr j u hu) j u hj
        rw [Nat.zero_add] at hd'
        exact Le_okf hle fr hd'
    · exact False.elim hk

end
end Go.Vc
