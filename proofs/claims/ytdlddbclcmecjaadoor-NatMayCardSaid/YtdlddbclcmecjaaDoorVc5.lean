/-
  Vc5: operations that write or make memory.
-/
import Derived.Test.YtdlddbclcmecjaaDoorVc4
set_option linter.unusedVariables false
set_option linter.unusedSimpArgs false
namespace Go.Vc
open Go

section
variable {P : Program} {B : Base} {st : St} {a : Act} {w : World} {ρ : Nat → Option (Nat × Nat)} {o : Oper} {K : AV → Prop}

theorem Ctx.Le.of_keep {B : Base} {hp hp' : Heap} {w w' : World} {ρ ρ' : Nat → Option (Nat × Nat)}
    (hs : w.heap.size ≤ w'.heap.size) (keep : ∀ b, b < w.heap.size → ¬ owned hp ρ b → w'.heap[b]? = w.heap[b]? ∧ ¬ owned hp' ρ' b)
    (rows : ∀ id, shOf hp id ≠ none → shOf hp' id = shOf hp id ∧ ρ' id = ρ id) : (ctxOf B hp w ρ).Le (ctxOf B hp' w' ρ') where
  ro := fun fr b hb => ⟨(keep b hb.1 hb.2.1).1, Nat.lt_of_lt_of_le hb.1 hs, (keep b hb.1 hb.2.1).2, hb.2.2⟩
  row := rows

/-- From one moment to a later one, nothing that a slot says being lost. -/
theorem RepS.trans {env : Env} {hp hp' : Heap} {w' : World} {ρ' : Nat → Option (Nat × Nat)} (h : RepS B ⟨env, hp⟩ a w ρ)
    (hs : w.heap.size ≤ w'.heap.size) (hos : w'.os = w.os) (htape : w'.tape = w.tape) (hout : w'.output = w.output) (hfz : ∀ ad, w'.frozen? ad = w.frozen? ad)
    (keep : ∀ b, b < w.heap.size → ¬ owned hp ρ b → w'.heap[b]? = w.heap[b]? ∧ ¬ owned hp' ρ' b)
    (rows : ∀ id, shOf hp id ≠ none → shOf hp' id = shOf hp id ∧ ρ' id = ρ id)
    (inj : ∀ i j g c d, hget hp' i ≠ none → hget hp' j ≠ none → ρ' i = some (g, c) → ρ' j = some (g, d) → i = j)
    (lt : ∀ i g c, hget hp' i ≠ none → ρ' i = some (g, c) → g < w'.heap.size)
    (wr : ∀ i g c, hget hp' i ≠ none → ρ' i = some (g, c) → B.w0.heap.size ≤ g ∨ (B.bor g ∧ 1000 ≤ i))
    (hob : ∀ i ob, hget hp' i = some ob → RepOB (ctxOf B hp' w' ρ') i ob)
    (hfix : ∀ i v ob, B.fix i = some v → hget hp' i = some ob → ob.fixed = true → ρ' i = v.1 ∧ ob.shape = v.2) : RepS B ⟨env, hp'⟩ a w' ρ' where
  defers := h.defers
  size := h.size
  ext := ⟨hos.trans h.ext.os, htape.trans h.ext.tape, hout.trans h.ext.output, Nat.le_trans h.ext.size hs, fun k hk hb => by
    have hno : ¬ owned hp ρ k := by
      rintro ⟨id, h1, c, h2⟩
      rcases h.wr id k c h1 h2 with h3 | h3
      · omega
      · exact hb h3.1
    exact ((keep k (Nat.lt_of_lt_of_le hk h.ext.size) hno).1).trans (h.ext.block k hk hb), fun ad => (hfz ad).trans (h.ext.froz ad)⟩
  inj := inj
  lt := lt
  wr := wr
  hp := hob
  env := fun n => (h.env n).mono (Ctx.Le.of_keep hs keep rows)
  fixN := h.fixN
  fix := hfix

theorem RepOB.mono {c c' : Ctx} (hl : c.Le c') {id : Nat} {ob : OB} (hρ : c'.ρ id = c.ρ id) (hb : ∀ g cap, c.ρ id = some (g, cap) → c'.w.heap[g]? = c.w.heap[g]?) (h : RepOB c id ob) : RepOB c' id ob := by
  cases ob with
  | arr T mov fr sz enc xs =>
    obtain ⟨h0, hs, hm, h1 | ⟨g, cap, cur, h1, h2, h3, h4, h5, h6⟩⟩ := h
    · exact ⟨h0, hs, hm, .inl ⟨hρ.trans h1.1, h1.2⟩⟩
    · exact ⟨h0, hs, hm, .inr ⟨g, cap, cur, hρ.trans h1, (hb g cap h1).trans h2, h3, h4, h5, fun i x j u hx hu => (h6 i x j u hx hu).mono (hl.ro fr)⟩⟩
  | blk T cs =>
    obtain ⟨g, cap, cur, h1, h2, h3, h4⟩ := h
    exact ⟨g, cap, cur, hρ.trans h1, (hb g cap h1).trans h2, h3, fun i u hu => ⟨(h4 i u hu).1.mono hl, (h4 i u hu).2⟩⟩

/-! ### A new block -/
theorem heap_alloc_get (w : World) (o : Obj) (b : Nat) : (w.alloc o).heap[b]? = if b = w.heap.size then some o else w.heap[b]? := by
  show (w.heap.push o)[b]? = _
  rw [Array.getElem?_push]
theorem heap_alloc_size (w : World) (o : Obj) : (w.alloc o).heap.size = w.heap.size + 1 := by show (w.heap.push o).size = _; simp

/-- A new block that nobody will write to again. -/
theorem froz_alloc (w : World) (c : Array Value) (t : TypeId) (ad : Addr) : (w.alloc (.cells c t)).frozen? ad = w.frozen? ad := by
  unfold World.frozen?
  rw [heap_alloc_get]
  by_cases h : ad.block = w.heap.size
  · rw [if_pos h, h]; simp
  · rw [if_neg h]
theorem froz_setRow (w : World) (g : Nat) (row : Array Value) (ad : Addr) : (w.setRow g row).frozen? ad = w.frozen? ad := by
  unfold World.frozen? World.setRow
  simp only [Array.getElem?_modify]
  by_cases h : g = ad.block
  · subst h
    rw [if_pos rfl]
    cases w.heap[ad.block]? with
    | none => rfl
    | some o => cases o <;> rfl
  · rw [if_neg h]

theorem RepS.alloc (h : RepS B st a w ρ) (o : Obj) (hfo : ∀ ad, (w.alloc o).frozen? ad = w.frozen? ad := by exact froz_alloc _ _ _) : RepS B st a (w.alloc o) ρ := by
  obtain ⟨env, hp⟩ := st
  have keep : ∀ b, b < w.heap.size → ¬ owned hp ρ b → (w.alloc o).heap[b]? = w.heap[b]? ∧ ¬ owned hp ρ b := fun b hb hn =>
    ⟨by rw [heap_alloc_get, if_neg (by omega)], hn⟩
  exact h.trans (by rw [heap_alloc_size]; omega) rfl rfl rfl hfo keep (fun id _ => ⟨rfl, rfl⟩) h.inj (fun i g c h1 h2 => by have := h.lt i g c h1 h2; rw [heap_alloc_size]; omega) h.wr
    (fun i ob hi => (h.hp i ob hi).mono (Ctx.Le.of_keep (by rw [heap_alloc_size]; omega) keep (fun id _ => ⟨rfl, rfl⟩)) rfl (fun g cap hg => by
      have := h.lt i g cap (by rw [hi]; simp) hg
      show (w.alloc o).heap[g]? = _
      rw [heap_alloc_get, if_neg (by omega)]; rfl)) h.fix

def upd (ρ : Nat → Option (Nat × Nat)) (id : Nat) (v : Option (Nat × Nat)) : Nat → Option (Nat × Nat) := fun n => if n = id then v else ρ n

/-- A new block that is the call's own, under a name that is free. -/
theorem RepS.own (h : RepS B st a w ρ) {id : Nat} (hN : id < B.N) (hid : hget st.hp id = none) (o : Obj) (cap : Nat) (ob : OB)
    (hob : ∀ c : Ctx, c.w = w.alloc o → c.ρ id = some (w.heap.size, cap) → (ctxOf B st.hp w ρ).Le c → RepOB c id ob) (hfo : ∀ ad, (w.alloc o).frozen? ad = w.frozen? ad := by exact froz_alloc _ _ _) :
    RepS B ⟨st.env, hset st.hp id ob⟩ a (w.alloc o) (upd ρ id (some (w.heap.size, cap))) := by
  obtain ⟨env, hp⟩ := st
  have hne : ∀ i, hget (hset hp id ob) i ≠ none → i = id ∨ hget hp i ≠ none := fun i hi => by
    rw [hget_hset] at hi
    by_cases e : id = i
    · exact .inl e.symm
    · rw [if_neg e] at hi; exact .inr hi
  have hρ : ∀ i, hget hp i ≠ none → upd ρ id (some (w.heap.size, cap)) i = ρ i := fun i hi => by
    unfold upd; rw [if_neg]; rintro rfl; exact hi hid
  have keep : ∀ b, b < w.heap.size → ¬ owned hp ρ b → (w.alloc o).heap[b]? = w.heap[b]? ∧ ¬ owned (hset hp id ob) (upd ρ id (some (w.heap.size, cap))) b := fun b hb hn => by
    refine ⟨by rw [heap_alloc_get, if_neg (by omega)], ?_⟩
    rintro ⟨i, h1, c, h2⟩
    rcases hne i h1 with rfl | h3
    · simp [upd] at h2; omega
    · rw [hρ i h3] at h2; exact hn ⟨i, h3, c, h2⟩
  have rows : ∀ i, shOf hp i ≠ none → shOf (hset hp id ob) i = shOf hp i ∧ upd ρ id (some (w.heap.size, cap)) i = ρ i := fun i hi => by
    have hi' : hget hp i ≠ none := by intro e; apply hi; simp [shOf, e]
    refine ⟨?_, hρ i hi'⟩
    unfold shOf; rw [hget_hset, if_neg]; rintro rfl; exact hi' hid
  have hle := Ctx.Le.of_keep (B := B) (w' := w.alloc o) (by rw [heap_alloc_size]; omega) keep rows
  refine h.trans (by rw [heap_alloc_size]; omega) rfl rfl rfl hfo keep rows ?_ ?_ ?_ ?_ ?_
  · intro i j g c d hi hj h1 h2
    rcases hne i hi with rfl | hi' <;> rcases hne j hj with rfl | hj'
    · rfl
    · rw [hρ j hj'] at h2; simp [upd] at h1; have := h.lt j g d hj' h2; omega
    · rw [hρ i hi'] at h1; simp [upd] at h2; have := h.lt i g c hi' h1; omega
    · rw [hρ i hi'] at h1; rw [hρ j hj'] at h2; exact h.inj i j g c d hi' hj' h1 h2
  · intro i g c hi h1
    rcases hne i hi with rfl | hi'
    · simp [upd] at h1; rw [heap_alloc_size]; omega
    · rw [hρ i hi'] at h1; have := h.lt i g c hi' h1; rw [heap_alloc_size]; omega
  · intro i g c hi h1
    rcases hne i hi with rfl | hi'
    · simp [upd] at h1; have := h.ext.size; left; omega
    · rw [hρ i hi'] at h1; exact h.wr i g c hi' h1
  · intro i ob' hi
    by_cases e : id = i
    · subst e
      rw [hget_hset, if_pos rfl] at hi
      obtain rfl := Option.some.inj hi
      exact hob _ rfl (by simp [ctxOf, upd]) hle
    · rw [hget_hset, if_neg e] at hi
      have hi' : hget hp i ≠ none := by rw [hi]; simp
      exact (h.hp i ob' hi).mono hle (hρ i hi') (fun g cap' hg => by
        have := h.lt i g cap' hi' hg
        show (w.alloc o).heap[g]? = _
        rw [heap_alloc_get, if_neg (by omega)]; rfl)
  · intro i v ob' hv hi hf
    have hge := h.fixN i v hv
    have e : id ≠ i := by omega
    rw [hget_hset, if_neg e] at hi
    rw [hρ i (by rw [hi]; simp)]
    exact h.fix i v ob' hv hi hf

/-! ### A store into an own block -/
theorem heap_setCell_get (w : World) (g off : Nat) (v : Value) (b : Nat) {cur : Array Value} {T : TypeId} {fz : Nat × Nat} (h : w.heap[g]? = some (.cells cur T fz)) :
    (w.setCell ⟨g, off, none⟩ v).heap[b]? = if b = g then some (.cells (cur.setIfInBounds off v) T fz) else w.heap[b]? := by
  simp only [World.setCell, Array.getElem?_modify]
  by_cases e : g = b
  · subst e; simp [h]
  · rw [if_neg e, if_neg (by omega)]

/-- The contents of an own block have turned, its place and shape have not. -/
theorem RepS.turn (h : RepS B st a w ρ) {w' : World} {id g cap : Nat} {ob ob' : OB} (hid : hget st.hp id = some ob) (hsh : ob'.shape = ob.shape) (hfx : ob'.fixed = ob.fixed) (hρ : ρ id = some (g, cap))
    (hsize : w'.heap.size = w.heap.size) (hos : w'.os = w.os) (htape : w'.tape = w.tape) (hout : w'.output = w.output) (hk : ∀ b, b ≠ g → w'.heap[b]? = w.heap[b]?)
    (hob : ∀ c : Ctx, c.w = w' → c.ρ id = some (g, cap) → (ctxOf B st.hp w ρ).Le c → RepOB c id ob') (hfz : ∀ ad, w'.frozen? ad = w.frozen? ad := by exact froz_setRow _ _ _) :
    RepS B ⟨st.env, hset st.hp id ob'⟩ a w' ρ := by
  obtain ⟨env, hp⟩ := st
  have hne : ∀ i, hget (hset hp id ob') i ≠ none → hget hp i ≠ none := fun i hi => by
    rw [hget_hset] at hi
    by_cases e : id = i
    · subst e; rw [hid]; simp
    · rwa [if_neg e] at hi
  have hidn : hget hp id ≠ none := by rw [hid]; simp
  have keep : ∀ b, b < w.heap.size → ¬ owned hp ρ b → w'.heap[b]? = w.heap[b]? ∧ ¬ owned (hset hp id ob') ρ b := fun b hb hn => by
    refine ⟨hk b ?_, ?_⟩
    · rintro rfl; exact hn ⟨id, hidn, cap, hρ⟩
    · rintro ⟨i, h1, c, h2⟩; exact hn ⟨i, hne i h1, c, h2⟩
  have rows : ∀ i, shOf hp i ≠ none → shOf (hset hp id ob') i = shOf hp i ∧ ρ i = ρ i := fun i hi => by
    refine ⟨?_, rfl⟩
    unfold shOf; rw [hget_hset]
    by_cases e : id = i
    · subst e
      have hid' : hget hp id = some ob := hid
      rw [if_pos rfl, hid']; simp [hsh]
    · rw [if_neg e]
  have hle := Ctx.Le.of_keep (B := B) (w' := w') (by omega) keep rows
  refine h.trans (by omega) hos htape hout hfz keep rows ?_ ?_ ?_ ?_ ?_
  · exact fun i j g c d hi hj => h.inj i j g c d (hne i hi) (hne j hj)
  · exact fun i g c hi h1 => by have := h.lt i g c (hne i hi) h1; omega
  · exact fun i g c hi => h.wr i g c (hne i hi)
  · intro i ob2 hi
    by_cases e : id = i
    · subst e
      rw [hget_hset, if_pos rfl] at hi
      obtain rfl := Option.some.inj hi
      exact hob _ rfl hρ hle
    · rw [hget_hset, if_neg e] at hi
      have hi' : hget hp i ≠ none := by rw [hi]; simp
      exact (h.hp i ob2 hi).mono hle rfl (fun g' cap' hg => hk g' (by rintro rfl; exact e (h.inj id i g' _ _ hidn hi' hρ hg)))
  · intro i v ob2 hv hi hf
    by_cases e : id = i
    · subst e
      rw [hget_hset, if_pos rfl] at hi
      obtain rfl := Option.some.inj hi
      rw [hsh]
      exact h.fix id v ob hv hid (by rw [← hfx]; exact hf)
    · rw [hget_hset, if_neg e] at hi
      exact h.fix i v ob2 hv hi hf

end
end Go.Vc
