/-
  Vc9: append and copy.
-/
import Derived.Test.YtdlddbclcmecjaaDoorVc8
set_option linter.unusedVariables false
set_option linter.unusedSimpArgs false
namespace Go.Vc
open Go

section
variable {P : Program} {B : Base} {st : St} {a : Act} {w : World} {ρ : Nat → Option (Nat × Nat)} {o : Oper} {K : St → Prop}

structure Ctx.LeBut (id : Nat) (c c' : Ctx) : Prop where
  ro : ∀ fr b, c.okf fr b → c'.w.heap[b]? = c.w.heap[b]? ∧ c'.okf fr b
  row : ∀ i, i ≠ id → c.sh i ≠ none → c'.sh i = c.sh i ∧ c'.ρ i = c.ρ i

theorem RepC.killed {id : Nat} {c c' : Ctx} (hl : c.LeBut id c') {v : AV} {x : Value} (h : RepC c v x) : RepC c' (killC id v) x := by
  cases v with
  | any => trivial
  | int k n => exact h
  | bool b => exact h
  | str s => exact h
  | nilS => exact h
  | ro fr sz enc xs => exact RepD.mono (hl.ro fr) h
  | own i off len app =>
    simp only [killC]
    by_cases e : i = id
    · rw [if_pos e]; trivial
    · rw [if_neg e]
      obtain ⟨sz, n, h1, h2⟩ := h
      obtain ⟨e1, e2⟩ := hl.row i e (by rw [h1]; simp)
      exact ⟨sz, n, e1.trans h1, by rw [e2]; exact h2⟩
  | rptr fr cs =>
    obtain ⟨b, off, e, hb, hc⟩ := h
    refine ⟨b, off, e, (hl.ro fr b hb).2, fun j u hj => ?_⟩
    obtain ⟨x, hx, hr⟩ := hc j u hj
    exact ⟨x, (World.cell?_of_block (hl.ro fr b hb).1).trans hx, hr.mono (hl.ro fr)⟩
  | optr i j off =>
    simp only [killC]
    by_cases e : i = id
    · rw [if_pos e]; trivial
    · rw [if_neg e]
      obtain ⟨sz, n, g, cap, h1, h2, h3⟩ := h
      obtain ⟨e1, e2⟩ := hl.row i e (by rw [h1]; simp)
      exact ⟨sz, n, g, cap, e1.trans h1, e2.trans h2, h3⟩
  | bptr i off =>
    simp only [killC]
    by_cases e : i = id
    · rw [if_pos e]; trivial
    · rw [if_neg e]
      obtain ⟨n, g, cap, h1, h2, h3⟩ := h
      obtain ⟨e1, e2⟩ := hl.row i e (by rw [h1]; simp)
      exact ⟨n, g, cap, e1.trans h1, e2.trans h2, h3⟩
  | lits fr sz es =>
    obtain ⟨b, cell, e, hm, hb, hc, hs, hr⟩ := h
    exact ⟨b, cell, e, hm, (hl.ro fr b hb).2, fun i j hi hj => (World.cell?_of_block (hl.ro fr b hb).1).trans (hc i j hi hj), hs, fun i e j u h1 h2 => (hr i e j u h1 h2).mono (hl.ro fr)⟩
  | fn f => exact h
  | agg cs => exact h
  | tup as => exact h

theorem killC_flat {id : Nat} {v : AV} (h : v.flat = true) : (killC id v).flat = true := by
  cases v <;> (try simp only [killC]) <;> (try exact h) <;> split <;> first | rfl | exact h

theorem RepV.killed {id : Nat} {c c' : Ctx} (hl : c.LeBut id c') {v : AV} {x : Value} (h : RepV c v x) : RepV c' (killV id v) x := by
  have hag : ∀ {cs : List AV} {x : Value}, RepA c (.agg cs) x → RepA c' (.agg (cs.map (killC id))) x := by
    intro cs x h
    obtain ⟨vs, e, hs, hr⟩ := h
    refine ⟨vs, e, by rw [List.length_map]; exact hs, fun i u hu => ?_⟩
    rw [List.getElem?_map] at hu
    cases hc : cs[i]? with
    | none => simp [hc] at hu
    | some u' => simp only [hc, Option.map_some, Option.some.injEq] at hu; subst hu; exact ⟨(hr i u' hc).1.killed hl, (hr i u' hc).2⟩
  by_cases hf : v.flat = true
  · have e : killV id v = killC id v := by cases v <;> first | rfl | (simp [AV.flat] at hf)
    rw [e, RepV_of_flat (killC_flat hf)]
    rw [RepV_of_flat hf] at h
    exact h.killed hl
  · cases v <;> simp [AV.flat] at hf
    case agg cs => exact hag (cs := cs) h
    case tup as =>
      obtain ⟨vs, e, hs, hr⟩ := h
      refine ⟨vs, e, by rw [List.length_map]; exact hs, fun i u hu => ?_⟩
      rw [List.getElem?_map] at hu
      cases hc : as[i]? with
      | none => simp [hc] at hu
      | some u' =>
        simp only [hc, Option.map_some, Option.some.injEq] at hu
        subst hu
        have hr' := hr i u' hc
        by_cases hf : u'.flat = true
        · rw [RepA_of_flat hf] at hr'
          have := hr'.killed hl
          cases u' <;> first | (simp [AV.flat] at hf; done) | (simp only; rw [RepA_of_flat (killC_flat hf)]; exact this)
        · cases u' <;> simp [AV.flat] at hf
          · exact hag hr'
          · exact False.elim hr'

theorem eget_killE (id : Nat) (env : Env) (n : Nat) : eget (killE id env) n = killV id (eget env n) := by
  induction env with
  | nil => rfl
  | cons p t ih =>
    obtain ⟨i, v⟩ := p
    show (if i = n then killV id v else eget (killE id t) n) = killV id (if i = n then v else eget t n)
    split
    · rfl
    · exact ih
theorem hget_killH (id : Nat) (hp : Heap) (n : Nat) : hget (killH id hp) n = (hget hp n).map (killO id) := by
  induction hp with
  | nil => rfl
  | cons p t ih =>
    obtain ⟨i, v⟩ := p
    show (if i = n then some (killO id v) else hget (killH id t) n) = (if i = n then some v else hget t n).map (killO id)
    split
    · rfl
    · exact ih
theorem killO_shape (id : Nat) (o : OB) : (killO id o).shape = o.shape := by cases o <;> simp [killO, OB.shape]

theorem RepOB.killed {id : Nat} {c c' : Ctx} (hl : c.LeBut id c') {i : Nat} {ob : OB} (hρ : c'.ρ i = c.ρ i) (hb : ∀ g cap, c.ρ i = some (g, cap) → c'.w.heap[g]? = c.w.heap[g]?) (h : RepOB c i ob) : RepOB c' i (killO id ob) := by
  cases ob with
  | arr T mov fr sz enc xs =>
    obtain ⟨h0, hs, hm, h1 | ⟨g, cap, cur, h1, h2, h3, h4, h5, h6⟩⟩ := h
    · exact ⟨h0, hs, hm, .inl ⟨hρ.trans h1.1, h1.2⟩⟩
    · exact ⟨h0, hs, hm, .inr ⟨g, cap, cur, hρ.trans h1, (hb g cap h1).trans h2, h3, h4, h5, fun i x j u hx hu => (h6 i x j u hx hu).mono (hl.ro fr)⟩⟩
  | blk T cs =>
    obtain ⟨g, cap, cur, h1, h2, h3, h4⟩ := h
    refine ⟨g, cap, cur, hρ.trans h1, (hb g cap h1).trans h2, by rw [List.length_map]; exact h3, fun i u hu => ?_⟩
    rw [List.getElem?_map] at hu
    cases hc : cs[i]? with
    | none => simp [hc] at hu
    | some u' => simp only [hc, Option.map_some, Option.some.injEq] at hu; subst hu; exact ⟨(h4 i u' hc).1.killed hl, (h4 i u' hc).2⟩

/-- A row has moved, or has grown where it stood: what led to it is forgotten. -/
theorem RepS.rekey (h : RepS B st a w ρ) {id : Nat} {ob' : OB} {w' : World} {v' : Option (Nat × Nat)} (hid : hget st.hp id ≠ none) (hfx : ob'.fixed = false)
    (hs : w.heap.size ≤ w'.heap.size) (hos : w'.os = w.os) (htape : w'.tape = w.tape) (hout : w'.output = w.output)
    (keep : ∀ b, b < w.heap.size → (∀ cap, ρ id ≠ some (b, cap)) → w'.heap[b]? = w.heap[b]?)
    (hv : ∀ g cap, v' = some (g, cap) → (∃ cap', ρ id = some (g, cap')) ∨ (w.heap.size ≤ g ∧ g < w'.heap.size))
    (hob : ∀ c : Ctx, c.w = w' → c.ρ id = v' → (ctxOf B st.hp w ρ).LeBut id c → RepOB c id ob') (hfz : ∀ ad, w'.frozen? ad = w.frozen? ad := by first | exact froz_alloc _ _ _ | exact froz_setRow _ _ _ | exact fun _ => rfl) :
    RepS B ⟨killE id st.env, hset (killH id st.hp) id ob'⟩ a w' (upd ρ id v') := by
  obtain ⟨env, hp⟩ := st
  have hne : ∀ i, hget (hset (killH id hp) id ob') i ≠ none → hget hp i ≠ none := fun i hi => by
    rw [hget_hset, hget_killH] at hi
    by_cases e : id = i
    · subst e; exact hid
    · rw [if_neg e] at hi; intro e2; rw [e2] at hi; exact hi rfl
  have hup : ∀ i, i ≠ id → upd ρ id v' i = ρ i := fun i hi => by unfold upd; rw [if_neg hi]
  have hupid : upd ρ id v' id = v' := by unfold upd; rw [if_pos rfl]
  have keep' : ∀ b, b < w.heap.size → ¬ owned hp ρ b → w'.heap[b]? = w.heap[b]? ∧ ¬ owned (hset (killH id hp) id ob') (upd ρ id v') b := fun b hb hn => by
    refine ⟨keep b hb (fun cap e => hn ⟨id, hid, cap, e⟩), ?_⟩
    rintro ⟨i, h1, c, h2⟩
    by_cases e : i = id
    · subst e
      rw [hupid] at h2
      rcases hv b c h2 with ⟨c', h3⟩ | h3
      · exact hn ⟨i, hid, c', h3⟩
      · omega
    · rw [hup i e] at h2; exact hn ⟨i, hne i h1, c, h2⟩
  have hle : (ctxOf B hp w ρ).LeBut id (ctxOf B (hset (killH id hp) id ob') w' (upd ρ id v')) := ⟨fun fr b hb => ⟨(keep' b hb.1 hb.2.1).1, Nat.lt_of_lt_of_le hb.1 hs, (keep' b hb.1 hb.2.1).2, hb.2.2⟩, fun i hi _ => by
    refine ⟨?_, hup i hi⟩
    show shOf _ i = shOf _ i
    unfold shOf
    rw [hget_hset, if_neg (Ne.symm hi), hget_killH]
    cases hget hp i with
    | none => rfl
    | some o => simp [killO_shape]⟩
  refine ⟨h.defers, h.size, ⟨hos.trans h.ext.os, htape.trans h.ext.tape, hout.trans h.ext.output, Nat.le_trans h.ext.size hs, fun k hk hb => ?_, fun ad => (hfz ad).trans (h.ext.froz ad)⟩, ?_, ?_, ?_, ?_, fun n => ?_, h.fixN, ?_⟩
  · have hno : ¬ owned hp ρ k := by
      rintro ⟨i, h1, c, h2⟩
      rcases h.wr i k c h1 h2 with h3 | h3
      · omega
      · exact hb h3.1
    exact ((keep' k (Nat.lt_of_lt_of_le hk h.ext.size) hno).1).trans (h.ext.block k hk hb)
  · intro i j g c d hi hj h1 h2
    by_cases e1 : i = id <;> by_cases e2 : j = id
    · rw [e1, e2]
    · subst e1
      rw [hupid] at h1; rw [hup j e2] at h2
      rcases hv g c h1 with ⟨c', h3⟩ | h3
      · exact h.inj i j g c' d hid (hne j hj) h3 h2
      · have := h.lt j g d (hne j hj) h2; omega
    · subst e2
      rw [hup i e1] at h1; rw [hupid] at h2
      rcases hv g d h2 with ⟨c', h3⟩ | h3
      · exact h.inj i j g c c' (hne i hi) hid h1 h3
      · have := h.lt i g c (hne i hi) h1; omega
    · rw [hup i e1] at h1; rw [hup j e2] at h2
      exact h.inj i j g c d (hne i hi) (hne j hj) h1 h2
  · intro i g c hi h1
    by_cases e : i = id
    · subst e
      rw [hupid] at h1
      rcases hv g c h1 with ⟨c', h3⟩ | h3
      · have := h.lt i g c' hid h3; omega
      · exact h3.2
    · rw [hup i e] at h1; have := h.lt i g c (hne i hi) h1; omega
  · intro i g c hi h1
    by_cases e : i = id
    · subst e
      rw [hupid] at h1
      rcases hv g c h1 with ⟨c', h3⟩ | h3
      · exact h.wr i g c' hid h3
      · have := h.ext.size; left; omega
    · rw [hup i e] at h1; exact h.wr i g c (hne i hi) h1
  · intro i ob hi
    by_cases e : i = id
    · subst e
      rw [hget_hset, if_pos rfl] at hi
      obtain rfl := Option.some.inj hi
      exact hob _ rfl hupid hle
    · rw [hget_hset, if_neg (Ne.symm e), hget_killH] at hi
      cases hc : hget hp i with
      | none => simp [hc] at hi
      | some ob0 =>
        simp only [hc, Option.map_some, Option.some.injEq] at hi
        subst hi
        have hi' : hget hp i ≠ none := by rw [hc]; simp
        exact (h.hp i ob0 hc).killed hle (hup i e) (fun g cap hg => keep g (h.lt i g cap hi' hg) (fun cap' hg' => e (h.inj i id g cap cap' hi' hid hg hg')))
  · show RepV _ (eget (killE id env) n) _
    rw [eget_killE]
    exact (h.env n).killed hle
  · intro i v ob hv2 hi hf
    by_cases e : i = id
    · subst e
      rw [hget_hset, if_pos rfl] at hi
      obtain rfl := Option.some.inj hi
      rw [hfx] at hf; cases hf
    · rw [hget_hset, if_neg (Ne.symm e), hget_killH] at hi
      cases hc : hget hp i with
      | none => simp [hc] at hi
      | some ob0 =>
        simp only [hc, Option.map_some, Option.some.injEq] at hi
        subst hi
        rw [killO_shape, hup i e]
        exact h.fix i v ob0 hv2 hc (by cases ob0 <;> exact hf)

theorem append_types {t t' ty e e' : TypeId} {i : TypeInfo} (ht : P.underlying t = some (.slice e)) (ht' : P.underlying t' = some (.slice e')) (hi : P.info? e = some i) (A : Option Addr) (n c : Nat) (y : Value) (w : World) :
    (Builtin.append_ #[t, t'] ty #[.slice A n c, y]).run P w = (Builtin.append_ #[t, t] ty #[.slice A n c, y]).run P w := by
  simp [Builtin.append_, run_underlying ht, run_underlying ht', sizeOf, typeInfo, hi]

theorem run_ap {t t' ty T : TypeId} {dst pos after guard} {s x : Operand} {r : Value} {w' : World}
    (hr : (Builtin.append_ #[t, t'] ty #[a.eval s, a.eval x]).run P w = .ok r w') :
    (execOp a.eval ⟨dst, .call { callee := .builtin .append, args := #[s, x], argTypes := #[t, t'] }, ty, pos, after, guard⟩).run P w = .ok (.value r) w' := by
  simp [execOp, resolve, invoke, builtin, hr, Result.andThen, pure, Sem.run]

/-- Onto nothing: what is appended lies in a new row, or nothing has turned. -/
theorem ap_empty {t ty T : TypeId} {i : TypeInfo} {z : Value} {sz bytes : Nat} (ht : P.underlying t = some (.slice T)) (hi : P.info? T = some i) (hz : i.zero = some z) (hsz : i.size = sz) (hby : i.bytes = bytes)
    (A : Option Addr) (A' : Option Addr) (m c : Nat) (news : List Value) (hl : news.length = m * sz) (hn : A' = none → m = 0) (hnews : ∀ ad, A' = some ad → ∀ j u, news[j]? = some u → w.cell? (ad.add j) = some u)
    (hb0 : 0 < bytes) (hbytes : m * bytes ≤ 140737488355328) :
    (m = 0 ∧ (Builtin.append_ #[t, t] ty #[.slice A 0 0, .slice A' m c]).run P w = .ok (.slice A 0 0) w) ∨
    (0 < m ∧ ∃ cap cur, m ≤ cap ∧ cap ≤ maxLen ∧ cur.size = m * sz + (cap - m) * z.cells.size ∧ (∀ k, k < m * sz → cur.getD k undef = news.getD k undef) ∧
      (Builtin.append_ #[t, t] ty #[.slice A 0 0, .slice A' m c]).run P w = .ok (.slice (some ⟨w.heap.size, 0, none⟩) m cap) (w.drew.alloc (.cells cur T))) := by
  subst hsz hby
  have hm63 : m ≤ 140737488355328 := Nat.le_trans (Nat.le_mul_of_pos_right m hb0) hbytes
  rcases Nat.eq_zero_or_pos m with rfl | hm
  · left
    refine ⟨rfl, ?_⟩
    cases A' with
    | none => cases A <;> simp [Builtin.append_, run_underlying ht, sizeOf, typeInfo, hi, Builtin.lenOf, Builtin.firstCells, storeCells]
    | some ad => cases A <;> simp [Builtin.append_, run_underlying ht, sizeOf, typeInfo, hi, Builtin.lenOf, Builtin.firstCells, storeCells, loadCells, loadCellsFrom]
  · right
    refine ⟨hm, grownCap w m 0 T, (news.toArray ++ Builtin.zeroCells z.cells (grownCap w m 0 T - m)), grownCap_ge w m 0 T, grownCap_le_maxLen w m 0 T (by unfold maxLen; omega), ?_, ?_, ?_⟩
    · simp [hl, Builtin.zeroCells]
    · intro k hk
      rw [Array.getD_eq_getD_getElem?, Array.getElem?_append_left (by simp [hl]; exact hk), List.getD_eq_getElem?_getD]
      simp
    · obtain ⟨ad, rfl⟩ : ∃ ad, A' = some ad := by
        cases A' with
        | none => exact absurd (hn rfl) (by omega)
        | some ad => exact ⟨ad, rfl⟩
      cases A with
      | none => exact run_append_nil (P := P) w t ty T i z ht hi hz ad m c news hl (hnews ad rfl) hm (by omega) (by omega)
      | some b =>
        have := run_append_grow (P := P) w t ty T i z ht hi hz b 0 0 [] (by simp) (by simp) ad m c news hl (hnews ad rfl) (by omega) (by omega) (growslice_fits (by omega) (by rw [Nat.zero_add]; omega))
        simpa using this

theorem one_of_rep {w : World} {ok : Nat → Prop} {d : DV} {v : Value} (h : RepD w ok d v) : v.oneCell' = true := h.one

theorem wm_ap {α : Type} (h : RepS B st a w ρ) (T : TypeId) (sz bytes : Nat) (enc : α → List DV) (s x : X) (hN : ∀ t, o.dst = some t → t < B.N)
    (hc : chkWM P B.N o (.ap T sz bytes enc s x) = true) (hk : (wres st o.dst (.ap T sz bytes enc s x)).holds o.dst K) : WYield P B a w o K := by
  obtain ⟨dst, op', type, pos, after, guard⟩ := o
  simp only [chkWM] at hc
  cases op' <;> (try simp only [Bool.false_eq_true] at hc)
  split at hc
  case h_2 => cases hc
  rename_i args argTypes heq
  injection heq with heq
  subst heq
  split at hc
  case h_2 => cases hc
  rename_i s' x' t t' ha ht
  obtain rfl : args = #[s', x'] := by simpa using congrArg List.toArray ha
  obtain rfl : argTypes = #[t, t'] := by simpa using congrArg List.toArray ht
  simp only [Bool.and_eq_true, bne_iff_ne, ne_eq] at hc
  obtain ⟨⟨⟨⟨hs, hx⟩, hu⟩, hz⟩, hsz0⟩ := hc
  have hsz : 0 < sz := by omega
  obtain ⟨e', hut, hut'⟩ : ∃ e', P.underlying t = some (.slice T) ∧ P.underlying t' = some (.slice e') := by
    split at hu
    · rename_i e1 e2 h1 h2
      simp only [beq_iff_eq] at hu
      subst hu
      exact ⟨_, h1, h2⟩
    · cases hu
  obtain ⟨i, zv, hi, hisz, hby, hb0, hiz, hzl⟩ : ∃ i zv, P.info? T = some i ∧ i.size = sz ∧ i.bytes = bytes ∧ 0 < bytes ∧ i.zero = some zv ∧ zv.cells.size = sz := by
    split at hz
    · rename_i i hi
      simp only [Bool.and_eq_true, beq_iff_eq, bne_iff_ne, ne_eq] at hz
      obtain ⟨⟨⟨h1, h2⟩, h3⟩, h4⟩ := hz
      split at h4
      · rename_i z hz'; exact ⟨i, z, hi, h1, h2, by omega, hz', by simpa using h4⟩
      · cases h4
    · cases hz
  cases dst with
  | none => exact False.elim hk
  | some d =>
    simp only [wres] at hk
    have hrs := chkX_ok h hs
    have hrx := chkX_ok h hx
    generalize evX st s = vs at hk hrs
    generalize evX st x = vx at hk hrx
    -- onto nothing
    have empty : ∀ A, a.eval s' = .slice A 0 0 → (WR.ex (α := List α) True (hget st.hp d = none) (fun zs => srcQ st true sz enc vx zs ∧ zs.length * bytes ≤ 140737488355328) (fun zs => ⟨st.env, hset st.hp d (.arr T true true sz enc zs)⟩) (fun zs => .own d 0 zs.length true)).holds (some d) K →
        WYield P B a w ⟨some d, .call { callee := .builtin .append, args := #[s', x'], argTypes := #[t, t'] }, type, pos, after, guard⟩ K := by
      intro A e1 hk
      obtain ⟨hfree, zs, ⟨hq, hbytes⟩, hK⟩ := hk trivial
      have hsrc := src_spec h hrx hq
      obtain ⟨A', c, news, e2, hnl, h1c, hnone, hcells, hrep⟩ := hsrc.cells hsz
      have hmlen : zs.length ≤ 281474976710656 := by
        have : zs.length ≤ zs.length * bytes := Nat.le_mul_of_pos_right _ hb0
        omega
      have hes : ∀ z, z ∈ zs → (enc z).length = sz := by obtain ⟨_, _, _, _, _, h3, _⟩ := hsrc; exact h3
      rcases ap_empty (P := P) (w := w) (ty := type) hut hi hiz hisz hby A A' zs.length c news hnl (fun e => by rw [hnone e]; rfl) hcells hb0 hbytes with ⟨hm0, hrun⟩ | ⟨hm, cap, cur, hcap, hcm, hcs, hcur, hrun⟩
      · obtain rfl : zs = [] := List.eq_nil_of_length_eq_zero hm0
        refine ⟨_, .slice A 0 0, w, _, upd ρ d none, run_ap (T := T) (by rw [e1, e2, append_types hut hut' hi]; exact hrun), .inl rfl, ?_, hK⟩
        have keep : ∀ b, b < w.heap.size → ¬ owned st.hp ρ b → w.heap[b]? = w.heap[b]? ∧ ¬ owned (hset st.hp d (.arr T true true sz enc [])) (upd ρ d none) b := fun b hb hn => ⟨rfl, by
          rintro ⟨id, h1, cap, h2⟩
          rw [hget_hset] at h1
          by_cases e : d = id
          · subst e; simp [upd] at h2
          · rw [if_neg e] at h1; simp [upd, Ne.symm e] at h2; exact hn ⟨id, h1, cap, h2⟩⟩
        have rows : ∀ id, shOf st.hp id ≠ none → shOf (hset st.hp d (.arr T true true sz enc [])) id = shOf st.hp id ∧ upd ρ d none id = ρ id := fun id hid => by
          have : d ≠ id := by rintro rfl; apply hid; simp [shOf, hfree]
          refine ⟨?_, by simp [upd, Ne.symm this]⟩
          unfold shOf; rw [hget_hset, if_neg this]
        have hst := RepS.trans (env := st.env) (hp := st.hp) (hp' := hset st.hp d (.arr T true true sz enc [])) (w' := w) (ρ' := upd ρ d none) h (Nat.le_refl _) rfl rfl rfl (fun _ => rfl) keep rows
          (fun i j g c c' hi hj h1 h2 => by
            rw [hget_hset] at hi hj
            by_cases e1 : d = i
            · subst e1; simp [upd] at h1
            · by_cases e2 : d = j
              · subst e2; simp [upd] at h2
              · rw [if_neg e1] at hi; rw [if_neg e2] at hj; simp [upd, Ne.symm e1] at h1; simp [upd, Ne.symm e2] at h2; exact h.inj i j g c c' hi hj h1 h2)
          (fun i g c hi h1 => by
            rw [hget_hset] at hi
            by_cases e1 : d = i
            · subst e1; simp [upd] at h1
            · rw [if_neg e1] at hi; simp [upd, Ne.symm e1] at h1; exact h.lt i g c hi h1)
          (fun i g c hi h1 => by
            rw [hget_hset] at hi
            by_cases e1 : d = i
            · subst e1; simp [upd] at h1
            · rw [if_neg e1] at hi; simp [upd, Ne.symm e1] at h1; exact h.wr i g c hi h1)
          (fun i ob hi => by
            rw [hget_hset] at hi
            by_cases e1 : d = i
            · subst e1
              rw [if_pos rfl] at hi
              obtain rfl := Option.some.inj hi
              exact ⟨hsz, by simp, by simp, .inl ⟨by simp [ctxOf, upd], rfl, rfl⟩⟩
            · rw [if_neg e1] at hi
              exact (h.hp i ob hi).mono (Ctx.Le.of_keep (Nat.le_refl _) keep rows) (by simp [ctxOf, upd, Ne.symm e1]) (fun _ _ _ => rfl))
          (fun i v ob hv hi hf => by
            have hge := h.fixN i v hv
            have hdN : d < B.N := hN d rfl
            have e : d ≠ i := Nat.ne_of_lt (Nat.lt_of_lt_of_le hdN hge.1)
            rw [hget_hset, if_neg e] at hi
            simp only [upd, if_neg (Ne.symm e)]
            exact h.fix i v ob hv hi hf)
        refine RepS.set hst (hN d rfl) (v := .own d 0 0 true) ⟨sz, 0, by simp [ctxOf, shOf, hget_hset, OB.shape], by omega, .inl ⟨by simp [ctxOf, upd], ⟨A, rfl⟩, rfl⟩⟩
      · refine ⟨_, .slice (some ⟨w.heap.size, 0, none⟩) zs.length cap, _, _, upd ρ d (some (w.heap.size, cap)), run_ap (T := T) (by rw [e1, e2, append_types hut hut' hi]; exact hrun), .inl rfl, ?_, hK⟩
        have hobc := (h.draw).own (id := d) (hN d rfl) hfree (.cells cur T) cap (.arr T true true sz enc zs) (by
          intro c' hcw hcρ hle
          refine ⟨hsz, hes, hmlen, .inr ⟨w.heap.size, cap, cur, hcρ, by rw [hcw, heap_alloc_get]; exact if_pos rfl, hcap, hcm, ?_, ?_⟩⟩
          · rw [hcs, hzl, ← Nat.add_mul]; congr 1; omega
          · intro p z j u hz hu
            have hp := (List.getElem?_eq_some_iff.1 hz).1
            have hj : j < sz := by
              have := (List.getElem?_eq_some_iff.1 hu).1
              rwa [hes z (List.mem_of_getElem? hz)] at this
            rw [hcur _ (mul_add_lt hp (Nat.le_refl _) hj)]
            exact Le_okf hle true (RepD.mono ((Le_draw B st.hp w ρ).ro true) (hrep p z j u hz hu)))
        refine RepS.set hobc (hN d rfl) (v := .own d 0 zs.length true) ⟨sz, zs.length, by simp [ctxOf, shOf, hget_hset, OB.shape], by omega, .inr ⟨w.heap.size, cap, cap, 0, by simp [ctxOf, upd], rfl, by simp, hcap, by omega, by simp⟩⟩
    cases vs <;> (try simp only [apR] at hk) <;> (try exact False.elim hk)
    case nilS => exact empty none hrs hk
    case lits fr' sz' es =>
      cases es with
      | nil =>
        obtain ⟨b, cell, e1, _⟩ := hrs
        exact empty _ e1 hk
      | cons e es => exact False.elim hk
    case own id off len app =>
      split at hk
      · rename_i β T' mov fr sz' enc' xs hob
        obtain ⟨sz2, n2, hsh, hol, hv⟩ := hrs
        have hsh' : sz2 = sz' ∧ n2 = xs.length := by
          have : (ctxOf B st.hp w ρ).sh id = some (sz', xs.length) := by simp [ctxOf, shOf, hob, OB.shape]
          rw [this] at hsh; simp at hsh; exact ⟨hsh.1.symm, hsh.2.symm⟩
        obtain ⟨rfl, rfl⟩ := hsh'
        obtain ⟨⟨rfl, rfl, rfl, rfl, rfl⟩, zs, ⟨hq, hbytes⟩, hK⟩ := hk hol
        have hsrc := src_spec h hrx hq
        obtain ⟨A', c, news, e2, hnl, h1c, hnone, hcells, hrep⟩ := hsrc.cells hsz
        have hes : ∀ z, z ∈ zs → (enc' z).length = sz2 := by obtain ⟨_, _, _, _, _, h3, _⟩ := hsrc; exact h3
        have hmlen : len + zs.length ≤ 281474976710656 := by
          have : len + zs.length ≤ (len + zs.length) * bytes := Nat.le_mul_of_pos_right _ hb0
          omega
        have hidn : hget st.hp id ≠ none := by rw [hob]; simp
        obtain ⟨h0, hsl, hmx, hb⟩ := h.hp id _ hob
        have hctl : (xs.take len ++ zs).length = len + zs.length := by rw [List.length_append, List.length_take]; omega
        have hesl : ∀ z, z ∈ xs.take len ++ zs → (enc' z).length = sz2 := fun z hz => by
          rcases List.mem_append.1 hz with hz | hz
          · exact hsl z (List.mem_of_mem_take hz)
          · exact hes z hz
        -- what the new contents are, given the cells
        have build : ∀ (c' : Ctx) (g cap : Nat) (cur : Array Value), c'.ρ id = some (g, cap) → c'.w.heap[g]? = some (.cells cur T' (0, 0)) → len + zs.length ≤ cap → cap ≤ maxLen → cur.size = cap * sz2 →
            (∀ p z j u, xs[p]? = some z → p < len → (enc' z)[j]? = some u → RepD c'.w (c'.okf fr) u (cur.getD (p * sz2 + j) undef)) →
            (∀ p z j u, zs[p]? = some z → (enc' z)[j]? = some u → RepD c'.w (c'.okf fr) u (cur.getD ((len + p) * sz2 + j) undef)) →
            RepOB c' id (.arr T' true fr sz2 enc' (xs.take len ++ zs)) := by
          intro c' g cap cur h1 h2 h3 h4 h5 h6 h7
          refine ⟨h0, hesl, by rw [hctl]; exact hmlen, .inr ⟨g, cap, cur, h1, h2, by rw [hctl]; exact h3, h4, h5, fun p z j u hz hu => ?_⟩⟩
          by_cases hp : p < len
          · rw [List.getElem?_append_left (by rw [List.length_take]; omega), List.getElem?_take, if_pos hp] at hz
            exact h6 p z j u hz hp hu
          · rw [List.getElem?_append_right (by rw [List.length_take]; omega), List.length_take, Nat.min_eq_left (by omega)] at hz
            have := h7 (p - len) z j u hz hu
            rwa [show len + (p - len) = p by omega] at this
        rcases hv with ⟨hρ0, ⟨A0, e1⟩, rfl⟩ | ⟨g, cap, k, oo, hρ, e1, ho, hlk, hcapk, happ⟩
        · -- the row was not made yet
          rcases hb with ⟨_, rfl, _⟩ | ⟨g', cap', cur, hρ', _⟩
          case inr => rw [hρ0] at hρ'; cases hρ'
          rcases ap_empty (P := P) (w := w) (ty := type) hut hi hiz hisz hby A0 A' zs.length c news hnl (fun e => by rw [hnone e]; rfl) hcells hb0 (by simpa using hbytes) with ⟨hm0, hrun⟩ | ⟨hm, cap, cur, hcap, hcm, hcs, hcur, hrun⟩
          · obtain rfl : zs = [] := List.eq_nil_of_length_eq_zero hm0
            refine ⟨_, .slice A0 0 0, w, _, upd ρ id none, run_ap (T := T') (by rw [e1, e2, append_types hut hut' hi]; exact hrun), .inl rfl, ?_, hK⟩
            have hst := h.rekey (id := id) (ob' := .arr T' true fr sz2 enc' ([].take 0 ++ [])) (w' := w) (v' := none) hidn rfl (Nat.le_refl _) rfl rfl rfl (fun _ _ _ => rfl) (fun g cap e => by cases e) (fun c' hcw hcρ hle => ⟨h0, by simp, by simp, .inl ⟨hcρ, by simp, rfl⟩⟩)
            exact hst.set (hN d rfl) (v := .own id 0 (0 + ([] : List β).length) true) ⟨sz2, 0, by simp [ctxOf, shOf, hget_hset, OB.shape], by simp, .inl ⟨by simp [ctxOf, upd], ⟨A0, rfl⟩, rfl⟩⟩
          · refine ⟨_, .slice (some ⟨w.heap.size, 0, none⟩) zs.length cap, _, _, upd ρ id (some (w.heap.size, cap)), run_ap (T := T') (by rw [e1, e2, append_types hut hut' hi]; exact hrun), .inl rfl, ?_, hK⟩
            have hst := h.rekey (id := id) (ob' := .arr T' true fr sz2 enc' ([].take 0 ++ zs)) (w' := w.drew.alloc (.cells cur T')) (v' := some (w.heap.size, cap)) hidn rfl (by rw [heap_alloc_size]; exact Nat.le_succ _) rfl rfl rfl
              (fun b hb _ => by rw [heap_alloc_get, if_neg (by show ¬ b = w.heap.size; omega)]; rfl) (fun g c' e => by simp at e; right; rw [heap_alloc_size]; show w.heap.size ≤ g ∧ g < w.heap.size + 1; omega)
              (fun c' hcw hcρ hle => build c' _ cap cur hcρ (by rw [hcw, heap_alloc_get]; exact if_pos rfl) (by simpa using hcap) hcm (by rw [hcs, hzl, ← Nat.add_mul]; congr 1; omega) (fun p z j u hz hp => by omega) (fun p z j u hz hu => by
                have hp := (List.getElem?_eq_some_iff.1 hz).1
                have hj : j < sz2 := by
                  have := (List.getElem?_eq_some_iff.1 hu).1
                  rwa [hes z (List.mem_of_getElem? hz)] at this
                rw [Nat.zero_add, hcur _ (mul_add_lt hp (Nat.le_refl _) hj)]
                exact (hrep p z j u hz hu).mono (hle.ro fr)))
            exact hst.set (hN d rfl) (v := .own id 0 (0 + zs.length) true) ⟨sz2, zs.length, by simp [ctxOf, shOf, hget_hset, OB.shape], by omega, .inr ⟨w.heap.size, cap, cap, 0, by simp [ctxOf, upd], by simp, by simp, by omega, by omega, by simp⟩⟩
        · obtain ⟨hkc, ho0⟩ := happ rfl
          obtain rfl := ho0 rfl
          obtain rfl : k = cap := by omega
          rcases hb with ⟨hn0, rfl, _⟩ | ⟨g', cap', cur, hρ', hg, hnc, hcm, hcs, hrepx⟩
          · have : (ctxOf B st.hp w ρ).ρ id = none := hn0
            rw [hρ] at this; cases this
          rw [hρ] at hρ'
          simp only [Option.some.injEq, Prod.mk.injEq] at hρ'
          obtain ⟨rfl, rfl⟩ := hρ'
          have hgs : g < w.heap.size := h.lt id g k hidn hρ
          by_cases hroom : len + zs.length ≤ k
          · -- there is room
            have hfit : len * sz2 + news.length ≤ cur.size := by rw [hnl, hcs, ← Nat.add_mul]; exact Nat.mul_le_mul_right _ hroom
            have hfit' : len * sz2 + news.length ≤ cur.toList.length := by simpa using hfit
            have hrun : (Builtin.append_ #[t, t] type #[.slice (some ⟨g, 0, none⟩) len k, .slice A' zs.length c]).run P w = .ok (.slice (some ⟨g, 0, none⟩) (len + zs.length) k) (w.setRow g (cur.toList.take (len * sz2) ++ news ++ cur.toList.drop (len * sz2 + news.length)).toArray) := by
              cases A' with
              | some ad =>
                have := run_append_room (P := P) w t type T' i hut hi g len k cur hg ad zs.length c news (by rw [hnl, hisz]) (hcells ad rfl) h1c hroom (by rw [hisz]; exact hfit)
                rwa [hisz] at this
              | none =>
                obtain rfl := hnone rfl
                obtain rfl : news = [] := List.eq_nil_of_length_eq_zero (by simpa using hnl)
                have e : (cur.toList.take (len * sz2) ++ ([] : List Value) ++ cur.toList.drop (len * sz2 + ([] : List Value).length)).toArray = cur := by simp
                rw [e, setRow_self w g cur T' (0, 0) hg]
                simp [Builtin.append_, run_underlying hut, sizeOf, typeInfo, hi, Builtin.lenOf, Builtin.firstCells, storeCells, hlk]
            refine ⟨_, .slice (some ⟨g, 0, none⟩) (len + zs.length) k, _, _, upd ρ id (some (g, k)), run_ap (T := T') (by rw [e1, e2, append_types hut hut' hi]; exact hrun), .inl rfl, ?_, hK⟩
            have hst := h.rekey (id := id) (ob' := .arr T' true fr sz2 enc' (xs.take len ++ zs)) (w' := w.setRow g (cur.toList.take (len * sz2) ++ news ++ cur.toList.drop (len * sz2 + news.length)).toArray) (v' := some (g, k)) hidn rfl (by simp [World.setRow]) rfl rfl rfl
              (fun b hb hne => setRow_other w g b _ (fun e => hne k (by rw [e]; exact hρ))) (fun g' c' e => by simp at e; left; exact ⟨k, by rw [← e.1]; exact hρ⟩)
              (fun c' hcw hcρ hle => build c' g k _ hcρ (by rw [hcw]; exact setRow_heap w g cur _ T' _ hg) hroom hcm (by rw [splice_len _ _ _ hfit']; simpa using hcs) (fun p z j u hz hp hu => by
                have hj : j < sz2 := by
                  have := (List.getElem?_eq_some_iff.1 hu).1
                  rwa [hsl z (List.mem_of_getElem? hz)] at this
                have := mul_add_lt (i := p) (j := j) hp (Nat.le_refl len) hj
                rw [splice_get _ _ _ _ hfit', if_neg (by omega), toList_getD]
                exact (hrepx p z j u hz hu).mono (hle.ro fr)) (fun p z j u hz hu => by
                have hp := (List.getElem?_eq_some_iff.1 hz).1
                have hj : j < sz2 := by
                  have := (List.getElem?_eq_some_iff.1 hu).1
                  rwa [hes z (List.mem_of_getElem? hz)] at this
                have := mul_add_lt (i := p) (j := j) hp (Nat.le_refl _) hj
                rw [splice_get _ _ _ _ hfit', if_pos (by rw [hnl, Nat.add_mul]; omega), show (len + p) * sz2 + j - len * sz2 = p * sz2 + j by rw [Nat.add_mul]; omega]
                exact (hrep p z j u hz hu).mono (hle.ro fr)))
            exact hst.set (hN d rfl) (v := .own id 0 (len + zs.length) true) ⟨sz2, len + zs.length, by simp [ctxOf, shOf, hget_hset, OB.shape]; omega, by omega, .inr ⟨g, k, k, 0, by simp [ctxOf, upd], rfl, by simp, hroom, by omega, by simp⟩⟩
          · -- a new row
            have hm : 0 < zs.length := by omega
            obtain ⟨ad, rfl⟩ : ∃ ad, A' = some ad := by
              cases A' with
              | none => rw [hnone rfl] at hm; simp at hm
              | some ad => exact ⟨ad, rfl⟩
            have holds : ∀ j v, (cur.toList.take (len * sz2))[j]? = some v → w.cell? ((⟨g, 0, none⟩ : Addr).add j) = some v := fun j v hj => by
              rw [List.getElem?_take] at hj
              split at hj
              · rw [add_at, Nat.zero_add]
                have hlt : j < cur.size := by
                  have := (List.getElem?_eq_some_iff.1 hj).1; simpa using this
                rw [show w.cell? ⟨g, j, none⟩ = some (cur.getD j undef) from cell_of_block hg hlt, ← toList_getD, List.getD_eq_getElem?_getD, hj]; rfl
              · cases hj
            have hol : (cur.toList.take (len * sz2)).length = len * sz2 := by
              rw [List.length_take, Nat.min_eq_left]
              rw [Array.length_toList, hcs]; exact Nat.mul_le_mul_right _ (by omega)
            have hrun := run_append_grow (P := P) w t type T' i zv hut hi hiz ⟨g, 0, none⟩ len k (cur.toList.take (len * sz2)) (by rw [hol, hisz]) holds ad zs.length c news (by rw [hnl, hisz]) (hcells ad rfl) (by omega) (by omega) (growslice_fits (by omega) (by rw [hby]; omega))
            have hgc := grownCap_ge w (len + zs.length) k T'
            have hgm := grownCap_le_maxLen w (len + zs.length) k T' (by unfold maxLen; omega)
            generalize grownCap w (len + zs.length) k T' = cap2 at hrun hgc hgm
            refine ⟨_, .slice (some ⟨w.heap.size, 0, none⟩) (len + zs.length) cap2, _, _, upd ρ id (some (w.heap.size, cap2)), run_ap (T := T') (by rw [e1, e2, append_types hut hut' hi]; exact hrun), .inl rfl, ?_, hK⟩
            have hget : ∀ q, q < len * sz2 + news.length → ((cur.toList.take (len * sz2)).toArray ++ news.toArray ++ Builtin.zeroCells zv.cells (cap2 - (len + zs.length))).getD q undef = if q < len * sz2 then cur.getD q undef else news.getD (q - len * sz2) undef := by
              intro q hq
              rw [Array.getD_eq_getD_getElem?, Array.getElem?_append_left (by simp only [Array.size_append, List.size_toArray, hol]; exact hq)]
              by_cases hq1 : q < len * sz2
              · rw [if_pos hq1, Array.getElem?_append_left (by rw [List.size_toArray, hol]; exact hq1), List.getElem?_toArray, List.getElem?_take, if_pos hq1, ← List.getD_eq_getElem?_getD, toList_getD]
              · rw [if_neg hq1, Array.getElem?_append_right (by rw [List.size_toArray, hol]; omega), List.size_toArray, hol, List.getElem?_toArray, ← List.getD_eq_getElem?_getD]
            have hst := h.rekey (id := id) (ob' := .arr T' true fr sz2 enc' (xs.take len ++ zs)) (w' := w.drew.alloc (.cells ((cur.toList.take (len * sz2)).toArray ++ news.toArray ++ Builtin.zeroCells zv.cells (cap2 - (len + zs.length))) T')) (v' := some (w.heap.size, cap2)) hidn rfl (by rw [heap_alloc_size]; exact Nat.le_succ _) rfl rfl rfl
              (fun b hb _ => by rw [heap_alloc_get, if_neg (by show ¬ b = w.heap.size; omega)]; rfl) (fun g c' e => by simp at e; right; rw [heap_alloc_size]; show w.heap.size ≤ g ∧ g < w.heap.size + 1; omega)
              (fun c' hcw hcρ hle => build c' _ cap2 _ hcρ (by rw [hcw, heap_alloc_get]; exact if_pos rfl) hgc hgm (by
                simp only [Array.size_append, List.size_toArray, hol, hnl, size_zeroCells, hzl]
                rw [← Nat.add_mul, ← Nat.add_mul]; congr 1; omega) (fun p z j u hz hp hu => by
                have hj : j < sz2 := by
                  have := (List.getElem?_eq_some_iff.1 hu).1
                  rwa [hsl z (List.mem_of_getElem? hz)] at this
                have := mul_add_lt (i := p) (j := j) hp (Nat.le_refl len) hj
                rw [hget _ (by omega), if_pos this]
                exact (hrepx p z j u hz hu).mono (hle.ro fr)) (fun p z j u hz hu => by
                have hp := (List.getElem?_eq_some_iff.1 hz).1
                have hj : j < sz2 := by
                  have := (List.getElem?_eq_some_iff.1 hu).1
                  rwa [hes z (List.mem_of_getElem? hz)] at this
                have := mul_add_lt (i := p) (j := j) hp (Nat.le_refl _) hj
                rw [hget _ (by rw [hnl, Nat.add_mul]; omega), if_neg (by rw [Nat.add_mul]; omega), show (len + p) * sz2 + j - len * sz2 = p * sz2 + j by rw [Nat.add_mul]; omega]
                exact (hrep p z j u hz hu).mono (hle.ro fr)))
            exact hst.set (hN d rfl) (v := .own id 0 (len + zs.length) true) ⟨sz2, len + zs.length, by simp [ctxOf, shOf, hget_hset, OB.shape]; omega, by omega, .inr ⟨w.heap.size, cap2, cap2, 0, by simp [ctxOf, upd], rfl, by simp, hgc, by omega, by simp⟩⟩
      · exact False.elim hk

theorem RepS.hpEq {env : Env} {hp hp' : Heap} (h : RepS B ⟨env, hp⟩ a w ρ) (he : ∀ i, hget hp' i = hget hp i) : RepS B ⟨env, hp'⟩ a w ρ := by
  have e : hget hp' = hget hp := funext he
  have es : shOf hp' = shOf hp := by funext i; simp only [shOf, e]
  obtain ⟨h1, h2, h3, h4, h5, h6, h7, h8, h9, h10⟩ := h
  have ec : ctxOf B hp' w ρ = ctxOf B hp w ρ := by
    unfold ctxOf owned
    rw [es]
    simp only [e]
  exact ⟨h1, h2, h3, by simpa only [e] using h4, by simpa only [e] using h5, by simpa only [e] using h6, by
    intro i ob hi; simp only [ec]; simp only [e] at hi; exact h7 i ob hi, by intro n; simp only [ec]; exact h8 n, h9, by intro i v ob hv hi; simp only [e] at hi; exact h10 i v ob hv hi⟩

theorem wm_cp (h : RepS B st a w ρ) (sz : Nat) (dd s : X) (hN : ∀ t, o.dst = some t → t < B.N)
    (hc : chkWM P B.N o (.cp sz dd s) = true) (hk : (wres st o.dst (.cp sz dd s)).holds o.dst K) : WYield P B a w o K := by
  obtain ⟨dst, op', type, pos, after, guard⟩ := o
  simp only [chkWM] at hc
  cases op' <;> (try simp only [Bool.false_eq_true] at hc)
  split at hc
  case h_2 => cases hc
  rename_i args argTypes heq
  injection heq with heq
  subst heq
  split at hc
  case h_2 => cases hc
  rename_i d' s' t t' ha ht
  obtain rfl : args = #[d', s'] := by simpa using congrArg List.toArray ha
  obtain rfl : argTypes = #[t, t'] := by simpa using congrArg List.toArray ht
  simp only [Bool.and_eq_true] at hc
  obtain ⟨⟨hd, hs⟩, hz⟩ := hc
  obtain ⟨e, inf, hu, hinf, rfl⟩ := elemSz_spec hz
  cases dst with
  | none => exact False.elim hk
  | some d =>
    simp only [wres] at hk
    have hrd := chkX_ok h hd
    have hrs := chkX_ok h hs
    generalize evX st dd = vd at hk hrd
    generalize evX st s = vs at hk hrs
    cases vd <;> (try simp only [cpR] at hk) <;> (try exact False.elim hk)
    rename_i id off len app
    split at hk
    · rename_i β T mov fr sz' enc xs hob
      obtain ⟨sz2, n2, hsh, hol, hv⟩ := hrd
      have hsh' : sz2 = sz' ∧ n2 = xs.length := by
        have : (ctxOf B st.hp w ρ).sh id = some (sz', xs.length) := by simp [ctxOf, shOf, hob, OB.shape]
        rw [this] at hsh; simp at hsh; exact ⟨hsh.1.symm, hsh.2.symm⟩
      obtain ⟨rfl, rfl⟩ := hsh'
      obtain ⟨hsz, zs, hq, hK⟩ := hk hol
      simp only [] at hK
      have hsrc := src_spec h hrs hq
      obtain ⟨h0, hsl, hmx, hb⟩ := h.hp id _ hob
      obtain ⟨A, c, news, e2, hnl, h1c, hnone, hcells, hrep⟩ := hsrc.cells h0
      have hes : ∀ z, z ∈ zs → (enc z).length = sz2 := by obtain ⟨_, _, _, _, _, h3, _⟩ := hsrc; exact h3
      have hidn : hget st.hp id ≠ none := by rw [hob]; simp
      have hnl2 : (news.take (min len zs.length * sz2)).length = min len zs.length * sz2 := by
        rw [List.length_take, hnl, Nat.min_eq_left]; exact Nat.mul_le_mul_right _ (Nat.min_le_right _ _)
      have hin : inK .i64 ((min len zs.length : Nat) : Int) := by simp only [inK]; omega
      have hrun0 : ∀ (A0 : Option Addr) k w', a.eval d' = .slice A0 len k → ((match A0 with | some b => storeCells b (news.take (min len zs.length * sz2)) | none => pure ()) : Sem Unit).run P w = .ok () w' →
          (execOp a.eval ⟨some d, .call { callee := .builtin .copy, args := #[d', s'], argTypes := #[t, t'] }, type, pos, after, guard⟩).run P w = .ok (.value (.int .i64 ((min len zs.length : Nat) : Int))) w' := by
        intro A0 k w' e1 hst
        have hfc : (Builtin.firstCells sz2 (min len zs.length) (.slice A zs.length c)).run P w = .ok (news.take (min len zs.length * sz2)).toArray w := by
          cases A with
          | none =>
            obtain rfl := hnone rfl
            have : news = [] := List.eq_nil_of_length_eq_zero (by simpa using hnl)
            subst this
            simp [Builtin.firstCells]
          | some ad =>
            refine run_firstCells_some (P := P) w sz2 (min len zs.length) ad zs.length c _ hnl2 (fun j v hj => ?_)
            rw [List.getElem?_take] at hj
            split at hj
            · exact hcells ad rfl j v hj
            · cases hj
        have hmin : Nat.min zs.length len = min zs.length len := rfl
        cases A0 with
        | none =>
          have hw : w' = w := by simp [Sem.run, pure] at hst; exact hst.symm
          subst hw
          simp [execOp, resolve, invoke, builtin, Builtin.copy_, run_underlying hu, e1, e2, Builtin.lenOf, sizeOf_run hinf, ← hsz, hfc, goInt, Nat.min_comm, Result.andThen, Sem.run]
        | some b =>
          simp only at hst
          simp [execOp, resolve, invoke, builtin, Builtin.copy_, run_underlying hu, e1, e2, Builtin.lenOf, sizeOf_run hinf, ← hsz, hfc, hst, goInt, Nat.min_comm, Result.andThen, Sem.run]
      rcases hv with ⟨hρ0, ⟨A0, e1⟩, rfl⟩ | ⟨g, cap, k, oo, hρ, e1, ho, hlk, hcapk, happ⟩
      · have hm0 : min 0 zs.length = 0 := by omega
        refine ⟨_, .int .i64 ((min 0 zs.length : Nat) : Int), w, _, ρ, hrun0 A0 0 w e1 ?_, .inl rfl, ?_, hK⟩
        · cases A0 <;> simp [hm0, storeCells, Sem.run, pure]
        · have hst := RepS.hpEq (env := st.env) (hp' := hset st.hp id (.arr T mov fr sz2 enc (xs.take off ++ zs.take 0 ++ xs.drop (off + min 0 zs.length)))) h (fun i => by
            rw [hget_hset]
            by_cases e : id = i
            · subst e; rw [if_pos rfl, hob]; simp [hm0]
            · rw [if_neg e])
          exact hst.set (hN d rfl) (v := .int .i64 _) ⟨rfl, hin⟩
      · rcases hb with ⟨hn0, rfl, _⟩ | ⟨g', cap', cur, hρ', hg, hnc, hcm, hcs, hrepx⟩
        · have : (ctxOf B st.hp w ρ).ρ id = none := hn0
          rw [hρ] at this; cases this
        rw [hρ] at hρ'
        simp only [Option.some.injEq, Prod.mk.injEq] at hρ'
        obtain ⟨rfl, rfl⟩ := hρ'
        generalize hn : min len zs.length = n at *
        by_cases hz0 : n = 0
        · subst hz0
          refine ⟨_, .int .i64 ((0 : Nat) : Int), w, _, ρ, hrun0 _ k w e1 ?_, .inl rfl, ?_, hK⟩
          · simp [storeCells, Sem.run, pure]
          · have hzt : zs.take len = [] := by rcases Nat.le_total len zs.length with h1 | h1 <;> (have : len = 0 ∨ zs.length = 0 := by omega) <;> rcases this with h2 | h2 <;> simp [h2] <;> (try exact .inr (List.eq_nil_of_length_eq_zero h2)) 
            have hst := RepS.hpEq (env := st.env) (hp' := hset st.hp id (.arr T mov fr sz2 enc (xs.take off ++ zs.take len ++ xs.drop (off + 0)))) h (fun i => by
              rw [hget_hset]
              by_cases e : id = i
              · subst e; rw [if_pos rfl, hob, hzt]; simp
              · rw [if_neg e])
            exact hst.set (hN d rfl) (v := .int .i64 _) ⟨rfl, hin⟩
        · obtain rfl := ho (by omega)
          have hfit : off * sz2 + (news.take (n * sz2)).length ≤ cur.size := by rw [hnl2, hcs, ← Nat.add_mul]; exact Nat.mul_le_mul_right _ (by omega)
          have hfit' : off * sz2 + (news.take (n * sz2)).length ≤ cur.toList.length := by simpa using hfit
          have hst0 := run_storeCells_at P g (off * sz2) T (news.take (n * sz2)) 0 cur w hg (by simpa using hfit) (fun v hv => h1c v (List.mem_of_mem_take hv))
          simp only [Nat.add_zero] at hst0
          have hlt2 : (zs.take len).length = n := by rw [List.length_take]; exact hn
          have hcl : (xs.take off ++ zs.take len ++ xs.drop (off + n)).length = xs.length := by
            simp only [List.length_append, List.length_take, List.length_drop]; omega
          refine ⟨_, .int .i64 (n : Int), _, _, ρ, hrun0 _ k _ e1 hst0, .inl rfl, ?_, hK⟩
          have hst := h.turn (id := id) (w' := w.setRow g (cur.toList.take (off * sz2) ++ news.take (n * sz2) ++ cur.toList.drop (off * sz2 + (news.take (n * sz2)).length)).toArray) (ob' := .arr T mov fr sz2 enc (xs.take off ++ zs.take len ++ xs.drop (off + n))) hob (by simp only [OB.shape, hcl]) rfl hρ (by simp [World.setRow]) rfl rfl rfl (fun b hb => setRow_other w g b _ hb) (by
            intro c' hcw hcρ hle
            refine ⟨h0, ?_, by rw [hcl]; exact hmx, .inr ⟨g, cap, _, hcρ, by rw [hcw]; exact setRow_heap w g cur _ T _ hg, by rw [hcl]; exact hnc, hcm, by rw [splice_len _ _ _ hfit']; simpa using hcs, ?_⟩⟩
            · intro z hz
              rcases List.mem_append.1 hz with hz | hz
              · rcases List.mem_append.1 hz with hz | hz
                · exact hsl z (List.mem_of_mem_take hz)
                · exact hes z (List.mem_of_mem_take hz)
              · exact hsl z (List.mem_of_mem_drop hz)
            · intro p z j u hz hu'
              rw [splice_get _ _ _ _ hfit', hnl2]
              rw [List.append_assoc] at hz
              by_cases hp : p < off
              · rw [List.getElem?_append_left (by rw [List.length_take]; omega), List.getElem?_take, if_pos hp] at hz
                have hj : j < sz2 := by
                  have := (List.getElem?_eq_some_iff.1 hu').1
                  rwa [hsl z (List.mem_of_getElem? hz)] at this
                have := mul_add_lt (i := p) (j := j) hp (Nat.le_refl off) hj
                rw [if_neg (by omega), toList_getD]
                exact (hrepx p z j u hz hu').mono (hle.ro fr)
              · rw [List.getElem?_append_right (by rw [List.length_take]; omega), List.length_take, Nat.min_eq_left (by omega)] at hz
                by_cases hp2 : p < off + n
                · rw [List.getElem?_append_left (by omega), List.getElem?_take] at hz
                  split at hz
                  case isFalse => cases hz
                  have hj : j < sz2 := by
                    have := (List.getElem?_eq_some_iff.1 hu').1
                    rwa [hes z (List.mem_of_getElem? hz)] at this
                  obtain ⟨q, rfl⟩ : ∃ q, p = off + q := ⟨p - off, by omega⟩
                  rw [Nat.add_sub_cancel_left] at hz
                  have hq := mul_add_lt (i := q) (j := j) (n := n) (cap := n) (by omega) (Nat.le_refl _) hj
                  rw [if_pos (by rw [Nat.add_mul]; omega), show (off + q) * sz2 + j - off * sz2 = q * sz2 + j by rw [Nat.add_mul]; omega]
                  have := hrep q z j u hz hu'
                  rw [List.getD_eq_getElem?_getD, List.getElem?_take, if_pos hq, ← List.getD_eq_getElem?_getD]
                  exact this.mono (hle.ro fr)
                · rw [List.getElem?_append_right (by omega), List.getElem?_drop, hlt2] at hz
                  rw [show off + n + (p - off - n) = p by omega] at hz
                  have hj : j < sz2 := by
                    have := (List.getElem?_eq_some_iff.1 hu').1
                    rwa [hsl z (List.mem_of_getElem? hz)] at this
                  have h3 : (off + n) * sz2 ≤ p * sz2 := Nat.mul_le_mul_right _ (by omega)
                  rw [Nat.add_mul] at h3
                  rw [if_neg (by omega), toList_getD]
                  exact (hrepx p z j u hz hu').mono (hle.ro fr))
          exact hst.set (hN d rfl) (v := .int .i64 _) ⟨rfl, hin⟩
    · exact False.elim hk

/-- Every operation that writes or makes memory. -/
theorem wm_ok (h : RepS B st a w ρ) (m : WM) (hN : ∀ t, o.dst = some t → t < B.N) (hc : chkWM P B.N o m = true) (hk : (wres st o.dst m).holds o.dst K) : WYield P B a w o K := by
  cases m with
  | st n x y => exact wm_st h n x y hN hc hk
  | mk T sz bytes zs enc z n c => exact wm_mk h T sz bytes zs enc z n c hN hc hk
  | bs T sz parts => exact wm_bs h T sz parts hN hc hk
  | box T n x => exact wm_box h T n x hN hc hk
  | al T zs => exact wm_al h T zs hN hc hk
  | ap T sz bytes enc s x => exact wm_ap h T sz bytes enc s x hN hc hk
  | cp sz dd s => exact wm_cp h sz dd s hN hc hk

end
end Go.Vc
