/-
  Vc7: stores, new rows, literals, new variables: they do what their short forms say.
-/
import Derived.Test.YtdlddbclcmecjaaDoorVc6
import Derived.Laws.MakeOwn
import Derived.Laws.CopyRow
import Derived.Laws.BytesArg
set_option linter.unusedVariables false
set_option linter.unusedSimpArgs false
namespace Go.Vc
open Go

section
variable {P : Program} {B : Base} {st : St} {a : Act} {w : World} {ρ : Nat → Option (Nat × Nat)} {o : Oper} {K : St → Prop}

theorem splice_get (cur vs : List Value) (off k : Nat) (h : off + vs.length ≤ cur.length) :
    ((cur.take off ++ vs ++ cur.drop (off + vs.length)).toArray.getD k undef) = if off ≤ k ∧ k < off + vs.length then vs.getD (k - off) undef else cur.getD k undef := by
  rw [Array.getD_eq_getD_getElem?]
  simp only [List.getElem?_toArray, List.append_assoc]
  by_cases h1 : k < off
  · rw [if_neg (by omega), List.getElem?_append_left (by rw [List.length_take]; omega), List.getElem?_take, if_pos h1, List.getD_eq_getElem?_getD]
  · rw [List.getElem?_append_right (by rw [List.length_take]; omega), List.length_take, Nat.min_eq_left (by omega)]
    by_cases h2 : k < off + vs.length
    · rw [if_pos ⟨by omega, h2⟩, List.getElem?_append_left (by omega), List.getD_eq_getElem?_getD]
    · rw [if_neg (by omega), List.getElem?_append_right (by omega), List.getElem?_drop, List.getD_eq_getElem?_getD]
      congr 2
      omega

theorem splice_len (cur vs : List Value) (off : Nat) (h : off + vs.length ≤ cur.length) : (cur.take off ++ vs ++ cur.drop (off + vs.length)).toArray.size = cur.length := by
  simp only [List.size_toArray, List.length_append, List.length_take, List.length_drop]; omega

theorem toList_getD (cur : Array Value) (k : Nat) : cur.toList.getD k undef = cur.getD k undef := by
  rw [List.getD_eq_getElem?_getD, Array.getD_eq_getD_getElem?, Array.getElem?_toList]

theorem fitsL_len {fr : Bool} : ∀ {ds : List DV} {vs : List AV}, fitsL fr ds vs → ds.length = vs.length
  | [], [], _ => rfl
  | d :: ds, v :: vs, h => by simp [fitsL_len h.2]
  | [], _ :: _, h => h.elim
  | _ :: _, [], h => h.elim

theorem fitsL_get {fr : Bool} : ∀ {ds : List DV} {vs : List AV}, fitsL fr ds vs → ∀ (j : Nat) (d : DV), ds[j]? = some d → ∃ v, vs[j]? = some v ∧ fits fr d v
  | [], [], _ => fun j d h => by simp at h
  | d :: ds, v :: vs, h => fun j d' hj => by
    cases j with
    | zero => simp at hj; subst hj; exact ⟨v, rfl, h.1⟩
    | succ j => simpa using fitsL_get h.2 j d' (by simpa using hj)
  | [], _ :: _, h => h.elim
  | _ :: _, [], h => h.elim

theorem Le_okf {B : Base} {hp : Heap} {w : World} {ρ : Nat → Option (Nat × Nat)} {c : Ctx} (h : (ctxOf B hp w ρ).Le c) (fr : Bool) {d : DV} {v : Value} (hr : RepD w ((ctxOf B hp w ρ).okf fr) d v) : RepD c.w (c.okf fr) d v := hr.mono (h.ro fr)

theorem wm_st (h : RepS B st a w ρ) (n : Nat) (x y : X) (hN : ∀ t, o.dst = some t → t < B.N) (hc : chkWM P B.N o (.st n x y) = true) (hk : (wres st o.dst (.st n x y)).holds o.dst K) : WYield P B a w o K := by
  obtain ⟨dst, op', type, pos, after, guard⟩ := o
  simp only [chkWM, Bool.and_eq_true] at hc
  obtain ⟨hd, hc⟩ := hc
  obtain rfl : dst = none := by cases dst <;> simp at hd ⊢
  cases op' <;> simp only [Bool.false_eq_true] at hc
  rename_i t ad v
  simp only [Bool.and_eq_true, bne_iff_ne, ne_eq, beq_iff_eq] at hc
  obtain ⟨⟨⟨hx, hy⟩, ht⟩, hn0⟩ := hc
  obtain ⟨i0, hi0, hsz0⟩ : ∃ i, P.info? t = some i ∧ i.size = n := by
    cases hi : P.info? t with
    | none => simp [hi] at ht
    | some i => exact ⟨i, rfl, by simpa [hi] using ht⟩
  have hrx := chkX_ok h hx
  have hry := chkX_ok h hy
  simp only [wres] at hk
  -- the run
  have hrun : ∀ g off cur T, a.eval ad = .pointer (some ⟨g, off, none⟩) → w.heap[g]? = some (.cells cur T (0, 0)) → (a.eval v).cells.size = n → (∀ j, j < n → ((a.eval v).cells.getD j undef).oneCell' = true) → off + n ≤ cur.size →
      (execOp a.eval ⟨none, .store t ad v, type, pos, after, guard⟩).run P w = .ok .skip (w.setRow g (cur.toList.take off ++ (a.eval v).cells.toList ++ cur.toList.drop (off + (a.eval v).cells.toList.length)).toArray) := by
    intro g off cur T e1 hg hcn h1 hfit
    have hst := run_storeCells_at P g off T (a.eval v).cells.toList 0 cur w hg (by simp [hcn]; omega) (by
      intro u hu
      obtain ⟨j, hj, rfl⟩ := List.getElem_of_mem hu
      have := h1 j (by simpa [hcn] using hj)
      simpa [Array.getD_eq_getD_getElem?, Array.getElem?_eq_getElem (show j < (a.eval v).cells.size by simpa using hj)] using this)
    simp only [Nat.add_zero] at hst
    simp [execOp, Instr.storeAt, Instr.sureAddr, e1, storeVar, sizeOf_run hi0, hsz0, hcn, hst, Result.andThen, pure, Sem.run]
  generalize evX st x = vx at hk hrx
  cases vx <;> (try simp only [stR] at hk) <;> (try exact False.elim hk)
  case optr id i off =>
    split at hk
    · rename_i α T mov fr sz enc xs hob
      obtain ⟨⟨rfl, hnsz, hi, hlen, hsol⟩, e, hq, hK⟩ := hk trivial
      obtain ⟨sz', n', g, cap, hsh, hρ, hin, hoff, e1⟩ := hrx
      have hsz : sz' = sz := by
        have : (ctxOf B st.hp w ρ).sh id = some (sz, xs.length) := by simp [ctxOf, shOf, hob, OB.shape]
        rw [this] at hsh; simp at hsh; exact hsh.1.symm
      subst hsz
      subst hnsz
      obtain ⟨hcs, hcr⟩ := cells_rep hry hsol
      rw [hlen] at hcs
      have hobr := h.hp id _ hob
      obtain ⟨h0, hsl, hmx, hb | ⟨g', cap', cur, hρ', hg, hnc, hcm, hcsz, hrep⟩⟩ := hobr
      · obtain ⟨-, rfl, -⟩ := hb; simp at hi
      · rw [hρ] at hρ'
        simp only [Option.some.injEq, Prod.mk.injEq] at hρ'
        obtain ⟨rfl, rfl⟩ := hρ'
        have hfit : i * n + n ≤ cur.size := by
          rw [hcsz]
          have h1 : (i + 1) * n ≤ cap * n := Nat.mul_le_mul_right _ (by omega)
          rw [Nat.add_mul, Nat.one_mul] at h1; exact h1
        simp only [Nat.add_zero] at e1
        have hr := hrun g (i * n) cur T e1 hg hcs (fun j hj => (hcr j _ (List.getElem?_eq_getElem (by omega))).2) hfit
        have hvl : (a.eval v).cells.toList.length = n := by simpa using hcs
        refine ⟨_, undef, _, _, ρ, hr, .inr ⟨rfl, rfl⟩, ?_, hK⟩
        refine h.turn (w' := w.setRow g _) (ob' := .arr T mov fr n enc (xs.set i e)) hob (by simp [OB.shape]) rfl hρ (by simp [World.setRow]) rfl rfl rfl (fun b hb => setRow_other w g b _ hb) ?_
        intro c hcw hcρ hle
        have he : (enc e).length = n := (fitsL_len hq).trans hlen
        refine ⟨h0, ?_, by simpa using hmx, .inr ⟨g, cap, _, hcρ, by rw [hcw]; exact setRow_heap w g cur _ T _ hg, by simpa using hnc, hcm, ?_, ?_⟩⟩
        · intro z hz
          rcases List.mem_or_eq_of_mem_set hz with hz | rfl
          · exact hsl z hz
          · exact he
        · rw [splice_len _ _ _ (by rw [hvl]; simpa using hfit)]; simpa using hcsz
        · intro k z j u hz hu
          rw [splice_get _ _ _ _ (by rw [hvl]; simpa using hfit), hvl]
          have hj : ∀ q : α, (enc q)[j]? = some u → (enc q).length = n → j < n := fun q hq' hl => by
            have := (List.getElem?_eq_some_iff.1 hq').1; omega
          rw [List.getElem?_set] at hz
          by_cases hik : i = k
          · subst hik
            rw [if_pos rfl, if_pos hi] at hz
            obtain rfl := Option.some.inj hz
            have hjn := hj _ hu he
            rw [if_pos ⟨by omega, by omega⟩]
            obtain ⟨av, hav, hfit'⟩ := fitsL_get hq j u hu
            have := fits_rep hfit' (hcr j av hav).1 (okf_weak B st.hp w ρ)
            rw [show i * n + j - i * n = j by omega, toList_getD]
            exact Le_okf hle fr this
          · rw [if_neg hik] at hz
            have hzl : (enc z).length = n := hsl z (List.mem_of_getElem? hz)
            have hjn := hj _ hu hzl
            rw [if_neg, toList_getD]
            · exact Le_okf hle fr (hrep k z j u hz hu)
            · rintro ⟨h1, h2⟩
              rcases Nat.lt_or_ge i k with hlt | hge
              · have : (i + 1) * n ≤ k * n := Nat.mul_le_mul_right _ (by omega)
                rw [Nat.add_mul] at this; omega
              · have : (k + 1) * n ≤ i * n := Nat.mul_le_mul_right _ (by omega)
                rw [Nat.add_mul] at this; omega
    · exact False.elim hk
  case bptr id off =>
    split at hk
    · rename_i T cs hob
      obtain ⟨⟨hoff, hlen, hsol⟩, hK⟩ := hk trivial
      obtain ⟨n', g, cap, hsh, hρ, e1⟩ := hrx
      obtain ⟨g', cap', cur, hρ', hg, hcsz, hcs⟩ := h.hp id _ hob
      rw [hρ] at hρ'
      simp only [Option.some.injEq, Prod.mk.injEq] at hρ'
      obtain ⟨rfl, rfl⟩ := hρ'
      obtain ⟨hcn, hcr⟩ := cells_rep hry hsol
      rw [hlen] at hcn
      have hfit : off + n ≤ cur.size := by omega
      have hr := hrun g off cur T e1 hg hcn (fun j hj => (hcr j _ (List.getElem?_eq_getElem (by omega))).2) hfit
      have hvl : (a.eval v).cells.toList.length = n := by simpa using hcn
      refine ⟨_, undef, _, _, ρ, hr, .inr ⟨rfl, rfl⟩, ?_, hK⟩
      have hle2 : off + (cellsOf (evX st y)).length ≤ cs.length := by omega
      have hlen2 : (cs.take off ++ cellsOf (evX st y) ++ cs.drop (off + n)).length = cs.length := by
        simp only [List.length_append, List.length_take, List.length_drop]; omega
      refine h.turn (w' := w.setRow g _) (ob' := .blk T (cs.take off ++ cellsOf (evX st y) ++ cs.drop (off + n))) hob (by simp only [OB.shape, hlen2]) rfl hρ (by simp [World.setRow]) rfl rfl rfl (fun b hb => setRow_other w g b _ hb) ?_
      intro c hcw hcρ hle
      refine ⟨g, cap, _, hcρ, by rw [hcw]; exact setRow_heap w g cur _ T _ hg, ?_, ?_⟩
      · rw [splice_len _ _ _ (by rw [hvl]; simpa using hfit), hlen2]; simpa using hcsz
      · intro k u hu
        rw [splice_get _ _ _ _ (by rw [hvl]; simpa using hfit), hvl]
        rw [List.append_assoc] at hu
        by_cases h1 : k < off
        · rw [List.getElem?_append_left (by rw [List.length_take]; omega), List.getElem?_take, if_pos h1] at hu
          rw [if_neg (by omega), toList_getD]
          exact ⟨(hcs k u hu).1.mono hle, (hcs k u hu).2⟩
        · rw [List.getElem?_append_right (by rw [List.length_take]; omega), List.length_take, Nat.min_eq_left (by omega)] at hu
          by_cases h2 : k < off + n
          · rw [List.getElem?_append_left (by omega)] at hu
            rw [if_pos ⟨by omega, h2⟩, toList_getD]
            exact ⟨(hcr _ u hu).1.mono hle, (hcr _ u hu).2⟩
          · rw [List.getElem?_append_right (by omega), List.getElem?_drop] at hu
            rw [if_neg (by omega), toList_getD]
            rw [show off + n + (k - off - (cellsOf (evX st y)).length) = k by omega] at hu
            exact ⟨(hcs k u hu).1.mono hle, (hcs k u hu).2⟩
    · exact False.elim hk

theorem inK_zero (k : IntKind) : inK k 0 := by cases k <;> simp [inK]

theorem chkZ_fit {w : World} {ok : Nat → Prop} {v : Value} {z : ZV} {d : DV} (hc : chkZ v z = true) (hf : z.fit d) : RepD w ok d v := by
  unfold chkZ at hc
  split at hc
  · simp only [Bool.and_eq_true, beq_iff_eq] at hc
    obtain ⟨rfl, rfl⟩ := hc
    cases d <;> simp only [ZV.fit] at hf
    obtain ⟨rfl, rfl⟩ := hf
    exact .int _ _ (inK_zero _)
  · rename_i b
    cases d <;> simp only [ZV.fit] at hf
    subst hf
    obtain rfl : b = false := by simpa using hc
    exact .bool _
  · rename_i s
    cases d <;> simp only [ZV.fit] at hf
    subst hf
    have : s = ⟨#[]⟩ := by
      cases s
      simp only [beq_iff_eq, Array.toList_eq_nil_iff] at hc
      simp [hc]
    subst this
    exact .str _ (by simp [ByteArray.size])
  · cases d <;> simp only [ZV.fit] at hf
    rename_i α sz enc xs
    obtain rfl : xs = [] := List.eq_nil_of_length_eq_zero hf
    exact .ro sz enc [] none 0 (fun _ _ => undef) (by simp) (by simp) (fun h0 => by simp at h0) (fun x hx => by cases hx) (fun i x j u h1 => by simp at h1)
  · cases hc

theorem chkZ_av {c : Ctx} {v : Value} {z : ZV} (hc : chkZ v z = true) : RepC1 c z.av v := by
  unfold chkZ at hc
  split at hc
  · simp only [Bool.and_eq_true, beq_iff_eq] at hc
    obtain ⟨rfl, rfl⟩ := hc
    exact ⟨⟨rfl, inK_zero _⟩, rfl⟩
  · rename_i b
    obtain rfl : b = false := by simpa using hc
    exact ⟨rfl, rfl⟩
  · rename_i s
    have : s = ⟨#[]⟩ := by
      cases s
      simp only [beq_iff_eq, Array.toList_eq_nil_iff] at hc
      simp [hc]
    subst this
    exact ⟨⟨rfl, by simp [ByteArray.size]⟩, rfl⟩
  · exact ⟨rfl, rfl⟩
  · cases hc

theorem chkZs_fit {w : World} {ok : Nat → Prop} : ∀ {vs : List Value} {zs : List ZV} {ds : List DV}, chkZs vs zs = true → zfits zs ds → ds.length = vs.length ∧ ∀ (j : Nat) (d : DV), ds[j]? = some d → RepD w ok d (vs.getD j undef)
  | [], [], [], _, _ => ⟨rfl, fun j d h => by simp at h⟩
  | v :: vs, z :: zs, d :: ds, hc, hf => by
    simp only [chkZs, Bool.and_eq_true] at hc
    obtain ⟨h1, h2⟩ := chkZs_fit (w := w) (ok := ok) hc.2 hf.2
    refine ⟨by simp [h1], fun j d' hj => ?_⟩
    cases j with
    | zero => simp at hj; subst hj; exact chkZ_fit hc.1 hf.1
    | succ j => simpa using h2 j d' (by simpa using hj)
  | [], [], _ :: _, _, hf => hf.elim
  | [], _ :: _, _, hc, _ => by simp [chkZs] at hc
  | _ :: _, [], _, hc, _ => by simp [chkZs] at hc
  | _ :: _, _ :: _, [], _, hf => hf.elim

theorem chkZs_av {c : Ctx} : ∀ {vs : List Value} {zs : List ZV}, chkZs vs zs = true → zs.length = vs.length ∧ ∀ (j : Nat) (u : AV), (zs.map ZV.av)[j]? = some u → RepC1 c u (vs.getD j undef)
  | [], [], _ => ⟨rfl, fun j d h => by simp at h⟩
  | v :: vs, z :: zs, hc => by
    simp only [chkZs, Bool.and_eq_true] at hc
    obtain ⟨h1, h2⟩ := chkZs_av (c := c) hc.2
    refine ⟨by simp [h1], fun j u hj => ?_⟩
    cases j with
    | zero => simp at hj; subst hj; exact chkZ_av hc.1
    | succ j => simpa using h2 j u (by simpa using hj)
  | [], _ :: _, hc => by simp [chkZs] at hc
  | _ :: _, [], hc => by simp [chkZs] at hc

theorem zeroOf_spec {T : TypeId} {sz : Nat} {zs : List ZV} (h : zeroOf P T sz zs = true) : ∃ i z, P.info? T = some i ∧ i.size = sz ∧ i.zero = some z ∧ z.cells.toList.length = sz ∧ chkZs z.cells.toList zs = true := by
  unfold zeroOf at h
  split at h
  · rename_i i hi
    rw [Bool.and_eq_true, beq_iff_eq] at h
    obtain ⟨h1, h2⟩ := h
    split at h2
    · rename_i z hz
      rw [Bool.and_eq_true, beq_iff_eq] at h2
      exact ⟨i, z, hi, h1, hz, h2.1, h2.2⟩
    · cases h2
  · cases h

theorem made_get (z : Array Value) (n sz i j : Nat) (hz : z.size = sz) (hj : j < sz) (hlt : i * sz + j < n) : (madeCells z n).getD (i * sz + j) undef = z.getD j undef := by
  have hm : (i * sz + j) % sz = j := by rw [Nat.add_comm, Nat.add_mul_mod_self_right]; exact Nat.mod_eq_of_lt hj
  rw [Array.getD_eq_getD_getElem?, Array.getElem?_eq_getElem (by rw [size_madeCells]; exact hlt)]
  simp only [madeCells, Array.getElem_map, Array.getElem_range, Option.getD_some, hz, hm]
  rw [Array.getD_eq_getD_getElem?, Array.getElem?_eq_getElem (by omega)]
  simp [getElem!_def, Array.getElem?_eq_getElem (show j < z.size by omega)]

theorem wm_mk {α : Type} (h : RepS B st a w ρ) (T : TypeId) (sz bytes : Nat) (zs : List ZV) (enc : α → List DV) (z : α) (n c : X) (hN : ∀ t, o.dst = some t → t < B.N)
    (hc : chkWM P B.N o (.mk T sz bytes zs enc z n c) = true) (hk : (wres st o.dst (.mk T sz bytes zs enc z n c)).holds o.dst K) : WYield P B a w o K := by
  obtain ⟨dst, op', type, pos, after, guard⟩ := o
  simp only [chkWM] at hc
  cases op' <;> simp only [Bool.false_eq_true] at hc
  rename_i t l k
  simp only [Bool.and_eq_true, bne_iff_ne, ne_eq, beq_iff_eq] at hc
  obtain ⟨⟨⟨⟨⟨hl, hcc⟩, ht⟩, hz⟩, hby⟩, hsz0⟩ := hc
  have hu : P.underlying t = some (.slice T) := by
    split at ht
    · rename_i e he; rw [he]; simp only [beq_iff_eq] at ht; rw [ht]
    · cases ht
  obtain ⟨i, zv, hi, hisz, hiz, hzl, hzs⟩ := zeroOf_spec hz
  have hib : i.bytes = bytes := by simpa [hi] using hby
  cases dst with
  | none => exact False.elim hk
  | some d =>
    simp only [wres] at hk
    generalize en : evX st n = vn at hk
    generalize ec : evX st c = vc at hk
    cases vn <;> (try simp only [mkR] at hk) <;> (try exact False.elim hk)
    cases vc <;> (try simp only [mkR] at hk) <;> (try exact False.elim hk)
    rename_i kn nn kc cc
    obtain ⟨e1, i1⟩ := eval_int h hl en
    obtain ⟨e2, i2⟩ := eval_int h hcc ec
    obtain ⟨⟨n0, nc, hbc, hcm, hzf, hfree⟩, hK⟩ := hk trivial
    have hr := run_make (P := P) w t T i zv hu hi hiz kn kc nn cc n0 nc (by rw [hib]; omega) (by omega)
    refine ⟨_, .slice (some ⟨w.heap.size, 0, none⟩) nn.toNat cc.toNat, w.alloc (.cells (madeCells zv.cells (cc.toNat * i.size)) T), _, upd ρ d (some (w.heap.size, cc.toNat)), ?_, .inl rfl, ?_, hK⟩
    · simp [execOp, e1, e2, hr, Result.andThen, pure, Sem.run]
    · have hobc := h.own (id := d) (hN d rfl) hfree (.cells (madeCells zv.cells (cc.toNat * i.size)) T) cc.toNat (.arr T true true sz enc (List.replicate nn.toNat z)) (by
        intro c hcw hcρ hle
        obtain ⟨hzl2, hzr⟩ := chkZs_fit (w := c.w) (ok := c.okf true) hzs hzf
        have hzc : zv.cells.size = sz := by simpa using hzl
        refine ⟨by omega, ?_, by simp; omega, .inr ⟨w.heap.size, cc.toNat, _, hcρ, by rw [hcw, heap_alloc_get, if_pos rfl], by simp; omega, by unfold maxLen; omega, by rw [size_madeCells, hisz], ?_⟩⟩
        · intro x hx
          obtain rfl := (List.mem_replicate.1 hx).2
          rw [hzl2]; exact hzl
        · intro p x j u hx hu'
          have hp := (List.getElem?_eq_some_iff.1 hx).1
          obtain rfl : x = z := (List.mem_replicate.1 (List.mem_of_getElem? hx)).2
          have hj : j < sz := by
            have := (List.getElem?_eq_some_iff.1 hu').1
            omega
          rw [List.length_replicate] at hp
          rw [hisz, made_get zv.cells _ sz p j hzc hj (mul_add_lt hp (by omega) hj), ← toList_getD]
          exact hzr j u hu')
      exact (hobc.set (d := d) (hN d rfl) (v := .own d 0 nn.toNat true) (x := .slice (some ⟨w.heap.size, 0, none⟩) nn.toNat cc.toNat) (by
        refine ⟨sz, nn.toNat, ?_, by omega, .inr ⟨w.heap.size, cc.toNat, cc.toNat, 0, ?_, rfl, by simp, by omega, by omega, by simp⟩⟩
        · simp [ctxOf, shOf, hget_hset, OB.shape]
        · simp [ctxOf, upd]))

theorem fill_var {cells : Array Value} (d : Nat) (v : AV) (T : TypeId) : True := trivial

theorem wm_box (h : RepS B st a w ρ) (T : TypeId) (n : Nat) (x : X) (hN : ∀ t, o.dst = some t → t < B.N)
    (hc : chkWM P B.N o (.box T n x) = true) (hk : (wres st o.dst (.box T n x)).holds o.dst K) : WYield P B a w o K := by
  obtain ⟨dst, op', type, pos, after, guard⟩ := o
  simp only [chkWM] at hc
  cases op' <;> simp only [Bool.false_eq_true] at hc
  rename_i t v
  simp only [Bool.and_eq_true, beq_iff_eq] at hc
  obtain ⟨hx, rfl⟩ := hc
  cases dst with
  | none => exact False.elim hk
  | some d =>
    simp only [wres, boxR] at hk
    obtain ⟨⟨hfree, hlen, hsol⟩, hK⟩ := hk trivial
    obtain ⟨hcn, hcr⟩ := cells_rep (chkX_ok h hx) hsol
    refine ⟨_, .pointer (some ⟨w.heap.size, 0, none⟩), w.alloc (.cells (a.eval v).cells t), _, upd ρ d (some (w.heap.size, n)), ?_, .inl rfl, ?_, hK⟩
    · simp [execOp, Instr.box, newVar, newRow, newObj, Result.andThen, pure, Sem.run]
    · have hobc := h.own (id := d) (hN d rfl) hfree (.cells (a.eval v).cells t) n (.blk t (cellsOf (evX st x))) (by
        intro c hcw hcρ hle
        exact ⟨w.heap.size, n, _, hcρ, by rw [hcw, heap_alloc_get, if_pos rfl], hcn, fun i u hu => ⟨(hcr i u hu).1.mono hle, (hcr i u hu).2⟩⟩)
      exact hobc.set (d := d) (hN d rfl) (v := .bptr d 0) (x := .pointer (some ⟨w.heap.size, 0, none⟩)) (by
        refine ⟨(cellsOf (evX st x)).length, w.heap.size, n, ?_, ?_, rfl⟩
        · simp [ctxOf, shOf, hget_hset, OB.shape]
        · simp [ctxOf, upd])

theorem wm_al (h : RepS B st a w ρ) (T : TypeId) (zs : List ZV) (hN : ∀ t, o.dst = some t → t < B.N)
    (hc : chkWM P B.N o (.al T zs) = true) (hk : (wres st o.dst (.al T zs)).holds o.dst K) : WYield P B a w o K := by
  obtain ⟨dst, op', type, pos, after, guard⟩ := o
  simp only [chkWM] at hc
  cases op' <;> simp only [Bool.false_eq_true] at hc
  rename_i t
  simp only [Bool.and_eq_true, beq_iff_eq] at hc
  obtain ⟨rfl, hz⟩ := hc
  obtain ⟨i, zv, hi, hisz, hiz, hzl, hzs⟩ := zeroOf_spec hz
  cases dst with
  | none => exact False.elim hk
  | some d =>
    simp only [wres, alR] at hk
    obtain ⟨hfree, hK⟩ := hk trivial
    refine ⟨_, .pointer (some ⟨w.heap.size, 0, none⟩), w.alloc (.cells zv.cells t), _, upd ρ d (some (w.heap.size, zs.length)), ?_, .inl rfl, ?_, hK⟩
    · simp [execOp, Instr.alloc, zeroValue, typeInfo, hi, hiz, newVar, newRow, newObj, Result.andThen, pure, Sem.run]
    · have hobc := h.own (id := d) (hN d rfl) hfree (.cells zv.cells t) zs.length (.blk t (zs.map ZV.av)) (by
        intro c hcw hcρ hle
        obtain ⟨hl, hr⟩ := chkZs_av (c := c) hzs
        refine ⟨w.heap.size, zs.length, _, hcρ, by rw [hcw, heap_alloc_get, if_pos rfl], by rw [List.length_map, hl]; simp, fun i u hu => ?_⟩
        have := hr i u hu
        rwa [toList_getD] at this)
      exact hobc.set (d := d) (hN d rfl) (v := .bptr d 0) (x := .pointer (some ⟨w.heap.size, 0, none⟩)) (by
        refine ⟨(zs.map ZV.av).length, w.heap.size, zs.length, ?_, ?_, rfl⟩
        · simp [ctxOf, shOf, hget_hset, OB.shape]
        · simp [ctxOf, upd])

end
end Go.Vc
