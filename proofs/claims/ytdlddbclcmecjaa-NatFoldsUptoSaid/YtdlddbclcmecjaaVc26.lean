/-
  Vc26: a law's frame where what is handed in is small (the statement's own bound).
-/
import Derived.Test.YtdlddbclcmecjaaRows
import Derived.Test.YtdlddbclcmecjaaVc24
import Derived.Deep.CondSized
set_option linter.unusedVariables false
set_option linter.unusedSimpArgs false
namespace Go.Vc
open Go Go.ChangeShapes Go.WideShapes Go.ChangeAt Go.RowKit
open Go.Proofs.Ytdlddbclcmecjaa

theorem bulk_one {H : Type} (d : DataW H) : 1 ≤ Rows.uptoBulk d := by
  cases d with
  | lit l => cases l <;> simp [Rows.uptoBulk]
  | nil => simp [Rows.uptoBulk]
  | ptr d => simp [Rows.uptoBulk]
  | slice elems spare => simp [Rows.uptoBulk]
  | agg parts => simp [Rows.uptoBulk]
  | iface t d => simp [Rows.uptoBulk]
  | map entries => simp [Rows.uptoBulk]
  | held h => simp [Rows.uptoBulk]
theorem bulk_part {H : Type} {d : DataW H} {l : List (DataW H)} (h : d ∈ l) : Rows.uptoBulk d ≤ Rows.uptoBulkAll l := by
  induction l with
  | nil => cases h
  | cons x r ih =>
    simp only [Rows.uptoBulkAll]
    rcases List.mem_cons.1 h with e | e
    · subst e; omega
    · have := ih e; omega
theorem bulk_len {H : Type} (l : List (DataW H)) : l.length ≤ Rows.uptoBulkAll l := by
  induction l with
  | nil => simp [Rows.uptoBulkAll]
  | cons x r ih => have := bulk_one x; simp only [Rows.uptoBulkAll, List.length_cons]; omega
theorem elems_le {H : Type} (el sp : List (DataW H)) {n : Nat} (h : Rows.uptoBulk (.slice el sp) ≤ n) : el.length ≤ n ∧ ∀ y, y ∈ el → Rows.uptoBulk y ≤ n := by
  simp only [Rows.uptoBulk] at h
  have h1 := bulk_len el
  exact ⟨by omega, fun y hy => by have := bulk_part hy; omega⟩

def RdB (P : Program) (w : World) (t : TypeId) {α : Type} (sz : Nat) (enc : α → List DV) (wt : α → Prop) : Prop :=
  ∀ {H : Type} {encH : TypeId × Value → H} (fuel : Nat) (cs : List Value) (d : DataW H × List MemPlace), DataW.trod encH P w 0 (fun _ => true) true fuel t cs = some d →
    (d.1.weights P t).all (· ≤ reachBytes) = true → Rows.uptoBulk d.1 ≤ 1048576 → cs.length = sz ∧ ∃ x : α, (enc x).length = sz ∧ (∀ j u, (enc x)[j]? = some u → RepD w (fun b => b < w.heap.size) u (cs.getD j undef)) ∧ wt x

section
variable {P : Program} {w : World}

theorem RdB.of {t : TypeId} {α : Type} {sz : Nat} {enc : α → List DV} {wt : α → Prop} (h : Rd P w t sz enc wt) : RdB P w t sz enc wt := fun fuel cs d h1 h2 _ => h fuel cs d h1 h2

theorem rdB_slice {t e : TypeId} {α : Type} {sz : Nat} {enc : α → List DV} {wt : α → Prop} (ht : P.underlying t = some (.slice e)) (hc : P.cellsOf e = sz) (h0 : 0 < sz) (hby : 0 < P.bytesOf e) (he : RdB P w e sz enc wt) :
    RdB P w t 1 (encR sz enc) (fun xs => (xs.length * P.bytesOf e ≤ reachBytes ∧ xs.length ≤ 1048576) ∧ ∀ x, x ∈ xs → wt x) := fun fuel cs d h hwt hbk => by
  rcases DataW.trod_slice ht h with ⟨rfl, rfl⟩ | ⟨a, len, cap, elems, rest, n, rfl, rfl, rfl, hb, hl, hm, hlen, hel, _, _⟩
  · refine ⟨rfl, [], rfl, fun j u hj => ?_, by simp, fun x hx => by cases hx⟩
    cases j with
    | zero => simp [encR] at hj; subst hj; exact nil_rep rfl
    | succ j => simp [encR] at hj
  · subst hc
    have hw' : ((elems.map (·.1)).length + (rest.map (·.1)).length) * P.bytesOf e ≤ reachBytes ∧ (∀ y, y ∈ elems → (y.1.weights P e).all (· ≤ reachBytes) = true) := by
      have h2 := List.all_eq_true.1 hwt
      refine ⟨by simpa using h2 _ (by simp [DataW.weights, ht]), fun y hy => List.all_eq_true.2 fun n hn => h2 n ?_⟩
      simp only [DataW.weights, ht, List.mem_cons, List.mem_append]
      exact .inr (.inl (weightsAll_mem (List.mem_map_of_mem hy) n hn))
    have hb1 := elems_le (elems.map (·.1)) (rest.map (·.1)) hbk
    have hb2 : ∀ y, y ∈ elems → Rows.uptoBulk y.1 ≤ 1048576 := fun y hy => hb1.2 _ (List.mem_map_of_mem hy)
    have hb3 : len ≤ 1048576 := by have := hb1.1; simpa [hlen] using this
    have h3 : len * P.bytesOf e ≤ reachBytes := Nat.le_trans (Nat.mul_le_mul_right _ (by simp [hlen])) hw'.1
    have hlm : len ≤ 281474976710656 := by
      have h4 : len * 1 ≤ len * P.bytesOf e := Nat.mul_le_mul_left _ hby
      have := reach_le
      omega
    have each : ∀ i : Fin len, ∃ (cs : List Value) (y : DataW _ × List MemPlace), elems[i.1]? = some y ∧ w.cells? 0 (a.add (i.1 * P.cellsOf e)) (P.cellsOf e) = some cs ∧
        ∃ x : α, (enc x).length = P.cellsOf e ∧ (∀ j u, (enc x)[j]? = some u → RepD w (fun b => b < w.heap.size) u (cs.getD j undef)) ∧ wt x := fun i => by
      have h1 := hel i.1 i.2
      have h2 : elems[i.1]? = some (elems[i.1]'(by omega)) := List.getElem?_eq_getElem (by omega)
      rw [h2, Option.bind_eq_some_iff] at h1
      obtain ⟨cs, hcs, ht⟩ := h1
      obtain ⟨_, x, hx⟩ := he _ _ _ ht (hw'.2 _ (List.mem_of_getElem? h2)) (hb2 _ (List.mem_of_getElem? h2))
      exact ⟨cs, _, h2, hcs, x, hx⟩
    let X : Fin len → α := fun i => Classical.choose (Classical.choose_spec (Classical.choose_spec (each i))).2.2
    refine ⟨rfl, List.ofFn X, rfl, fun j u hj => ?_, ?_, fun x hx => ?_⟩
    · have hj0 : j = 0 ∧ u = .ro (P.cellsOf e) enc (List.ofFn X) := by
        cases j with
        | zero => simp [encR] at hj; exact ⟨rfl, hj.symm⟩
        | succ j => simp [encR] at hj
      obtain ⟨rfl, rfl⟩ := hj0
      have hl0 : (List.ofFn X).length = len := List.length_ofFn
      have hcell : ∀ i j, i < len → j < P.cellsOf e → ∃ v, w.cell? ((a.add (i * P.cellsOf e)).add j) = some v := fun i j hi hj => by
        obtain ⟨cs, y, _, hcs, _⟩ := each ⟨i, hi⟩
        obtain ⟨_, hl, hg⟩ := World.cells?_some hcs
        rw [hg j hj]
        exact ⟨cs[j]'(by omega), List.getElem?_eq_getElem (by omega)⟩
      have hrep : RepD w (fun b => b < w.heap.size) (.ro (P.cellsOf e) enc (List.ofFn X)) (.slice (some a) (List.ofFn X).length cap) := by
        refine .ro (P.cellsOf e) enc (List.ofFn X) (some a) cap (fun i j => (w.cell? ⟨a.block, a.off + i * P.cellsOf e + j, none⟩).getD undef) (by rw [hl0]; exact hl) (by rw [hl0]; exact hlm) (fun hpos => ?_) (fun x hx => ?_) (fun i x j u hx hu => ?_)
        · rw [hl0] at hpos
          obtain ⟨v, hv⟩ := hcell 0 0 hpos h0
          have hv : w.cell? a = some v := by simpa [Addr.add] using hv
          obtain ⟨hs, hbk⟩ := spot_none hv
          refine ⟨a.block, a.off, by rw [← hs], hbk, fun i j hi hj => ?_⟩
          rw [hl0] at hi
          obtain ⟨v, hv⟩ := hcell i j hi hj
          have ea : a = ⟨a.block, a.off, none⟩ := by rw [← hs]
          rw [ea, Go.WideShapes.add_plain, Go.WideShapes.add_plain] at hv
          rw [hv]; rfl
        · obtain ⟨i, rfl⟩ := List.mem_ofFn.1 hx
          exact (Classical.choose_spec (Classical.choose_spec (Classical.choose_spec (each i))).2.2).1
        · have hi : i < len := by have := (get_of_some hx).1; omega
          have ex : x = X ⟨i, hi⟩ := by
            rw [List.getElem?_ofFn] at hx; simp [hi] at hx; exact hx.symm
          subst ex
          have hsp := Classical.choose_spec (Classical.choose_spec (each ⟨i, hi⟩))
          have hX := Classical.choose_spec hsp.2.2
          have hju : j < P.cellsOf e := by rw [← hX.1]; exact (List.getElem?_eq_some_iff.1 hu).1
          have hr := hX.2.1 j u hu
          obtain ⟨_, hl', hg⟩ := World.cells?_some hsp.2.1
          have h1 := hg j hju
          have hpos : 0 < len := by omega
          obtain ⟨v, hv⟩ := hcell 0 0 hpos h0
          have hv : w.cell? a = some v := by simpa [Addr.add] using hv
          obtain ⟨hs, hbk⟩ := spot_none hv
          have ea : a = ⟨a.block, a.off, none⟩ := by rw [← hs]
          have h2 : (a.add (i * P.cellsOf e)).add j = ⟨a.block, a.off + i * P.cellsOf e + j, none⟩ := by
            conv => lhs; rw [ea]
            rw [Go.WideShapes.add_plain, Go.WideShapes.add_plain]
          show RepD w _ u ((w.cell? ⟨a.block, a.off + i * P.cellsOf e + j, none⟩).getD undef)
          rw [← h2]
          have h1 : w.cell? ((a.add (i * P.cellsOf e)).add j) = _ := h1
          rw [h1]
          rwa [List.getD] at hr
      rw [hl0] at hrep
      exact hrep
    · rw [List.length_ofFn]; exact ⟨h3, hb3⟩
    · obtain ⟨i, rfl⟩ := List.mem_ofFn.1 hx
      exact (Classical.choose_spec (Classical.choose_spec (Classical.choose_spec (each i))).2.2).2.2


theorem inB_slice {H : Type} {enc : TypeId × Value → H} {t e : TypeId} {α : Type} {sz : Nat} {en : α → List DV} {wt : List α → Prop} {v : Value} {d : DataW H} {ps : List MemPlace} (ht : P.underlying t = some (.slice e)) (hr : RdB P w t 1 (encR sz en) wt)
    (hv : Value.okWide P w .any 0 t v) (h : DataW.Trod enc P w 0 (fun _ => true) true t v d ps) (hw : (d.weights P t).all (· ≤ reachBytes) = true) (hb : Rows.uptoBulk d ≤ 1048576) : ∃ xs, RepV (inCtx w) (.ro false sz en xs) v ∧ wt xs := by
  obtain ⟨fuel, hf⟩ := h
  have hc : v.cells.toList = [v] := by
    simp only [Value.okWide, ht, Cell.okWide] at hv
    cases v <;> simp_all [Cell.ok, Value.cells]
  rw [hc] at hf
  obtain ⟨_, xs, h1, h2, h3⟩ := hr fuel _ _ hf hw hb
  exact ⟨xs, inRep (fr := false) (h2 0 _ rfl), h3⟩

end

/-- What a law's statement asks of one call. -/
theorem law_lifted_upto {C : Checked} {os : Os} {f : FuncId} {fn : Func} {s : ChangeSpec} {F : Stop.Interp} {tb : TypeId} {H : Type} {enc : TypeId × Value → H}
    (own : ownKnob C.prog.godebug = none) (started : os.Started) (noInit : C.prog.inits.idxOf? f = none) (hfn : C.prog.funcs[f]? = some fn)
    (witness : ∃ (w : World) (tape : Tape) (i : Input), w.os = os ∧ (w.forCall tape i).Shaped C.prog ∧ i.vars = [] ∧ Input.okWide C.prog (w.forCall tape i) .any w.heap.size f i ∧
      (Rows.OpenSpec.upto s).pre6 enc C.prog fn [] false (w.forCall tape i).memory i.args ∧ ({} : Assume).holds C.prog (lone (Frame.enter C.prog f i.args .normal) [] (w.forCall tape i)))
    (hl : laidOutB C.prog = true) (ht : ∀ t, t ∈ fn.params.toList → C.prog.readableRec t = true ∧ t < C.prog.types.size)
    (hvars : s.vars = []) (hspec : ∀ ds : List (DataW H), ds.length = fn.params.size → s.fn H ds = { results := [.lit (.bool true)], args := ds })
    (hres : fn.resultTypes = #[tb]) (htb : C.prog.underlying tb = some .bool)
    (contract : ∀ (w : World) (args : Array Value) (ds : List (DataW H)) (p : List MemPlace), (∀ (j : Nat) t v, fn.params[j]? = some t → args[j]? = some v → Value.okWide C.prog w .any 0 t v) →
      DataW.TrodAll enc C.prog w 0 (fun _ => true) true fn.params.toList args.toList ds p → (DataW.weightsEach C.prog fn.params.toList ds).all (· ≤ reachBytes) = true → Rows.uptoBulkAll ds ≤ 1048576 →
      ∃ avs : List AV, FSpec0 C.prog f avs (fun r => r = .bool true) ∧ args.size = avs.length ∧ ∀ i v, avs[i]? = some v → RepV (inCtx w) v (args.getD i undef)) :
    ReturnsInHanded {} C os f .any ((Rows.OpenSpec.upto s).pre6 enc C.prog fn [] false) (((Rows.OpenSpec.upto s).at F).post enc C.prog fn false true false false) := by
  refine returnsInHanded_of_cond_sized (s := Rows.OpenSpec.upto s) (k := Rows.uptoSmall) rfl own started noInit hfn witness ?_
  intro W base args ds gs before hval hW _ hkk hsz _
  have hW : DataW.Whole enc C.prog fn.params.toList s.vars false W args.toList ds gs before := hW
  have hW' := hW
  obtain ⟨p, q, hA, hV, rfl, hfz, _⟩ := hW
  rw [hvars] at hV
  obtain ⟨rfl, rfl⟩ : gs = [] ∧ q = [] := by
    cases gs with
    | nil => exact ⟨rfl, hV⟩
    | cons _ _ => exact hV.elim
  have hlen : ds.length = fn.params.size := by
    have key : ∀ (ts : List TypeId) (vs : List Value) (ds : List (DataW H)) (p : List MemPlace), DataW.TrodAll enc C.prog W 0 (fun _ => true) true ts vs ds p → ds.length = ts.length := by
      intro ts
      induction ts with
      | nil => intro vs ds p h; cases vs <;> cases ds <;> first | rfl | exact h.elim
      | cons t ts ih =>
        intro vs ds p h
        cases vs <;> cases ds <;> try exact h.elim
        obtain ⟨_, _, _, h2, _⟩ := h
        simp [ih _ _ _ h2]
    simpa using key _ _ _ _ hA
  have hsz' : (DataW.weightsEach C.prog fn.params.toList ds).all (· ≤ reachBytes) = true := by
    have e : (Rows.OpenSpec.upto s).bare.plain.varTypes C.prog = [] := by simp [Rows.OpenSpec.upto, OpenSpec.ofChange, OpenSpec.bare, ChangeSpec.plain, DataSpec.varTypes, hvars]
    simpa [e] using hsz
  obtain ⟨avs, hs, hsize, hrep⟩ := contract W args ds p (fun j t v h1 h2 => Value.okWide_any_base (hval j t v h1 h2)) hA hsz' (by rw [List.append_nil] at hkk; exact of_decide_eq_true hkk)
  have hlt : ∀ x ∈ p, x.block < W.heap.size := fun x hx => hW'.lt x (by simpa using hx)
  refine (hs W (fun _ => False) (fun _ => none) args ⟨hsize, hrep, fun i j g c d hi => absurd rfl hi, fun i g c hi => absurd rfl hi, fun i ob hi => by cases hi⟩).mono ?_
  rintro e W' ⟨r, hp', x, ρ', rfl, ⟨rfl, rfl⟩, hb⟩
  have hx : x = .bool true := hb.rep
  subst hx
  have hg := grown_of_ext no_owned hb.ext
  have e0 : ((Rows.OpenSpec.upto s).at F).fn H ds = { results := [.lit (.bool true)], args := ds } := hspec ds hlen
  have hv0 : ((Rows.OpenSpec.upto s).at F).vars = [] := hvars
  refine ⟨_, rfl, post_of_same (pa := p) (pv := []) hW' (fun b sp hd => ?_) (fun sp hsp => ?_) (fun _ _ => ?_) rfl (hg.frame _) hg.2.1 (ok_one hres rfl (okWide_bool_mk htb _))⟩
  · rw [List.append_nil, e0, hres]
    exact ⟨[], [], shut_bool htb _, rfl, rfl⟩
  · rw [List.append_nil, e0]
    exact all_stays hl ht hA (fun x hx => sameAt_of no_owned hb.ext (hlt x hx)) (fun x hx => hsp x (by simpa using hx))
  · rw [List.append_nil, e0, hv0]; rfl

end Go.Vc
