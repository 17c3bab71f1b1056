/-
  Vc23: what reads as data reads as an abstract value; a statement's frame.
-/
import Derived.Test.YtdlddbclcmecjaaDoorVc22
import Derived.SizedLaws
import Derived.ChangeArms
import Derived.WideShapes
set_option linter.unusedVariables false
set_option linter.unusedSimpArgs false
namespace Go.Vc
open Go

/-- Whatever reads at type 't' is one of 'enc'; 'wt': what the reach gives. -/
def Rd (P : Program) (w : World) (t : TypeId) {α : Type} (sz : Nat) (enc : α → List DV) (wt : α → Prop) : Prop :=
  ∀ {H : Type} {encH : TypeId × Value → H} (fuel : Nat) (cs : List Value) (d : DataW H × List MemPlace), DataW.trod encH P w 0 (fun _ => true) true fuel t cs = some d →
    (d.1.weights P t).all (· ≤ reachBytes) = true → cs.length = sz ∧ ∃ x : α, (enc x).length = sz ∧ (∀ j u, (enc x)[j]? = some u → RepD w (fun b => b < w.heap.size) u (cs.getD j undef)) ∧ wt x

section
variable {P : Program} {w : World}

theorem reach_le : reachBytes ≤ 140737488351232 := by decide

theorem rd_int {t : TypeId} {k : IntKind} (ht : P.underlying t = some (.int k)) : Rd P w t 1 (encI k) (fun _ => True) := fun fuel cs d h hwt => by
  obtain ⟨n, rfl, rfl, hw⟩ := DataW.trod_int ht h
  refine ⟨rfl, n, rfl, fun j u hj => ?_, trivial⟩
  cases j with
  | zero => simp [encI] at hj; subst hj; exact .int k n (inK_of_wf hw)
  | succ j => simp [encI] at hj
theorem rd_bool {t : TypeId} (ht : P.underlying t = some .bool) : Rd P w t 1 encB (fun _ => True) := fun fuel cs d h hwt => by
  obtain ⟨b, rfl, rfl⟩ := DataW.trod_bool ht h
  refine ⟨rfl, b, rfl, fun j u hj => ?_, trivial⟩
  cases j with
  | zero => simp [encB] at hj; subst hj; exact .bool b
  | succ j => simp [encB] at hj
theorem rd_str {t : TypeId} (ht : P.underlying t = some .string) : Rd P w t 1 encS (fun s => s.size ≤ reachBytes) := fun fuel cs d h hwt => by
  obtain ⟨s, rfl, rfl, hm⟩ := DataW.trod_string ht h
  have hw : s.size ≤ reachBytes := by simpa [DataW.weights] using hwt
  refine ⟨rfl, s, rfl, fun j u hj => ?_, hw⟩
  cases j with
  | zero => simp [encS] at hj; subst hj; exact .str s (by have := reach_le; omega)
  | succ j => simp [encS] at hj

theorem spot_none {a : Addr} {v : Value} (h : w.cell? a = some v) : a.spot = none ∧ a.block < w.heap.size := by
  unfold World.cell? at h
  split at h
  · rename_i c _ _ hb
    refine ⟨?_, (Array.getElem?_eq_some_iff.1 hb).1⟩
    cases hs : a.spot with
    | none => rfl
    | some s => rw [hs] at h; simp at h
  · cases h

theorem weightsAll_mem {H : Type} {e : TypeId} : ∀ {ds : List (DataW H)} {d : DataW H}, d ∈ ds → ∀ n ∈ d.weights P e, n ∈ DataW.weightsAll P e ds
  | d0 :: ds, d, hd, n, hn => by
    simp only [DataW.weightsAll, List.mem_append]
    rcases List.mem_cons.1 hd with rfl | hd
    · exact .inl hn
    · exact .inr (weightsAll_mem hd n hn)
  | [], _, hd, _, _ => by cases hd

theorem rd_slice {t e : TypeId} {α : Type} {sz : Nat} {enc : α → List DV} {wt : α → Prop} (ht : P.underlying t = some (.slice e)) (hc : P.cellsOf e = sz) (h0 : 0 < sz) (hby : 0 < P.bytesOf e) (he : Rd P w e sz enc wt) :
    Rd P w t 1 (encR sz enc) (fun xs => xs.length * P.bytesOf e ≤ reachBytes ∧ ∀ x, x ∈ xs → wt x) := fun fuel cs d h hwt => by
  rcases DataW.trod_slice ht h with ⟨rfl, rfl⟩ | ⟨a, len, cap, elems, rest, n, rfl, rfl, rfl, hb, hl, hm, hlen, hel, _, _⟩
  · refine ⟨rfl, [], rfl, fun j u hj => ?_, by simp, fun x hx => by cases hx⟩
    cases j with
    | zero => simp [encR] at hj; subst hj; exact nil_rep rfl
    | succ j => simp [encR] at hj
  · subst hc
    have hw' : ((elems.map (·.1)).length + (rest.map (·.1)).length) * P.bytesOf e ≤ reachBytes ∧ (∀ y, y ∈ elems → (y.1.weights P e).all (· ≤ reachBytes) = true) := by
      have h2 := List.all_eq_true.1 hwt
      refine ⟨by simpa using h2 _ (by simp [DataW.weights, ht]), fun y hy => List.all_eq_true.2 fun n hn => h2 n ?_⟩
      simp only [DataW.weights, ht, List.mem_cons, List.mem_append]
      exact .inr (.inl (weightsAll_mem (List.mem_map_of_mem hy) n hn))
    have h3 : len * P.bytesOf e ≤ reachBytes := Nat.le_trans (Nat.mul_le_mul_right _ (by simp [hlen])) hw'.1
    have hlm : len ≤ 281474976710656 := by
      have h4 : len * 1 ≤ len * P.bytesOf e := Nat.mul_le_mul_left _ hby
      have := reach_le
      omega
    have each : ∀ i : Fin len, ∃ (cs : List Value) (y : DataW _ × List MemPlace), elems[i.1]? = some y ∧ w.cells? 0 (a.add (i.1 * P.cellsOf e)) (P.cellsOf e) = some cs ∧
        ∃ x : α, (enc x).length = P.cellsOf e ∧ (∀ j u, (enc x)[j]? = some u → RepD w (fun b => b < w.heap.size) u (cs.getD j undef)) ∧ wt x := fun i => by
      have h1 := hel i.1 i.2
      have h2 : elems[i.1]? = some (elems[i.1]'(by omega)) := List.getElem?_eq_getElem (by omega)
      rw [h2, Option.bind_eq_some_iff] at h1
      obtain ⟨cs, hcs, ht⟩ := h1
      obtain ⟨_, x, hx⟩ := he _ _ _ ht (hw'.2 _ (List.mem_of_getElem? h2))
      exact ⟨cs, _, h2, hcs, x, hx⟩
    let X : Fin len → α := fun i => Classical.choose (Classical.choose_spec (Classical.choose_spec (each i))).2.2
    refine ⟨rfl, List.ofFn X, rfl, fun j u hj => ?_, ?_, fun x hx => ?_⟩
    · have hj0 : j = 0 ∧ u = .ro (P.cellsOf e) enc (List.ofFn X) := by
        cases j with
        | zero => simp [encR] at hj; exact ⟨rfl, hj.symm⟩
        | succ j => simp [encR] at hj
      obtain ⟨rfl, rfl⟩ := hj0
      have hl0 : (List.ofFn X).length = len := List.length_ofFn
      have hcell : ∀ i j, i < len → j < P.cellsOf e → ∃ v, w.cell? ((a.add (i * P.cellsOf e)).add j) = some v := fun i j hi hj => by
        obtain ⟨cs, y, _, hcs, _⟩ := each ⟨i, hi⟩
        obtain ⟨_, hl, hg⟩ := World.cells?_some hcs
        rw [hg j hj]
        exact ⟨cs[j]'(by omega), List.getElem?_eq_getElem (by omega)⟩
      have hrep : RepD w (fun b => b < w.heap.size) (.ro (P.cellsOf e) enc (List.ofFn X)) (.slice (some a) (List.ofFn X).length cap) := by
        refine .ro (P.cellsOf e) enc (List.ofFn X) (some a) cap (fun i j => (w.cell? ⟨a.block, a.off + i * P.cellsOf e + j, none⟩).getD undef) (by rw [hl0]; exact hl) (by rw [hl0]; exact hlm) (fun hpos => ?_) (fun x hx => ?_) (fun i x j u hx hu => ?_)
        · rw [hl0] at hpos
          obtain ⟨v, hv⟩ := hcell 0 0 hpos h0
          have hv : w.cell? a = some v := by simpa [Addr.add] using hv
          obtain ⟨hs, hbk⟩ := spot_none hv
          refine ⟨a.block, a.off, by rw [← hs], hbk, fun i j hi hj => ?_⟩
          rw [hl0] at hi
          obtain ⟨v, hv⟩ := hcell i j hi hj
          have ea : a = ⟨a.block, a.off, none⟩ := by rw [← hs]
          rw [ea, Go.WideShapes.add_plain, Go.WideShapes.add_plain] at hv
          rw [hv]; rfl
        · obtain ⟨i, rfl⟩ := List.mem_ofFn.1 hx
          exact (Classical.choose_spec (Classical.choose_spec (Classical.choose_spec (each i))).2.2).1
        · have hi : i < len := by have := (get_of_some hx).1; omega
          have ex : x = X ⟨i, hi⟩ := by
            rw [List.getElem?_ofFn] at hx; simp [hi] at hx; exact hx.symm
          subst ex
          have hsp := Classical.choose_spec (Classical.choose_spec (each ⟨i, hi⟩))
          have hX := Classical.choose_spec hsp.2.2
          have hju : j < P.cellsOf e := by rw [← hX.1]; exact (List.getElem?_eq_some_iff.1 hu).1
          have hr := hX.2.1 j u hu
          obtain ⟨_, hl', hg⟩ := World.cells?_some hsp.2.1
          have h1 := hg j hju
          have hpos : 0 < len := by omega
          obtain ⟨v, hv⟩ := hcell 0 0 hpos h0
          have hv : w.cell? a = some v := by simpa [Addr.add] using hv
          obtain ⟨hs, hbk⟩ := spot_none hv
          have ea : a = ⟨a.block, a.off, none⟩ := by rw [← hs]
          have h2 : (a.add (i * P.cellsOf e)).add j = ⟨a.block, a.off + i * P.cellsOf e + j, none⟩ := by
            conv => lhs; rw [ea]
            rw [Go.WideShapes.add_plain, Go.WideShapes.add_plain]
          show RepD w _ u ((w.cell? ⟨a.block, a.off + i * P.cellsOf e + j, none⟩).getD undef)
          rw [← h2]
          have h1 : w.cell? ((a.add (i * P.cellsOf e)).add j) = _ := h1
          rw [h1]
          rwa [List.getD] at hr
      rw [hl0] at hrep
      exact hrep
    · rw [List.length_ofFn]; exact h3
    · obtain ⟨i, rfl⟩ := List.mem_ofFn.1 hx
      exact (Classical.choose_spec (Classical.choose_spec (Classical.choose_spec (each i))).2.2).2.2

end
end Go.Vc
