/-
  Vc24: a law's frame: what is handed in reads as lists and numbers; behind the call it reads as before.
-/
import Derived.Test.YtdlddbclcmecjaaDoorVc23
import Derived.WideKeyArgs
import Derived.ChangeSame
import Derived.ProofKit
import Derived.OpenShut
set_option linter.unusedVariables false
set_option linter.unusedSimpArgs false
namespace Go.Vc
open Go Go.ChangeShapes Go.WideShapes Go.ChangeAt Go.RowKit

section
variable {P : Program} {w : World} {H : Type} {enc : TypeId × Value → H}

theorem inRep {fr : Bool} {α : Type} {sz : Nat} {e : α → List DV} {xs : List α} {v : Value} (h : RepD w (fun b => b < w.heap.size) (.ro sz e xs) v) : RepV (inCtx w) (.ro false sz e xs) v :=
  show RepD w _ _ v from h.ok_imp fun b hb => ⟨hb, no_owned b, fun e => by cases e⟩

theorem in_slice {t e : TypeId} {α : Type} {sz : Nat} {en : α → List DV} {wt : List α → Prop} {v : Value} {d : DataW H} {ps : List MemPlace} (ht : P.underlying t = some (.slice e)) (hr : Rd P w t 1 (encR sz en) wt)
    (hv : Value.okWide P w .any 0 t v) (h : DataW.Trod enc P w 0 (fun _ => true) true t v d ps) (hw : (d.weights P t).all (· ≤ reachBytes) = true) : ∃ xs, RepV (inCtx w) (.ro false sz en xs) v ∧ wt xs := by
  obtain ⟨fuel, hf⟩ := h
  have hc : v.cells.toList = [v] := by
    simp only [Value.okWide, ht, Cell.okWide] at hv
    cases v <;> simp_all [Cell.ok, Value.cells]
  rw [hc] at hf
  obtain ⟨_, xs, h1, h2, h3⟩ := hr fuel _ _ hf hw
  exact ⟨xs, inRep (fr := false) (h2 0 _ rfl), h3⟩
theorem in_str {t : TypeId} {v : Value} {d : DataW H} {ps : List MemPlace} (ht : P.underlying t = some .string)
    (hv : Value.okWide P w .any 0 t v) (h : DataW.Trod enc P w 0 (fun _ => true) true t v d ps) (hw : (d.weights P t).all (· ≤ reachBytes) = true) : ∃ s : ByteArray, RepV (inCtx w) (.str s) v ∧ s.size ≤ reachBytes := by
  obtain ⟨fuel, hf⟩ := h
  obtain ⟨s, hc, hd, hm⟩ := DataW.trod_string ht hf
  obtain ⟨rfl, rfl⟩ := Prod.mk.inj hd
  have hs : v = .string s := by
    simp only [Value.okWide, ht, Cell.okWide] at hv
    cases v <;> simp_all [Cell.ok, Value.cells]
  subst hs
  have hw' : s.size ≤ reachBytes := by simpa [DataW.weights] using hw
  exact ⟨s, ⟨rfl, by have := reach_le; omega⟩, hw'⟩
theorem in_int {t : TypeId} {k : IntKind} {v : Value} {d : DataW H} {ps : List MemPlace} (ht : P.underlying t = some (.int k))
    (hv : Value.okWide P w .any 0 t v) (h : DataW.Trod enc P w 0 (fun _ => true) true t v d ps) : ∃ n : Int, RepV (inCtx w) (.int k n) v ∧ inK k n := by
  obtain ⟨n, rfl, _, _, hw⟩ := open_int ht hv h
  exact ⟨n, ⟨rfl, inK_of_wf hw⟩, inK_of_wf hw⟩

theorem sameAt_of {bor : Nat → Prop} {w' : World} (hb : ∀ b, ¬ bor b) (h : Ext bor w w') {p : MemPlace} (hp : p.block < w.heap.size) : w.sameAt w' p := by
  have e := h.block p.block hp (hb _)
  cases p with
  | cell b off => exact World.cell?_of_block e
  | map b => exact e

theorem all_stays (hl : laidOutB P = true) : ∀ {ts : List TypeId}, (∀ t, t ∈ ts → P.readableRec t = true ∧ t < P.types.size) → ∀ {vs : List Value} {ds : List (DataW H)} {ps : List MemPlace} {w' : World} {sp : Nat → Bool},
    DataW.TrodAll enc P w 0 (fun _ => true) true ts vs ds ps → (∀ p, p ∈ ps → w.sameAt w' p) → (∀ p, p ∈ ps → sp p.block = true) → DataW.TrodAll enc P w' 0 sp true ts vs ds ps
  | [], _, [], [], _, _, _, h, _, _ => h
  | [], _, _ :: _, _, _, _, _, h, _, _ => h.elim
  | [], _, [], _ :: _, _, _, _, h, _, _ => h.elim
  | _ :: _, _, [], _, _, _, _, h, _, _ => h.elim
  | _ :: _, _, _ :: _, [], _, _, _, h, _, _ => h.elim
  | t :: ts, ht, v :: vs, d :: ds, ps, _, _, ⟨p, q, h1, h2, e⟩, hs, hp => by
    subst e
    exact ⟨p, q, Go.WideElems.Trod_stays hl (ht t (by simp)).1 (ht t (by simp)).2 h1 (fun x hx => hs x (by simp [hx])) (fun x hx => hp x (by simp [hx])),
      all_stays hl (fun t' h' => ht t' (by simp [h'])) h2 (fun x hx => hs x (by simp [hx])) (fun x hx => hp x (by simp [hx])), rfl⟩

end

theorem un_neg (k : IntKind) (n : Int) : unR .neg (.int k n) = arith k (0 - n) := rfl

theorem csI (xs : List Int) : (∀ x, x ∈ xs → isB (encI .u8 x) = true) = True := by simp [isB, encI]
theorem strI (xs : List Int) : strOfDV (xs.map (encI .u8)) = strOfNums xs := by
  simp only [strOfDV, strOfNums, List.map_map]; rfl
theorem str_inj {xs ys : List Int} (hx : ∀ x, x ∈ xs → 0 ≤ x ∧ x < 256) (hy : ∀ x, x ∈ ys → 0 ≤ x ∧ x < 256) : strOfNums xs = strOfNums ys ↔ xs = ys := by
  constructor
  · intro h
    have h1 : xs.map (fun n => UInt8.ofNat n.toNat) = ys.map (fun n => UInt8.ofNat n.toNat) := by
      have := congrArg (fun s : ByteArray => s.data.toList) h
      simpa [strOfNums] using this
    clear h
    induction xs generalizing ys with
    | nil => cases ys with
      | nil => rfl
      | cons y ys => simp at h1
    | cons x xs ih => cases ys with
      | nil => simp at h1
      | cons y ys =>
        simp only [List.map_cons, List.cons.injEq] at h1
        have e1 := hx x List.mem_cons_self
        have e2 := hy y List.mem_cons_self
        have h2 := congrArg UInt8.toNat h1.1
        simp only [UInt8.toNat_ofNat'] at h2
        rw [ih (fun z hz => hx z (List.mem_cons_of_mem _ hz)) (fun z hz => hy z (List.mem_cons_of_mem _ hz)) h1.2]
        congr 1
        omega
  · intro h; rw [h]

/-- What a law's statement asks of one call. -/
theorem law_lifted {C : Checked} {os : Os} {f : FuncId} {fn : Func} {s : ChangeSpec} {tb : TypeId} {H : Type} {enc : TypeId × Value → H}
    (own : ownKnob C.prog.godebug = none) (started : os.Started) (noInit : C.prog.inits.idxOf? f = none) (hfn : C.prog.funcs[f]? = some fn)
    (witness : ∃ (w : World) (tape : Tape) (i : Input), w.os = os ∧ (w.forCall tape i).Shaped C.prog ∧ i.vars = [] ∧ Input.okWide C.prog (w.forCall tape i) .any w.heap.size f i ∧
      s.pre6 enc C.prog fn [] false (w.forCall tape i).memory i.args ∧ ({} : Assume).holds C.prog (lone (Frame.enter C.prog f i.args .normal) [] (w.forCall tape i)))
    (hl : laidOutB C.prog = true) (ht : ∀ t, t ∈ fn.params.toList → C.prog.readableRec t = true ∧ t < C.prog.types.size)
    (hvars : s.vars = []) (hspec : ∀ ds : List (DataW H), ds.length = fn.params.size → s.fn H ds = { results := [.lit (.bool true)], args := ds })
    (hres : fn.resultTypes = #[tb]) (htb : C.prog.underlying tb = some .bool)
    (hglob : ∀ w : World, Glob w ∧ ∀ b, gblk b → b < w.heap.size)
    (contract : ∀ (w : World) (args : Array Value) (ds : List (DataW H)) (p : List MemPlace), (∀ (j : Nat) t v, fn.params[j]? = some t → args[j]? = some v → Value.okWide C.prog w .any 0 t v) →
      DataW.TrodAll enc C.prog w 0 (fun _ => true) true fn.params.toList args.toList ds p → (DataW.weightsEach C.prog fn.params.toList ds).all (· ≤ reachBytes) = true →
      ∃ avs : List AV, FSpec0 C.prog f avs (fun r => r = .bool true) ∧ args.size = avs.length ∧ ∀ i v, avs[i]? = some v → RepV (inCtx w) v (args.getD i undef)) :
    ReturnsInHanded {} C os f .any (s.pre6 enc C.prog fn [] false) (s.post enc C.prog fn false true false false) := by
  refine returnsInHanded_of_change_sized own started noInit hfn witness ?_
  intro W base args ds gs before hval hW _ hsz _
  have hW' := hW
  obtain ⟨p, q, hA, hV, rfl, hfz, _⟩ := hW
  rw [hvars] at hV
  obtain ⟨rfl, rfl⟩ : gs = [] ∧ q = [] := by
    cases gs with
    | nil => exact ⟨rfl, hV⟩
    | cons _ _ => exact hV.elim
  have hlen : ds.length = fn.params.size := by
    have key : ∀ (ts : List TypeId) (vs : List Value) (ds : List (DataW H)) (p : List MemPlace), DataW.TrodAll enc C.prog W 0 (fun _ => true) true ts vs ds p → ds.length = ts.length := by
      intro ts
      induction ts with
      | nil => intro vs ds p h; cases vs <;> cases ds <;> first | rfl | exact h.elim
      | cons t ts ih =>
        intro vs ds p h
        cases vs <;> cases ds <;> try exact h.elim
        obtain ⟨_, _, _, h2, _⟩ := h
        simp [ih _ _ _ h2]
    simpa using key _ _ _ _ hA
  have hsz' : (DataW.weightsEach C.prog fn.params.toList ds).all (· ≤ reachBytes) = true := by
    have e : s.plain.varTypes C.prog = [] := by simp [ChangeSpec.plain, DataSpec.varTypes, hvars]
    simpa [e] using hsz
  obtain ⟨avs, hs, hsize, hrep⟩ := contract W args ds p (fun j t v h1 h2 => Value.okWide_any_base (hval j t v h1 h2)) hA hsz'
  have hlt : ∀ x ∈ p, x.block < W.heap.size := fun x hx => hW'.lt x (by simpa using hx)
  refine (hs W (fun _ => False) (fun _ => none) args ⟨hsize, hrep, fun i j g c d hi => absurd rfl hi, fun i g c hi => absurd rfl hi, (fun i ob hi => by cases hi), (hglob W).1, fun b hb => ⟨(hglob W).2 b hb, no_owned b⟩⟩).mono ?_
  rintro e W' ⟨r, hp', x, ρ', rfl, ⟨rfl, rfl⟩, hb⟩
  have hx : x = .bool true := hb.rep
  subst hx
  have hg := grown_of_ext no_owned hb.ext
  have e0 := hspec ds hlen
  refine ⟨_, rfl, post_of_same (pa := p) (pv := []) hW' (fun b sp hd => ?_) (fun sp hsp => ?_) (fun _ _ => ?_) rfl (hg.frame _) hg.2.1 (ok_one hres rfl (okWide_bool_mk htb _))⟩
  · rw [List.append_nil, e0, hres]
    exact ⟨[], [], shut_bool htb _, rfl, rfl⟩
  · rw [List.append_nil, e0]
    exact all_stays hl ht hA (fun x hx => sameAt_of no_owned hb.ext (hlt x hx)) (fun x hx => hsp x (by simpa using hx))
  · rw [List.append_nil, e0, hvars]; rfl

end Go.Vc
