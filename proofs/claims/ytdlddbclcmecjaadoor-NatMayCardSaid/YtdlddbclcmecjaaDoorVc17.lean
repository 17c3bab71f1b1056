/-
  Vc17: from a body to a contract: the theorem.
-/
import Derived.Test.YtdlddbclcmecjaaDoorVc16
set_option linter.unusedVariables false
set_option linter.unusedSimpArgs false
namespace Go.Vc
open Go

def env0 : Nat → List AV → Env
  | _, [] => []
  | i, v :: vs => (i, v) :: env0 (i + 1) vs

theorem eget_env0 : ∀ (vs : List AV) (i n : Nat), eget (env0 i vs) n = if i ≤ n then vs.getD (n - i) .any else .any
  | [], i, n => by simp [env0, eget]
  | v :: vs, i, n => by
    simp only [env0, eget]
    by_cases h : i = n
    · subst h; simp
    · rw [if_neg h, eget_env0 vs (i + 1) n]
      by_cases h1 : i ≤ n
      · rw [if_pos h1, if_pos (by omega), show n - i = (n - (i + 1)) + 1 by omega]
        rfl
      · rw [if_neg h1, if_neg (by omega)]

def slotsOf : List ResultVar → List Nat → Bool
  | [], [] => true
  | .tmp t :: rs, n :: ns => t == n && slotsOf rs ns
  | _, _ => false

def chkF (P : Program) (f : FuncId) (na : Nat) (slots : List Nat) (c : MC) : Bool := match P.funcs[f]? with
  | some fn => (match fn.body with | some x => chkC P fn.ntmps c x | none => false) && slotsOf fn.results.toList slots && decide (na ≤ fn.ntmps) && decide (fn.ntmps ≤ 1000)
  | none => false

section
variable {P : Program}

theorem results_run (w : World) (tmps : Array Value) {F : ResultVar → Sem Value} (hF : ∀ t, F (.tmp t) = pure (tmps.getD t undef)) : ∀ {rs : List ResultVar} {slots : List Nat}, slotsOf rs slots = true →
    (rs.mapM F).run P w = .ok (slots.map fun t => tmps.getD t undef) w
  | [], [], _ => rfl
  | .tmp t :: rs, n :: ns, h => by
    simp only [slotsOf, Bool.and_eq_true, beq_iff_eq] at h
    obtain ⟨rfl, h⟩ := h
    have ih := results_run w tmps hF h
    rw [List.mapM_cons, hF]
    simp only [Sem.run_bind, ih, Result.andThen_ok, Sem.run_pure, List.map_cons]
  | [], _ :: _, h => by simp [slotsOf] at h
  | .tmp _ :: _, [], h => by simp [slotsOf] at h
  | .cell _ _ :: _, [], h => by simp [slotsOf] at h
  | .cell _ _ :: _, _ :: _, h => by simp [slotsOf] at h

def packV (vs : List Value) : Value := match vs with
  | [v] => v
  | vs => .tuple vs.toArray

theorem results_ok {fn : Func} {slots : List Nat} (w : World) (tmps : Array Value) (h : slotsOf fn.results.toList slots = true) :
    (results fn tmps).run P w = .ok (packV (slots.map fun t => tmps.getD t undef)) w := by
  unfold results
  rw [Array.mapM_eq_mapM_toList]
  simp only [Sem.run_bind, Sem.run_map]
  rw [results_run w tmps (fun _ => rfl) h]
  simp only [Result.andThen_ok, Sem.run_pure]
  cases slots with
  | nil => rfl
  | cons n ns => cases ns with
    | nil => rfl
    | cons m ms => simp [packV]

theorem no_owned0 {ρ : Nat → Option (Nat × Nat)} (b : Nat) : ¬ owned [] ρ b := fun ⟨_, h, _⟩ => h rfl

theorem fspec_of_run {f : FuncId} {args : List AV} {hp0 : Heap} {post : AV → Heap → Prop} {slots : List Nat} {c : MC} (hc : chkF P f args.length slots c = true)
    (hids : (hp0.all fun p => decide (1000 ≤ p.1)) = true) (htop : c.top = true → hp0 = []) (hrun : run P (Ret slots hp0 post) [.code c] ⟨env0 0 args, hp0⟩) : FSpec P f args hp0 post := by
  intro w S ρ xs hH
  unfold chkF at hc
  split at hc
  case h_2 => cases hc
  rename_i fn hf
  simp only [Bool.and_eq_true, decide_eq_true_eq] at hc
  obtain ⟨⟨⟨hc, hsl⟩, hna⟩, hN⟩ := hc
  split at hc
  case h_2 => cases hc
  rename_i x hb
  have hid : ∀ i, hget hp0 i ≠ none → 1000 ≤ i := fun i hi => by
    cases h : hget hp0 i with
    | none => exact absurd h hi
    | some ob => simpa using List.all_eq_true.1 hids _ (hget_mem h)
  let B : Base := ⟨w, owned hp0 ρ, fn.ntmps, fun b => S b ∧ ¬ owned hp0 ρ b, fun i => match hget hp0 i with | some ob => if ob.fixed = true then some (ρ i, ob.shape) else none | none => none, hH.glob⟩
  let a0 : Act := { tmps := xs ++ Array.replicate (fn.ntmps - xs.size) undef, defers := [] }
  have hle : (handCtx w S ρ hp0).Le (ctxOf B hp0 w ρ) := ⟨fun fr b hb => ⟨rfl, hb.1, hb.2.1, fun e => (hb.2.2 e).imp (fun h => ⟨h, hb.2.1⟩) id⟩, fun _ _ => ⟨rfl, rfl⟩⟩
  have h0 : RepS B ⟨env0 0 args, hp0⟩ a0 w ρ := by
    refine ⟨rfl, ?_, Ext.refl _ _, hH.inj, hH.lt, fun i g c hi hg => .inr ⟨⟨i, hi, c, hg⟩, hid i hi⟩, fun i ob hi => ?_, fun n => ?_, fun i v hv => ?_, fun i v ob hv hi hfx => ?_⟩
    · show (xs ++ Array.replicate (fn.ntmps - xs.size) undef).size = fn.ntmps
      have := hH.size
      simp; omega
    · exact (hH.rows i ob hi).mono hle rfl (fun _ _ _ => rfl)
    · show RepV _ (eget (env0 0 args) n) _
      rw [eget_env0, if_pos (Nat.zero_le _), Nat.sub_zero]
      rw [List.getD_eq_getElem?_getD]
      cases hn : args[n]? with
      | none => exact trivial
      | some v =>
        have hlt : n < args.length := (List.getElem?_eq_some_iff.1 hn).1
        have := (hH.args n v hn).mono hle
        have e : (xs ++ Array.replicate (fn.ntmps - xs.size) undef).getD n undef = xs.getD n undef := by
          rw [Array.getD_eq_getD_getElem?, Array.getD_eq_getD_getElem?, Array.getElem?_append_left (by rw [hH.size]; exact hlt)]
        show RepV _ v ((xs ++ Array.replicate (fn.ntmps - xs.size) undef).getD n undef)
        rw [e]; exact this
    · have hv' : (match hget hp0 i with | some ob => if ob.fixed = true then some (ρ i, ob.shape) else none | none => none) = some v := hv
      cases h : hget hp0 i with
      | none => rw [h] at hv'; cases hv'
      | some ob =>
        have := hid i (by rw [h]; simp)
        exact ⟨Nat.le_trans hN this, this⟩
    · have hv' : (match hget hp0 i with | some ob => if ob.fixed = true then some (ρ i, ob.shape) else none | none => none) = some v := hv
      rw [show hget hp0 i = some ob from hi] at hv'
      simp only [hfx, if_true, Option.some.injEq] at hv'
      subst hv'
      exact ⟨rfl, rfl⟩
  -- the return
  have hret : ∀ (st : St) (a : Act) (w' : World) (ρ' : Nat → Option (Nat × Nat)), RepS B st a w' ρ' → Ret slots hp0 post st →
      a.defers = [] ∧ ∃ v, (results fn a.tmps).run P w' = .ok v w' ∧ ∃ r hp' x ρ'', Ending.returned v = .returned x ∧ post r hp' ∧ Back w S ρ hp0 w' ρ'' r hp' x := by
    intro st a w' ρ' h hr
    obtain ⟨env, hp⟩ := st
    obtain ⟨r, hp', hrr, hrh, hk, hpost⟩ := hr
    refine ⟨h.defers, _, results_ok w' a.tmps hsl, r, hp', _, ρ', rfl, hpost, ?_⟩
    have hsub : ∀ i, hget hp' i ≠ none → hget hp i ≠ none := fun i hi => by
      cases hc : hget hp' i with
      | none => exact absurd hc hi
      | some ob => obtain ⟨ob0, h1, _⟩ := retH_get hrh hc; rw [h1]; simp
    have hshp : ∀ i, hget hp' i ≠ none → shOf hp' i = shOf hp i := fun i hi => by
      cases hc : hget hp' i with
      | none => exact absurd hc hi
      | some ob => obtain ⟨ob0, h1, h2⟩ := retH_get hrh hc; simp [shOf, hc, h1, (retO_shape h2).1]
    have hown' : ∀ b, owned hp' ρ' b → owned hp ρ' b := fun b ⟨i, hi, c, hc⟩ => ⟨i, hsub i hi, c, hc⟩
    have hold : ∀ b, owned hp0 ρ b → b < w.heap.size := fun b ⟨i, hi, c, hc⟩ => hH.lt i b c hi hc
    have hfull := h
    have h' : RepS B ⟨[], hp⟩ a w' ρ' := h.bare
    have hR : Retd hp hp' ρ' (ctxOf B hp w' ρ') (backCtx w S ρ hp0 w' ρ' hp') := by
      refine ⟨rfl, fun fr b hb => ?_, fun i hi => ⟨hshp i hi, rfl⟩, fun i g cap hi1 hi hn hg fr => ?_⟩
      · obtain ⟨h1, h2, h3⟩ := hb
        refine ⟨?_, h1, fun e => h2 (hown' b e), ?_⟩
        · rcases h3 rfl with h3 | h3
          · exact .inl h3.1
          · exact .inr h3
        · rcases h3 rfl with h3 | h3
          · exact h3.2
          · exact fun e => Nat.lt_irrefl _ (Nat.lt_of_lt_of_le (hold b e) h3)
      · have hw := h'.wr i g cap hi hg
        have hge : w.heap.size ≤ g := by
          rcases hw with hw | hw
          · exact hw
          · omega
        refine ⟨.inr hge, h'.lt i g cap hi hg, ?_, fun e => Nat.lt_irrefl _ (Nat.lt_of_lt_of_le (hold g e) hge)⟩
        rintro ⟨j, hj, d, hd⟩
        have := h'.inj i j g cap d hi (hsub j hj) hg hd
        subst this
        exact hj hn
    refine ⟨h.ext, ?_, fun i ob hi => ?_, fun i j g c d hi hj => h.inj i j g c d (hsub i hi) (hsub j hj), fun i g c hi => h.lt i g c (hsub i hi), fun i hi => ?_, fun i ob hi hfx => ?_, fun i ob ob' hi hi' => ?_, fun i g c hi => h.wr i g c (hsub i hi)⟩
    · -- the value
      have hv : ∀ t, RepV (ctxOf B hp w' ρ') (eget env t) (a.tmps.getD t undef) := h.env
      have many : ∀ (sl : List Nat) (rs : List AV), retL hp hp' (sl.map (eget env)) rs → RepV (backCtx w S ρ hp0 w' ρ' hp') (.tup rs) (.tuple (sl.map fun t => a.tmps.getD t undef).toArray) := fun sl rs hl => by
        obtain ⟨h1, h2⟩ := retL_get hl
        refine ⟨_, rfl, by simpa using h1, fun i u hu => ?_⟩
        obtain ⟨u0, hu0, hs⟩ := h2 i u hu
        rw [List.getElem?_map] at hu0
        cases hsi : sl[i]? with
        | none => rw [hsi] at hu0; cases hu0
        | some t =>
          rw [hsi] at hu0
          simp only [Option.map_some, Option.some.injEq] at hu0
          subst hu0
          have e : (sl.map fun t => a.tmps.getD t undef).toArray.getD i undef = a.tmps.getD t undef := by
            simp [Array.getD_eq_getD_getElem?, hsi]
          rw [e]
          exact retA_rep h' hR hs (hv t)
      cases slots with
      | nil =>
        cases r <;> simp only [List.map_nil, retR] at hrr
        · exact trivial
        · exact many [] _ hrr
      | cons n ns => cases ns with
        | nil =>
          have h1 := retA_rep h' hR (u := eget env n) (v := r) hrr (hv n)
          show RepV _ r (a.tmps.getD n undef)
          cases r <;> first | exact h1 | exact h1.elim
        | cons m ms =>
          cases r <;> simp only [List.map_cons, retR] at hrr
          · exact trivial
          · exact many (n :: m :: ms) _ hrr
    · obtain ⟨ob0, h1, h2⟩ := retH_get hrh hi
      exact retO_rep h' hR (by rw [hi]; simp) h2 (h'.hp i ob0 h1)
    · cases hc : hget hp0 i with
      | none => exact absurd hc hi
      | some ob => obtain ⟨ob', h1, _⟩ := keptH_get hk hc; rw [h1]; simp
    · obtain ⟨ob', h1, h2⟩ := keptH_get hk hi
      obtain ⟨ob0, h3, h4⟩ := retH_get hrh h1
      have hBf : B.fix i = some (ρ i, ob.shape) := by
        show (match hget hp0 i with | some ob => if ob.fixed = true then some (ρ i, ob.shape) else none | none => none) = _
        rw [hi]; simp [hfx]
      obtain ⟨e1, e2⟩ := h.fix i _ ob0 hBf h3 (by rw [← (retO_shape h4).2, h2]; exact hfx)
      exact ⟨e1, by simp [shOf, h1, hi, (retO_shape h4).1, e2]⟩
    · obtain ⟨ob2, h1, h2⟩ := keptH_get hk hi
      rw [h1] at hi'; cases hi'; exact h2.symm
  refine calls_of_wp hf hb ?_
  refine code_ok c x [] _ _ a0 w ρ (fun e => ?_) hc h0 ⟨fun st a w' ρ' h hr => ?_, fun id st a w' ρ' h hr => ?_, fun st a w' ρ' h hr => hret st a w' ρ' h hr, fun c a w h => ?_⟩ hrun
  · have e0 := htop e
    subst e0
    exact ⟨fun i => rfl, fun b hb => (no_owned0 b) hb⟩
  · rw [run_nil] at hr; exact hret st a w' ρ' h hr
  · rw [popTo, run_back] at hr; exact hr.elim
  · obtain ⟨_, r, hp', x, ρ', h, _⟩ := h; cases h

end
end Go.Vc
