/-
  Vc22: what is handed over, by unification; results of one value.
-/
import Derived.Test.YtdlddbclcmecjaaDoorVc21
set_option linter.unusedVariables false
set_option linter.unusedSimpArgs false
namespace Go.Vc
open Go

section
variable {hp lent : Heap} {as bs : List AV}
theorem subs_nil : subs hp lent [] [] := trivial
theorem subs_int {k : IntKind} {n : Int} (h : subs hp lent as bs) : subs hp lent (.int k n :: as) (.int k n :: bs) := ⟨⟨rfl, rfl⟩, h⟩
theorem subs_bool {b : Bool} (h : subs hp lent as bs) : subs hp lent (.bool b :: as) (.bool b :: bs) := ⟨rfl, h⟩
theorem subs_str {b : ByteArray} (h : subs hp lent as bs) : subs hp lent (.str b :: as) (.str b :: bs) := ⟨rfl, h⟩
theorem subs_fn {f : FuncId} (h : subs hp lent as bs) : subs hp lent (.fn f :: as) (.fn f :: bs) := ⟨rfl, h⟩
theorem subs_ro {α : Type} {fr : Bool} {sz : Nat} {enc : α → List DV} {xs : List α} (h : subs hp lent as bs) : subs hp lent (.ro fr sz enc xs :: as) (.ro fr sz enc xs :: bs) := ⟨⟨fun h => h, rfl⟩, h⟩
theorem subs_nilro {α : Type} {fr : Bool} {sz : Nat} {enc : α → List DV} (h : subs hp lent as bs) : subs hp lent (.nilS :: as) (.ro fr sz enc [] :: bs) := ⟨rfl, h⟩
theorem subs_own {α : Type} {id off len : Nat} {app : Bool} {T : TypeId} {mov f : Bool} {sz : Nat} {enc : α → List DV} {xs : List α} (h0 : hget hp id = some (.arr T mov f sz enc xs)) (h1 : hget lent id = none)
    (h : subs hp lent as bs) : subs hp lent (.own id off len app :: as) (.ro false sz enc ((xs.drop off).take len) :: bs) := ⟨⟨h1, by rw [h0]⟩, h⟩
theorem subs_all {α : Type} {id len : Nat} {app : Bool} {T : TypeId} {mov f : Bool} {sz : Nat} {enc : α → List DV} {xs : List α} (h0 : hget hp id = some (.arr T mov f sz enc xs)) (h1 : hget lent id = none) (h2 : xs.length ≤ len)
    (h : subs hp lent as bs) : subs hp lent (.own id 0 len app :: as) (.ro false sz enc xs :: bs) := ⟨⟨h1, by rw [h0]; simp only [List.drop_zero, List.take_of_length_le h2]⟩, h⟩
theorem subs_lits {α : Type} {fr : Bool} {sz : Nat} {es : List (List DV)} {enc : α → List DV} {ys : List α} (h0 : ys.map enc = es) (h : subs hp lent as bs) : subs hp lent (.lits fr sz es :: as) (.ro false sz enc ys :: bs) := ⟨⟨(fun h => by cases h), rfl, h0⟩, h⟩
theorem subs_lits' {α : Type} {fr : Bool} {sz : Nat} {es : List (List DV)} {enc : α → List DV} {ys : List α} (h0 : ys.map enc = es) (h : subs hp lent as bs) : subs hp lent (.lits true sz es :: as) (.ro fr sz enc ys :: bs) := ⟨⟨fun _ => rfl, rfl, h0⟩, h⟩
theorem subs_bptr {id off : Nat} (h1 : hget lent id ≠ none) (h : subs hp lent as bs) : subs hp lent (.bptr id off :: as) (.bptr id off :: bs) := ⟨⟨rfl, rfl, h1⟩, h⟩
theorem subs_lent {id off len : Nat} {app : Bool} (h1 : hget lent id ≠ none) (h : subs hp lent as bs) : subs hp lent (.own id off len app :: as) (.own id off len app :: bs) := ⟨⟨rfl, rfl, rfl, fun h => h, h1⟩, h⟩
end

section
variable {P : Program} {Q : St → Prop} {k : List It} {st : St} {d : Option Nat}
/-- A call whose result is one value. -/
theorem call1 {f : FuncId} {vs args : List AV} {r : AV} (h : FSpec0 P f args fun x => x = r) (hs : subs st.hp [] vs args) (hk : run P Q k (put? d st r)) : callK P Q k d st f vs := callK0 h hs fun x hx => by subst hx; exact hk
/-- A call to which rows are lent, whose result is one value. -/
theorem callL1 {f : FuncId} {vs args : List AV} {lent hp' : Heap} {r : AV} (h : FSpec P f args lent fun x h' => x = r ∧ h' = hp') (hs : subs st.hp lent vs args) (hl : lends st.hp lent lent)
    (hi : ∀ i, hget hp' i ≠ none → hget lent i ≠ none ∨ (hget st.hp i = none ∧ i < 1000)) (hk : run P Q k (after st lent d r hp')) : callK P Q k d st f vs := callKL h hs hl fun x h' hx => by
  obtain ⟨rfl, rfl⟩ := hx; exact ⟨hi, hk⟩
theorem ret1' {slots : List Nat} {r : AV} {env : Env} {hp : Heap} (h : retR hp [] (slots.map (eget env)) r) : Ret0 slots (fun x => x = r) ⟨env, hp⟩ := ret0 r h rfl
end

/-! ### A nil slice as an empty row that is still to be made -/
theorem Ent.nilv {env : Env} {hp0 : Heap} {α : Type} (m id : Nat) (T : TypeId) (sz : Nat) (enc : α → List DV) (hm : eget env m = .nilS) (hid : hget hp0 id = none) (hlt : id < 1000) (hsz : 0 < sz) :
    Ent ⟨env, hp0⟩ ⟨eset env m (.own id 0 0 true), hset hp0 id (.arr T true true sz enc ([] : List α))⟩ := fun B a w ρ h => by
  let hp' : Heap := hset hp0 id (.arr T true true sz enc ([] : List α))
  have hg : ∀ n, hget hp' n = if id = n then some (.arr T true true sz enc ([] : List α)) else hget hp0 n := fun n => by
    show hget (hset _ _ _) n = _
    rw [hget_hset]
  have hρ : ∀ n, n ≠ id → upd ρ id none n = ρ n := fun n hn => by unfold upd; rw [if_neg hn]
  have hsub : ∀ n, hget hp' n ≠ none → n = id ∨ hget hp0 n ≠ none := fun n hn => by
    rw [hg] at hn
    by_cases e : id = n
    · exact .inl e.symm
    · right; rwa [if_neg e] at hn
  have hreal : ∀ n g c, hget hp' n ≠ none → upd ρ id none n = some (g, c) → hget hp0 n ≠ none ∧ ρ n = some (g, c) := fun n g c hn hc => by
    rcases hsub n hn with rfl | h1
    · simp [upd] at hc
    · have : n ≠ id := by rintro rfl; exact h1 hid
      exact ⟨h1, by rwa [hρ n this] at hc⟩
  have hsh : ∀ n, n ≠ id → shOf hp' n = shOf hp0 n := fun n hn => by
    unfold shOf
    rw [hg, if_neg (Ne.symm hn)]
  have hle : (ctxOf B hp0 w ρ).Le (ctxOf B hp' w (upd ρ id none)) := ⟨fun fr b hb => ⟨rfl, hb.1, fun ⟨n, h1, c, h2⟩ => by
    obtain ⟨h3, h4⟩ := hreal n b c h1 h2
    exact hb.2.1 ⟨n, h3, c, h4⟩, hb.2.2⟩, fun n hn => by
    have : n ≠ id := by
      rintro rfl
      apply hn
      show shOf hp0 n = none
      simp [shOf, hid]
    exact ⟨hsh n this, hρ n this⟩⟩
  refine ⟨upd ρ id none, h.defers, h.size, h.ext, fun p q g c d hi hj h1 h2 => ?_, fun p g c hi h1 => ?_, fun p g c hi h1 => ?_, fun p ob hi => ?_, fun n => ?_, h.fixN, fun p v ob hv hi hf => ?_⟩
  · obtain ⟨a1, a2⟩ := hreal p g c hi h1
    obtain ⟨b1, b2⟩ := hreal q g d hj h2
    exact h.inj p q g c d a1 b1 a2 b2
  · obtain ⟨a1, a2⟩ := hreal p g c hi h1
    exact h.lt p g c a1 a2
  · obtain ⟨a1, a2⟩ := hreal p g c hi h1
    exact h.wr p g c a1 a2
  · have hi' : hget hp' p = some ob := hi
    rw [hg] at hi'
    by_cases e : id = p
    · subst e
      rw [if_pos rfl] at hi'
      obtain rfl := Option.some.inj hi'
      exact ⟨hsz, fun x hx => (by cases hx), by simp, .inl ⟨by simp [ctxOf, upd], rfl, rfl⟩⟩
    · rw [if_neg e] at hi'
      exact (h.hp p ob hi').mono hle (hρ p (Ne.symm e)) (fun _ _ _ => rfl)
  · show RepV _ (eget (eset env m _) n) _
    rw [eget_eset]
    by_cases e : m = n
    · subst e
      rw [if_pos rfl]
      have h1 := h.env m
      have h1 : RepV _ (eget env m) _ := h1
      rw [hm] at h1
      have h1 : a.tmps.getD m undef = .slice none 0 0 := h1
      rw [h1]
      exact ⟨sz, 0, by show shOf hp' id = _; unfold shOf; rw [hg, if_pos rfl]; simp [OB.shape], by omega, .inl ⟨by simp [ctxOf, upd], ⟨none, rfl⟩, rfl⟩⟩
    · rw [if_neg e]; exact (h.env n).mono hle
  · have hi' : hget hp' p = some ob := hi
    rw [hg] at hi'
    have hp1 := (h.fixN p v hv).2
    have e : id ≠ p := by omega
    rw [if_neg e] at hi'
    obtain ⟨q1, q2⟩ := h.fix p v ob hv hi' hf
    exact ⟨(hρ p (Ne.symm e)).trans q1, q2⟩

/-- A row that has elements stays where it stands, if one wants. -/
theorem Ent.fixr {env : Env} {hp0 : Heap} {α : Type} {id : Nat} {T : TypeId} {fr : Bool} {sz : Nat} {enc : α → List DV} {xs : List α} (hid : hget hp0 id = some (.arr T true fr sz enc xs)) (hne : xs ≠ []) (hlt : id < 1000) :
    Ent ⟨env, hp0⟩ ⟨env, hset hp0 id (.arr T false fr sz enc xs)⟩ := fun B a w ρ h => by
  let hp' : Heap := hset hp0 id (.arr T false fr sz enc xs)
  have hg : ∀ n, hget hp' n = if id = n then some (.arr T false fr sz enc xs) else hget hp0 n := fun n => by
    show hget (hset _ _ _) n = _
    rw [hget_hset]
  have hne' : ∀ n, hget hp' n ≠ none → hget hp0 n ≠ none := fun n hn => by
    rw [hg] at hn
    by_cases e : id = n
    · subst e; rw [hid]; simp
    · rwa [if_neg e] at hn
  have hsh : ∀ n, shOf hp' n = shOf hp0 n := fun n => by
    unfold shOf
    rw [hg]
    by_cases e : id = n
    · subst e; rw [if_pos rfl, hid]; rfl
    · rw [if_neg e]
  have hle : (ctxOf B hp0 w ρ).Le (ctxOf B hp' w ρ) := ⟨fun fr b hb => ⟨rfl, hb.1, fun ⟨n, h1, c, h2⟩ => hb.2.1 ⟨n, hne' n h1, c, h2⟩, hb.2.2⟩, fun n hn => ⟨hsh n, rfl⟩⟩
  refine ⟨ρ, h.defers, h.size, h.ext, fun p q g c d hi hj => h.inj p q g c d (hne' p hi) (hne' q hj), fun p g c hi => h.lt p g c (hne' p hi), fun p g c hi => h.wr p g c (hne' p hi), fun p ob hi => ?_, fun n => (h.env n).mono hle, h.fixN, fun p v ob hv hi hf => ?_⟩
  · have hi' : hget hp' p = some ob := hi
    rw [hg] at hi'
    by_cases e : id = p
    · subst e
      rw [if_pos rfl] at hi'
      obtain rfl := Option.some.inj hi'
      have h1 := (h.hp id _ hid).mono hle (id := id) rfl (fun _ _ _ => rfl)
      obtain ⟨a1, a2, a3, a4 | a4⟩ := h1
      · exact absurd a4.2.1 hne
      · exact ⟨a1, a2, a3, .inr a4⟩
    · rw [if_neg e] at hi'
      exact (h.hp p ob hi').mono hle rfl (fun _ _ _ => rfl)
  · have hi' : hget hp' p = some ob := hi
    rw [hg] at hi'
    by_cases e : id = p
    · subst e; have := (h.fixN id v hv).2; omega
    · rw [if_neg e] at hi'
      exact h.fix p v ob hv hi' hf

section
variable {P : Program} {Q : St → Prop}
theorem loop_introE {c : MC} {k : List It} {st st' : St} (I : Nat → St → Prop) (n : Nat) (h0 : Ent st st') (hI : I n st')
    (round : ∀ n st', I n st' → run P Q (.code c :: .back (fun s => ∃ s', Ent s s' ∧ ∃ n', n' < n ∧ I n' s') :: k) st') : run P Q (.code (.loop c) :: k) st := by
  rw [run_loop]
  exact ⟨I, n, ⟨_, h0, hI⟩, round⟩
end

theorem ite_bool_dec (p : Prop) [Decidable p] : (if p then AV.bool true else AV.bool false) = .bool (decide p) := by by_cases h : p <;> simp [h]

end Go.Vc
