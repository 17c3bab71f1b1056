/-
  Vc14: code is sound, whatever order a region draws.
-/
import Derived.Test.YtdlddbclcmecjaaDoorVc13
set_option linter.unusedVariables false
set_option linter.unusedSimpArgs false
namespace Go.Vc
open Go

section
variable {P : Program} {B : Base} {st : St} {a : Act} {w : World} {ρ : Nat → Option (Nat × Nat)} {o : Oper}

/-! ### Regions all of whose operations leave the world alone -/
theorem m_still {m : M} (hm : isStill m = true) {K : St → Prop} {K' : Act → Prop} (h : RepS B st a w ρ) (hN : ∀ t, o.dst = some t → t < B.N)
    (hc : chkM P B.N o m = true) (hk : T P m o.dst st K) (hK : ∀ st' a', RepS B st' a' w ρ → K st' → K' a') : o.still P a w K' := by
  cases m with
  | p m =>
    obtain ⟨v, x, he, hv, hk⟩ := pm_ok h m hc hk
    unfold Oper.still
    rw [he, Oper.stillUpon_value]
    exact hK _ _ (h.put hN hv) hk
  | pick c x y =>
    obtain ⟨dst, op, type, pos, after, guard⟩ := o
    cases op <;> simp only [chkM, Bool.false_eq_true] at hc
    rename_i c' x' y'
    simp only [Bool.and_eq_true] at hc
    simp only [T] at hk
    split at hk
    case h_2 => exact hk.elim
    rename_i t e
    have hb := eval_bool h hc.1.1 e
    unfold Oper.still
    have he : (execOp a.eval { dst, op := .pick c' x' y', type, pos, after, guard }).run P w = .ok (.value (if t = true then a.eval x' else a.eval y')) w := by
      simp [execOp, hb, asBool, pure, Sem.run, bind, Sem.bind, Result.andThen]
    rw [he, Oper.stillUpon_value]
    cases t with
    | true => exact hK _ _ ((h.setB' e).put hN (by
        have : (setB st c true).hp = st.hp := by cases c <;> rfl
        rw [this]; exact chkX_ok h hc.1.2)) (hk.1 rfl)
    | false => exact hK _ _ ((h.setB' e).put hN (by
        have : (setB st c false).hp = st.hp := by cases c <;> rfl
        rw [this]; exact chkX_ok h hc.2)) (hk.2 rfl)
  | _ => simp [isStill] at hm

theorem one_still {ops : Array Oper} {d : Option Nat} {g : Option (Nat × Bool)} {m : M} (hm : isStill m = true) {K : St → Prop} {K' : Act → Prop} (h : RepS B st a w ρ)
    (hc : chk1 P B.N ops o d g m = true) (hk : TG P d g m st K) (hK : ∀ st' a', RepS B st' a' w ρ → K st' → K' a') :
    if Region.wanted o (yielded ops a.tmps) then o.still P a w K' else K' (a.put o.dst undef) := by
  simp only [chk1, Bool.and_eq_true, beq_iff_eq] at hc
  obtain ⟨⟨⟨rfl, hd⟩, hg⟩, hc⟩ := hc
  have hN : ∀ t, o.dst = some t → t < B.N := fun t e => by rw [e] at hd; simpa using hd
  cases hog : o.guard with
  | none =>
    rw [hog] at hg
    cases g with
    | some g => simp [chkG] at hg
    | none =>
      rw [if_pos (by simp [Region.wanted, hog])]
      exact m_still hm h hN hc hk hK
  | some jw =>
    obtain ⟨j, want⟩ := jw
    rw [hog] at hg
    cases g with
    | none => simp [chkG] at hg
    | some tw =>
      obtain ⟨t, want'⟩ := tw
      simp only [chkG, Bool.and_eq_true, beq_iff_eq] at hg
      obtain ⟨rfl, hj⟩ := hg
      simp only [TG] at hk
      split at hk
      case h_3 => exact hk.elim
      case h_2 e =>
        have hy := yielded_none h hj e
        rw [if_neg (by simp [Region.wanted, hog, hy])]
        exact hK _ _ (h.put hN repU) hk
      rename_i b e
      have hy := yielded_of h hj e
      by_cases hb : b = want
      · rw [if_pos (by simp [Region.wanted, hog, hy, hb])]
        exact m_still hm (h.same (hb ▸ e)) hN hc (hk.1 hb) hK
      · have hb' : b = !want := by cases b <;> cases want <;> simp_all
        rw [if_neg (by simp [Region.wanted, hog, hy, hb])]
        have h2 := h.same (t := t) (v := .bool (!want)) (hb' ▸ e)
        exact hK _ _ (h2.put hN repU) (hk.2 hb')

theorem list_still {ops : Array Oper} {Q : St → Prop} {k : List It} {Q' : Act → Prop} (hQ : ∀ st a, RepS B st a w ρ → run P Q k st → Q' a) :
    ∀ (l : List MI) (os : List Oper) (st : St) (a : Act), allP l = true → chkL P B.N ops os l = true → RepS B st a w ρ → run P Q (.ops l :: k) st → wpStill P ops w Q' os a
  | [], os, st, a, _, hc, h, hr => by
    cases os with
    | nil => rw [run_ops_nil] at hr; exact wpStill_nil (hQ _ _ h hr)
    | cons o os => simp [chkL] at hc
  | .gh g :: l, os, st, a, hp, hc, h, hr => by simp [allP] at hp
  | .op d g m :: l, os, st, a, hp, hc, h, hr => by
    cases os with
    | nil => simp [chkL] at hc
    | cons o os =>
      simp only [chkL, Bool.and_eq_true] at hc
      rw [run_ops_op] at hr
      have hm : isStill m = true ∧ allP l = true := by simpa [allP] using hp
      exact wpStill_step fun K hK => one_still hm.1 h hc.1 hr fun st' a' h' hr' => hK _ (list_still hQ l os st' a' hm.2 hc.2 h' hr')

/-- The leading ones of these. -/
def stillLen : List MI → Nat
  | .op _ _ m :: l => if isStill m = true then 1 + stillLen l else 0
  | _ => 0

theorem list_head {ops : Array Oper} {Q : St → Prop} {k : List It} {Q' : Exit → Act → World → Prop} (hQ : ∀ st a w ρ, RepS B st a w ρ → run P Q k st → Q' .normal a w) :
    ∀ (l : List MI) (n : Nat) (os : List Oper) (st : St) (a : Act), (l.any topI = true → B.bare) → n ≤ stillLen l → chkL P B.N ops os l = true → RepS B st a w ρ → run P Q (.ops l :: k) st →
      wpStill P ops w (fun a' => wpList P ops Q' (os.drop n) a' w) (os.take n) a
  | l, 0, os, st, a, hB, _, hc, h, hr => by
    rw [List.take_zero]
    exact wpStill_nil (by rw [List.drop_zero]; exact list_ok hQ l os st a w ρ hB hc h hr)
  | [], n + 1, os, st, a, hB, hn, hc, h, hr => by simp [stillLen] at hn
  | .gh g :: l, n + 1, os, st, a, hB, hn, hc, h, hr => by simp [stillLen] at hn
  | .op d g m :: l, n + 1, os, st, a, hB, hn, hc, h, hr => by
    cases os with
    | nil => simp [chkL] at hc
    | cons o os =>
      simp only [chkL, Bool.and_eq_true] at hc
      rw [run_ops_op] at hr
      simp only [stillLen] at hn
      split at hn
      · rename_i hm
        rw [List.take_succ_cons, List.drop_succ_cons]
        exact wpStill_step fun K hK => one_still hm h hc.1 hr fun st' a' h' hr' => hK _ (list_head hQ l n os st' a' (fun e => hB (by simp only [List.any_cons, e, Bool.or_true])) (by omega) hc.2 h' hr')
      · omega

/-! ### Regions of any kind that draw -/
def freeM : PM → Bool
  | .mv _ => true
  | .nchk _ => true
  | .fa _ _ => true
  | _ => false
def indep : MI → Bool
  | .op _ none (.p m) => freeM m
  | _ => false

theorem free_ok {m : PM} {K : AV → Prop} (hm : freeM m = true) (h : RepS B st a w ρ) (hc : chkPM P o m = true) (hk : (res st m).holds K) : YieldF P B st a w ρ o K := by
  cases m with
  | mv x =>
    simp only [res, Res.holds, true_implies, true_and] at hk
    obtain ⟨dst, op, type, pos, after, guard⟩ := o
    cases op <;> simp only [chkPM, Bool.false_eq_true] at hc
    · exact ⟨_, _, fun _ => rfl, chkX_ok h hc, hk⟩
    · exact ⟨_, _, fun _ => rfl, chkX_ok h hc, hk⟩
  | nchk x => exact pm_nchkF h x hc hk
  | fa off x => exact pm_faF h off x hc hk
  | _ => simp [freeM] at hm

def chkI (P : Program) (N : Nat) (ops : Array Oper) (i : Nat) : MI → Bool
  | .op d g m => match ops[i]? with | some o => chk1 P N ops o d g m | none => false
  | .gh _ => false

def chkT (P : Program) (N : Nat) (ops : Array Oper) : MT → Nat → Array Bool → Option (List Nat) → Bool
  | .nil, _, listed, none => (Region.ready .any ops listed).isEmpty
  | .op i (.op d g m) t, fuel + 1, listed, none =>
    chkI P N ops i (.op d g m) && ((Region.ready .any ops listed == [i]) || (indep (.op d g m) && (Region.ready .any ops listed).contains i && Region.free .any ops listed i)) && chkT P N ops t fuel (listed.setIfInBounds i true) none
  | .alt a b, fuel, listed, none => match Region.ready .any ops listed with
    | j :: js => chkT P N ops a fuel listed (some [j]) && chkT P N ops b fuel listed (some js)
    | [] => false
  | .op _ (.gh g) t, fuel, listed, none => !g.top && chkT P N ops t fuel listed none
  | .op i (.op d g m) t, fuel + 1, listed, some [j] => i == j && chkI P N ops i (.op d g m) && chkT P N ops t fuel (listed.setIfInBounds i true) none
  | .alt a b, fuel, listed, some (j :: js) => chkT P N ops a fuel listed (some [j]) && chkT P N ops b fuel listed (some js)
  | _, _, _, _ => false

def drGoal (P : Program) (ops : Array Oper) (Q' : Exit → Act → World → Prop) (fuel : Nat) (listed : Array Bool) (a : Act) (w : World) : Option (List Nat) → Prop
  | none => wpAny P .any ops Q' fuel listed a w
  | some js => ∃ f, fuel = f + 1 ∧ ∀ i ∈ js, wpOp P ops Q' i (wpAny P .any ops Q' f (listed.setIfInBounds i true)) a w

theorem run_dr_nil (Q : St → Prop) (k : List It) (st : St) : run P Q (.dr .nil :: k) st = run P Q k st := by rw [run]
theorem run_dr_gh (Q : St → Prop) (k : List It) (st : St) (g : G) (i : Nat) (t : MT) : run P Q (.dr (.op i (.gh g) t) :: k) st = (gpre st g ∧ run P Q (.dr t :: k) (gst st g)) := by rw [run]
theorem run_dr_op (Q : St → Prop) (k : List It) (st : St) (i : Nat) (d : Option Nat) (g : Option (Nat × Bool)) (m : M) (t : MT) :
    run P Q (.dr (.op i (.op d g m) t) :: k) st = TG P d g m st fun st' => run P Q (.dr t :: k) st' := by rw [run]
theorem run_dr_alt (Q : St → Prop) (k : List It) (st : St) (x y : MT) : run P Q (.dr (.alt x y) :: k) st = (run P Q (.dr x :: k) st ∧ run P Q (.dr y :: k) st) := by rw [run]

theorem wpOp_of_one {ops : Array Oper} {i : Nat} {m : MI} {K : St → Prop} {K' : Act → World → Prop} {Q' : Exit → Act → World → Prop} {d : Option Nat} {g : Option (Nat × Bool)} {mm : M} (hm : m = .op d g mm)
    (h : RepS B st a w ρ) (hc : chkI P B.N ops i m = true) (hk : TG P d g mm st K) (hK : ∀ st' a' w' ρ', RepS B st' a' w' ρ' → K st' → K' a' w') : wpOp P ops Q' i K' a w := by
  subst hm
  simp only [chkI] at hc
  unfold wpOp
  split at hc
  · rename_i o ho
    simp only [ho]
    have := one_ok (Q' := Q') h hc hk hK
    split
    · rename_i hw; rw [if_pos hw] at this; exact .inl this
    · rename_i hw; rw [if_neg hw] at this; exact this
  · cases hc

theorem dr_ok {ops : Array Oper} {Q : St → Prop} {k : List It} {Q' : Exit → Act → World → Prop} (hsel : Region.noSelect ops = true) (hpan : ∀ c a w, ¬ Q' (.panic c) a w)
    (hQ : ∀ st a w ρ, RepS B st a w ρ → run P Q k st → Q' .normal a w) :
    ∀ (t : MT) (fuel : Nat) (listed : Array Bool) (js : Option (List Nat)) (st : St) (a : Act) (w : World) (ρ : Nat → Option (Nat × Nat)),
      chkT P B.N ops t fuel listed js = true → RepS B st a w ρ → run P Q (.dr t :: k) st → drGoal P ops Q' fuel listed a w js
  | .nil, fuel, listed, js, st, a, w, ρ, hc, h, hr => by
    cases js with
    | some js => simp [chkT] at hc
    | none =>
      simp only [chkT, List.isEmpty_iff] at hc
      rw [run_dr_nil] at hr
      cases fuel with
      | zero => exact ⟨hc, hQ _ _ _ _ h hr⟩
      | succ f => exact ⟨fun _ => hQ _ _ _ _ h hr, fun i hi => by rw [hc] at hi; cases hi⟩
  | .op i (.gh g) t, fuel, listed, js, st, a, w, ρ, hc, h, hr => by
    rw [run_dr_gh] at hr
    cases js with
    | some js => simp [chkT] at hc
    | none =>
      simp only [chkT, Bool.and_eq_true, Bool.not_eq_true'] at hc
      obtain ⟨ρ', h'⟩ := gh_ok g (fun e => by rw [hc.1] at e; cases e) h hr.1
      exact dr_ok hsel hpan hQ t fuel listed none _ a w ρ' hc.2 h' hr.2
  | .op i (.op d g m) t, fuel, listed, js, st, a, w, ρ, hc, h, hr => by
    rw [run_dr_op] at hr
    cases fuel with
    | zero => cases js with
      | none => simp [chkT] at hc
      | some js => simp [chkT] at hc
    | succ f =>
      have step : chkI P B.N ops i (.op d g m) = true → chkT P B.N ops t f (listed.setIfInBounds i true) none = true → wpOp P ops Q' i (wpAny P .any ops Q' f (listed.setIfInBounds i true)) a w := fun h1 h2 =>
        wpOp_of_one rfl h h1 hr fun st' a' w' ρ' h' hr' => dr_ok hsel hpan hQ t f _ none st' a' w' ρ' h2 h' hr'
      cases js with
      | none =>
        simp only [chkT, Bool.and_eq_true, Bool.or_eq_true, beq_iff_eq] at hc
        obtain ⟨⟨h1, h2⟩, h3⟩ := hc
        rcases h2 with h2 | ⟨⟨h2, h4⟩, h5⟩
        · refine ⟨fun e => (by rw [h2] at e; cases e), fun j hj => ?_⟩
          rw [h2, List.mem_singleton] at hj
          subst hj
          exact step h1 h3
        · simp only [chkI] at h1
          split at h1
          case h_2 => cases h1
          rename_i oi ho
          cases g with
          | some g => simp [indep] at h2
          | none =>
            cases m <;> simp only [indep, Bool.false_eq_true] at h2
            rename_i pm
            simp only [chk1, Bool.and_eq_true, beq_iff_eq] at h1
            obtain ⟨⟨⟨rfl, hd⟩, hg⟩, hm⟩ := h1
            have hN : ∀ t, oi.dst = some t → t < B.N := fun t e => by rw [e] at hd; simpa using hd
            have hog : oi.guard = none := by
              cases e : oi.guard with
              | none => rfl
              | some x => rw [e] at hg; simp [chkG] at hg
            have hr' : (res st pm).holds fun v => run P Q (.dr t :: k) (put? oi.dst st v) := hr
            obtain ⟨v, x, hv1, hv2, hk⟩ := free_ok h2 h hm hr'
            refine wpAny_first (v := x) ho (Region.noSelect_spec hsel) (fun c a w e => (hpan _ _ _ e).elim) f listed a w (Region.free_spec ho h5) (by simpa using h4) (.inl ⟨by simp [Region.wanted, hog], hv1⟩) ?_
            exact dr_ok hsel hpan hQ t f _ none _ _ w ρ h3 (h.put hN hv2) hk
      | some js =>
        match js, hc with
        | [], hc => simp [chkT] at hc
        | [j], hc =>
          simp only [chkT, Bool.and_eq_true, beq_iff_eq] at hc
          obtain ⟨⟨rfl, h1⟩, h3⟩ := hc
          refine ⟨f, rfl, fun j hj => ?_⟩
          rw [List.mem_singleton] at hj
          subst hj
          exact step h1 h3
        | _ :: _ :: _, hc => simp [chkT] at hc
  | .alt x y, fuel, listed, js, st, a, w, ρ, hc, h, hr => by
    rw [run_dr_alt] at hr
    have key : ∀ j js, chkT P B.N ops x fuel listed (some [j]) = true → chkT P B.N ops y fuel listed (some js) = true → drGoal P ops Q' fuel listed a w (some (j :: js)) := fun j js h1 h2 => by
      obtain ⟨f, rfl, g1⟩ := dr_ok hsel hpan hQ x fuel listed (some [j]) st a w ρ h1 h hr.1
      obtain ⟨f', e, g2⟩ := dr_ok hsel hpan hQ y _ listed (some js) st a w ρ h2 h hr.2
      obtain rfl : f = f' := by omega
      refine ⟨f, rfl, fun i hi => ?_⟩
      rcases List.mem_cons.1 hi with rfl | hi
      · exact g1 i (by simp)
      · exact g2 i hi
    cases js with
    | none =>
      simp only [chkT] at hc
      split at hc
      · rename_i j js e
        simp only [Bool.and_eq_true] at hc
        obtain ⟨f, rfl, g⟩ := key j js hc.1 hc.2
        exact ⟨fun e' => (by rw [e] at e'; cases e'), fun i hi => g i (by rw [e] at hi; exact hi)⟩
      · cases hc
    | some js =>
      match js, hc with
      | [], hc => simp [chkT] at hc
      | j :: js, hc =>
        simp only [chkT, Bool.and_eq_true] at hc
        exact key j js hc.1 hc.2

end
end Go.Vc
