/-
  Vc13: one operation is sound, whatever it is; a list of them; code.
-/
import Derived.Test.YtdlddbclcmecjaaDoorVc12
import Derived.Still
set_option linter.unusedVariables false
set_option linter.unusedSimpArgs false
namespace Go.Vc
open Go

/-! ### What is to be looked at -/
def chkXs : List Operand → List X → Bool
  | [], [] => true
  | o :: os, x :: xs => chkX o x && chkXs os xs
  | _, _ => false

def chkM (P : Program) (N : Nat) (o : Oper) : M → Bool
  | .p m => chkPM P o m
  | .w m => chkWM P N o m
  | .pick c x y => match o.op with | .pick c' x' y' => chkX c' c && chkX x' x && chkX y' y | _ => false
  | .call f args => match o.op with | .call ⟨.value (.func f'), xs, _⟩ => f == f' && okFn P f && chkXs xs.toList args | _ => false
  | .callv x args => match o.op with | .call ⟨.value y, xs, _⟩ => chkX y x && chkXs xs.toList args | _ => false
  | .bad => true

def chkG (ops : Array Oper) : Option (Nat × Bool) → Option (Nat × Bool) → Bool
  | none, none => true
  | some (j, want), some (t, want') => want == want' && ((ops[j]?).bind (·.dst)) == some t
  | _, _ => false

def chk1 (P : Program) (N : Nat) (ops : Array Oper) (o : Oper) (d : Option Nat) (g : Option (Nat × Bool)) (m : M) : Bool :=
  o.dst == d && (match d with | some t => decide (t < N) | none => true) && chkG ops o.guard g && chkM P N o m

def chkL (P : Program) (N : Nat) (ops : Array Oper) : List Oper → List MI → Bool
  | os, .gh _ :: l => chkL P N ops os l
  | o :: os, .op d g m :: l => chk1 P N ops o d g m && chkL P N ops os l
  | [], [] => true
  | _, _ => false

def isStill : M → Bool
  | .p _ => true
  | .pick _ _ _ => true
  | _ => false
def allP : List MI → Bool
  | [] => true
  | .op _ _ m :: l => isStill m && allP l
  | .gh _ :: _ => false

section
variable {P : Program} {B : Base} {st : St} {a : Act} {w : World} {ρ : Nat → Option (Nat × Nat)} {o : Oper}

theorem chkXs_ok (h : RepS B st a w ρ) : ∀ {os : List Operand} {xs : List X}, chkXs os xs = true →
    os.length = xs.length ∧ ∀ i v, (xs.map (evX st))[i]? = some v → RepV (ctxOf B st.hp w ρ) v ((os.map a.eval).toArray.getD i undef)
  | [], [], _ => ⟨rfl, fun i v hv => by simp at hv⟩
  | o :: os, x :: xs, hc => by
    simp only [chkXs, Bool.and_eq_true] at hc
    obtain ⟨h1, h2⟩ := chkXs_ok h hc.2
    refine ⟨by simp [h1], fun i v hv => ?_⟩
    cases i with
    | zero => simp at hv; subst hv; simpa using chkX_ok h hc.1
    | succ i =>
      have := h2 i v (by simpa using hv)
      simpa [Array.getD_eq_getD_getElem?] using this
  | [], _ :: _, hc => by simp [chkXs] at hc
  | _ :: _, [], hc => by simp [chkXs] at hc

theorem RepS.put (h : RepS B st a w ρ) {d : Option Nat} (hd : ∀ t, d = some t → t < B.N) {v : AV} {x : Value} (hv : RepV (ctxOf B st.hp w ρ) v x) :
    RepS B (put? d st v) (a.put d x) w ρ := by
  cases d with
  | none => exact h
  | some d => exact h.set (hd d rfl) hv

theorem RepS.same (h : RepS B st a w ρ) {t : Nat} {v : AV} (e : eget st.env t = v) : RepS B (st.set t v) a w ρ :=
  h.weaken fun n => .inr (by
    show eget (eset st.env t v) n = _
    rw [eget_eset]; split
    · subst_vars; rfl
    · rfl)

theorem RepS.setB' (h : RepS B st a w ρ) {x : X} {b : Bool} (e : evX st x = .bool b) : RepS B (setB st x b) a w ρ := by
  cases x with
  | t n => exact h.same e
  | _ => exact h

theorem RepS.drew (h : RepS B st a w ρ) (n : Nat) : RepS B st a { w with drawn := n } ρ := by
  obtain ⟨env, hp⟩ := st
  refine h.trans (hp' := hp) (w' := { w with drawn := n }) (ρ' := ρ) (Nat.le_refl _) rfl rfl rfl (fun _ => rfl) (fun b hb ho => ⟨rfl, ho⟩) (fun id _ => ⟨rfl, rfl⟩) h.inj h.lt h.wr (fun i ob hi => ?_) h.fix
  have hl : (ctxOf B hp w ρ).Le (ctxOf B hp { w with drawn := n } ρ) := Ctx.Le.of_keep (w' := { w with drawn := n }) (Nat.le_refl _) (fun b hb ho => ⟨rfl, ho⟩) (fun id _ => ⟨rfl, rfl⟩)
  exact (h.hp i ob hi).mono hl rfl (fun _ _ _ => rfl)

theorem callFunc_run {f : FuncId} (hok : okFn P f = true) (xs : Array Value) (w : World) : (callFunc f xs).run P w = .ok (.enter f xs) w := by
  unfold okFn at hok
  split at hok
  · rename_i fn hf
    simp only [Bool.and_eq_true, bne_iff_ne, ne_eq] at hok
    have hb : fn.body.isNone = false := by cases h : fn.body <;> simp_all
    have hn : fn.body ≠ none := by intro e; rw [e] at hb; simp at hb
    unfold callFunc
    simp [Sem.run_bind, program, Result.andThen, hf, hok.2, hb, hn, pure, Sem.run, bind, Sem.bind]
  · cases hok

/-- The next state of an operation: a world, a slot. -/
theorem m_ok {m : M} {K : St → Prop} {K' : Act → World → Prop} {Q' : Exit → Act → World → Prop} (h : RepS B st a w ρ) (hN : ∀ t, o.dst = some t → t < B.N)
    (hc : chkM P B.N o m = true) (hk : T P m o.dst st K) (hK : ∀ st' a' w' ρ', RepS B st' a' w' ρ' → K st' → K' a' w') : o.wp P a w K' Q' := by
  cases m with
  | bad => exact hk.elim
  | p m =>
    obtain ⟨v, x, he, hv, hk⟩ := pm_ok h m hc hk
    unfold Oper.wp
    rw [he]
    exact hK _ _ _ _ (h.put hN hv) hk
  | w m =>
    obtain ⟨r, x, w', st', ρ', he, hr, hs, hk⟩ := wm_ok h m hN hc hk
    unfold Oper.wp
    rw [he]
    rcases hr with rfl | ⟨rfl, rfl⟩
    · exact hK _ _ _ _ hs hk
    · exact hK _ _ _ _ hs hk
  | pick c x y =>
    obtain ⟨dst, op, type, pos, after, guard⟩ := o
    cases op <;> simp only [chkM, Bool.false_eq_true] at hc
    rename_i c' x' y'
    simp only [Bool.and_eq_true] at hc
    simp only [T] at hk
    split at hk
    case h_2 => exact hk.elim
    rename_i t e
    have hb := eval_bool h hc.1.1 e
    unfold Oper.wp
    have he : (execOp a.eval { dst, op := .pick c' x' y', type, pos, after, guard }).run P w = .ok (.value (if t = true then a.eval x' else a.eval y')) w := by
      simp [execOp, hb, asBool, pure, Sem.run, bind, Sem.bind, Result.andThen]
    rw [he]
    cases t with
    | true => exact hK _ _ _ _ ((h.setB' e).put hN (by
        have : (setB st c true).hp = st.hp := by cases c <;> rfl
        rw [this]; exact chkX_ok h hc.1.2)) (hk.1 rfl)
    | false => exact hK _ _ _ _ ((h.setB' e).put hN (by
        have : (setB st c false).hp = st.hp := by cases c <;> rfl
        rw [this]; exact chkX_ok h hc.2)) (hk.2 rfl)
  | call f args =>
    obtain ⟨dst, op, type, pos, after, guard⟩ := o
    cases op <;> simp only [chkM, Bool.false_eq_true] at hc
    split at hc
    case h_2 => cases hc
    rename_i f' xs ats heq
    injection heq with heq
    subst heq
    simp only [Bool.and_eq_true, beq_iff_eq] at hc
    obtain ⟨⟨rfl, hok⟩, hxs⟩ := hc
    obtain ⟨h1, h2⟩ := chkXs_ok h hxs
    have he : execOp a.eval { dst, op := .call { callee := .value (.func f), args := xs, argTypes := ats }, type, pos, after, guard } = callFunc f (#[] ++ xs.map a.eval ++ #[]) := rfl
    unfold Oper.wp
    rw [he, callFunc_run hok, Oper.upon_enter]
    have hxe : (#[] ++ xs.map a.eval ++ #[]) = (xs.toList.map a.eval).toArray := by
      obtain ⟨xs⟩ := xs
      simp
    rw [hxe]
    refine Calls.mono (call_ok h hN hk (by simp [← h1]) h2) fun e w' he => ?_
    obtain ⟨x, st', ρ', rfl, hs, hk⟩ := he
    exact hK _ _ _ _ hs hk
  | callv x args =>
    obtain ⟨dst, op, type, pos, after, guard⟩ := o
    cases op <;> simp only [chkM, Bool.false_eq_true] at hc
    split at hc
    case h_2 => cases hc
    rename_i y xs ats heq
    injection heq with heq
    subst heq
    simp only [Bool.and_eq_true] at hc
    obtain ⟨hy, hxs⟩ := hc
    simp only [T] at hk
    split at hk
    case h_2 => exact hk.elim
    rename_i f e
    obtain ⟨hok, hk⟩ := hk
    have hf : a.eval y = .func (.func f) #[] #[] := by
      have := chkX_ok h hy
      rw [e] at this
      exact this
    obtain ⟨h1, h2⟩ := chkXs_ok h hxs
    have he : (execOp a.eval { dst, op := .call { callee := .value y, args := xs, argTypes := ats }, type, pos, after, guard }).run P w = (callFunc f (#[] ++ xs.map a.eval ++ #[])).run P w := by
      simp only [execOp, resolve, hf, Deferred.ofValue]
      rfl
    unfold Oper.wp
    rw [he, callFunc_run hok, Oper.upon_enter]
    have hxe : (#[] ++ xs.map a.eval ++ #[]) = (xs.toList.map a.eval).toArray := by
      obtain ⟨xs⟩ := xs
      simp
    rw [hxe]
    refine Calls.mono (call_ok h hN hk (by simp [← h1]) h2) fun e w' he => ?_
    obtain ⟨x, st', ρ', rfl, hs, hk⟩ := he
    exact hK _ _ _ _ hs hk

theorem yielded_of {ops : Array Oper} {j t : Nat} {b : Bool} (h : RepS B st a w ρ) (hj : ((ops[j]?).bind (·.dst)) = some t) (e : eget st.env t = .bool b) : yielded ops a.tmps j = some b := by
  have := h.env t
  rw [e] at this
  have this : a.tmps.getD t undef = .bool b := this
  unfold yielded
  rw [hj]
  rw [Array.getD_eq_getD_getElem?] at this
  cases h2 : a.tmps[t]? with
  | none => rw [h2] at this; simp [undef] at this
  | some x => rw [h2] at this; simp at this; subst this; simp [h2]

theorem yielded_none {ops : Array Oper} {j t : Nat} (h : RepS B st a w ρ) (hj : ((ops[j]?).bind (·.dst)) = some t) (e : eget st.env t = .tup []) : yielded ops a.tmps j = none := by
  have := h.env t
  rw [e] at this
  obtain ⟨vs, hv, _⟩ := this
  unfold yielded
  rw [hj]
  rw [Array.getD_eq_getD_getElem?] at hv
  cases h2 : a.tmps[t]? with
  | none => simp [h2]
  | some x => rw [h2] at hv; simp at hv; subst hv; simp [h2]

theorem repU {c : Ctx} : RepV c (.tup []) undef := ⟨#[], rfl, rfl, fun i u h => by simp at h⟩

/-- One operation of a region, with its guard. -/
theorem one_ok {ops : Array Oper} {d : Option Nat} {g : Option (Nat × Bool)} {m : M} {K : St → Prop} {K' : Act → World → Prop} {Q' : Exit → Act → World → Prop} (h : RepS B st a w ρ)
    (hc : chk1 P B.N ops o d g m = true) (hk : TG P d g m st K) (hK : ∀ st' a' w' ρ', RepS B st' a' w' ρ' → K st' → K' a' w') :
    if Region.wanted o (yielded ops a.tmps) then o.wp P a w K' Q' else K' (a.put o.dst undef) w := by
  simp only [chk1, Bool.and_eq_true, beq_iff_eq] at hc
  obtain ⟨⟨⟨rfl, hd⟩, hg⟩, hm⟩ := hc
  have hN : ∀ t, o.dst = some t → t < B.N := fun t e => by rw [e] at hd; simpa using hd
  cases hog : o.guard with
  | none =>
    rw [hog] at hg
    cases g with
    | some g => simp [chkG] at hg
    | none =>
      rw [if_pos (by simp [Region.wanted, hog])]
      exact m_ok h hN hm hk hK
  | some jw =>
    obtain ⟨j, want⟩ := jw
    rw [hog] at hg
    cases g with
    | none => simp [chkG] at hg
    | some tw =>
      obtain ⟨t, want'⟩ := tw
      simp only [chkG, Bool.and_eq_true, beq_iff_eq] at hg
      obtain ⟨rfl, hj⟩ := hg
      simp only [TG] at hk
      split at hk
      case h_3 => exact hk.elim
      case h_2 e =>
        have hy := yielded_none h hj e
        rw [if_neg (by simp [Region.wanted, hog, hy])]
        exact hK _ _ _ _ (h.put hN repU) hk
      rename_i b e
      have hy := yielded_of h hj e
      by_cases hb : b = want
      · rw [if_pos (by simp [Region.wanted, hog, hy, hb])]
        exact m_ok (h.same (hb ▸ e)) hN hm (hk.1 hb) hK
      · have hb' : b = !want := by cases b <;> cases want <;> simp_all
        rw [if_neg (by simp [Region.wanted, hog, hy, hb])]
        have h2 := h.same (t := t) (v := .bool (!want)) (hb' ▸ e)
        exact hK _ _ _ _ (h2.put hN repU) (hk.2 hb')

theorem run_ops_nil (Q : St → Prop) (k : List It) (st : St) : run P Q (.ops [] :: k) st = run P Q k st := by rw [run]
theorem run_ops_gh (Q : St → Prop) (k : List It) (st : St) (g : G) (l : List MI) : run P Q (.ops (.gh g :: l) :: k) st = (gpre st g ∧ run P Q (.ops l :: k) (gst st g)) := by rw [run]
theorem run_ops_op (Q : St → Prop) (k : List It) (st : St) (d : Option Nat) (g : Option (Nat × Bool)) (m : M) (l : List MI) :
    run P Q (.ops (.op d g m :: l) :: k) st = TG P d g m st fun st' => run P Q (.ops l :: k) st' := by rw [run]

theorem list_ok {ops : Array Oper} {Q : St → Prop} {k : List It} {Q' : Exit → Act → World → Prop} (hQ : ∀ st a w ρ, RepS B st a w ρ → run P Q k st → Q' .normal a w) :
    ∀ (l : List MI) (os : List Oper) (st : St) (a : Act) (w : World) (ρ : Nat → Option (Nat × Nat)), (l.any topI = true → B.bare) → chkL P B.N ops os l = true → RepS B st a w ρ → run P Q (.ops l :: k) st → wpList P ops Q' os a w
  | [], os, st, a, w, ρ, hB, hc, h, hr => by
    cases os with
    | nil => rw [run_ops_nil] at hr; exact wpList_nil (hQ _ _ _ _ h hr)
    | cons o os => simp [chkL] at hc
  | .gh g :: l, os, st, a, w, ρ, hB, hc, h, hr => by
    rw [run_ops_gh] at hr
    obtain ⟨ρ', h'⟩ := gh_ok g (fun e => hB (by simp [topI, e])) h hr.1
    exact list_ok hQ l os _ a w ρ' (fun e => hB (by simp only [List.any_cons, e, Bool.or_true])) (by simpa [chkL] using hc) h' hr.2
  | .op d g m :: l, os, st, a, w, ρ, hB, hc, h, hr => by
    cases os with
    | nil => simp [chkL] at hc
    | cons o os =>
      simp only [chkL, Bool.and_eq_true] at hc
      rw [run_ops_op] at hr
      exact wpList_step fun K hK => one_ok h hc.1 hr fun st' a' w' ρ' h' hr' => hK _ _ (list_ok hQ l os st' a' w' ρ' (fun e => hB (by simp only [List.any_cons, e, Bool.or_true])) hc.2 h' hr')
end
end Go.Vc
