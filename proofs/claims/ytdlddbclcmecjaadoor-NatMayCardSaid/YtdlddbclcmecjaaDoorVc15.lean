/-
  Vc15: code is sound.
-/
import Derived.Test.YtdlddbclcmecjaaDoorVc14
import Derived.StillTail
set_option linter.unusedVariables false
set_option linter.unusedSimpArgs false
namespace Go.Vc
open Go

def chkC (P : Program) (N : Nat) : MC → Code → Bool
  | .gh _ c, x => chkC P N c x
  | .cut c, x => chkC P N c x
  | .never, _ => true
  | .skip, .skip => true
  | .ops l, .region _ ops false => chkL P N ops ops.toList l
  | .ops l, .region _ ops true => P.follows .mixedOrders && chkL P N ops ops.toList l && (if allP l = true then Region.lexB .any ops else Region.lexTailB .any ops (stillLen l))
  | .dr t, .region _ ops true => P.follows .mixedOrders && Region.noSelect ops && chkT P N ops t ops.size (Array.replicate ops.size false) none
  | .seq a b, .seq x y => chkC P N a x && chkC P N b y
  | .cond c a b, .cond y x1 x2 => chkX y c && chkC P N a x1 && chkC P N b x2
  | .block id c, .block id' x => id == id' && chkC P N c x
  | .loop c, .loop x => chkC P N c x
  | .exit id, .exit id' => id == id'
  | .ret, .ret => true
  | _, _ => false

section
variable {P : Program} {B : Base} {st : St} {a : Act} {w : World} {ρ : Nat → Option (Nat × Nat)} {Q : St → Prop}

structure Post (P : Program) (B : Base) (Q : St → Prop) (k : List It) (Q' : Exit → Act → World → Prop) : Prop where
  normal : ∀ st a w ρ, RepS B st a w ρ → run P Q k st → Q' .normal a w
  exit : ∀ id st a w ρ, RepS B st a w ρ → run P Q (popTo id k) st → Q' (.exit id) a w
  ret : ∀ st a w ρ, RepS B st a w ρ → Q st → Q' .ret a w
  panic : ∀ c a w, ¬ Q' (.panic c) a w

theorem least {p : Nat → Prop} (h : ∃ n, p n) : ∃ n, p n ∧ ∀ m, p m → n ≤ m := by
  obtain ⟨n, hn⟩ := h
  induction n using Nat.strongRecOn with
  | _ n ih =>
    by_cases hm : ∃ m, m < n ∧ p m
    · obtain ⟨m, hm, hp⟩ := hm; exact ih m hm hp
    · exact ⟨n, hn, fun m hp => by
        rcases Nat.lt_or_ge m n with h | h
        · exact absurd ⟨m, h, hp⟩ hm
        · exact h⟩

theorem wp_loop_n {Q' : Exit → Act → World → Prop} {c : Code} (J : Nat → Act → World → Prop) {n : Nat} (h0 : J n a w)
    (round : ∀ n a w, J n a w → c.wp P (Exit.then (fun a' w' => ∃ n', n' < n ∧ J n' a' w') Q') a w) : (Code.loop c).wp P Q' a w := by
  classical
  let μ : Act → World → Nat := fun a w => if h : ∃ n, J n a w then Classical.choose (least h) else 0
  have hμ : ∀ a w (h : ∃ n, J n a w), J (μ a w) a w ∧ ∀ m, J m a w → μ a w ≤ m := fun a w h => by
    have e : μ a w = Classical.choose (least h) := dif_pos h
    rw [e]
    exact Classical.choose_spec (least h)
  refine wp_loop (fun a w => ∃ n, J n a w) μ ⟨n, h0⟩ fun a w h => ?_
  refine wp_mono (round _ a w (hμ a w h).1) fun e a' w' he => ?_
  cases e with
  | normal =>
    obtain ⟨n', hn, hj⟩ := he
    exact ⟨⟨n', hj⟩, Nat.lt_of_le_of_lt ((hμ a' w' ⟨n', hj⟩).2 n' hj) hn⟩
  | _ => exact he

theorem run_code_ops (k : List It) (st : St) (l : List MI) : run P Q (.code (.ops l) :: k) st = run P Q (.ops l :: k) st := by rw [run]
theorem run_code_dr (k : List It) (st : St) (t : MT) : run P Q (.code (.dr t) :: k) st = run P Q (.dr t :: k) st := by rw [run]
theorem run_never (k : List It) (st : St) : run P Q (.code .never :: k) st = False := by rw [run]
theorem run_skip (k : List It) (st : St) : run P Q (.code .skip :: k) st = run P Q k st := by rw [run]
theorem run_seq (k : List It) (st : St) (x y : MC) : run P Q (.code (.seq x y) :: k) st = run P Q (.code x :: .code y :: k) st := by rw [run]
theorem run_block (k : List It) (st : St) (id : Nat) (c : MC) : run P Q (.code (.block id c) :: k) st = run P Q (.code c :: .blk id :: k) st := by rw [run]
theorem run_exit (k : List It) (st : St) (id : Nat) : run P Q (.code (.exit id) :: k) st = run P Q (popTo id k) st := by rw [run]
theorem run_ret (k : List It) (st : St) : run P Q (.code .ret :: k) st = Q st := by rw [run]
theorem run_blk (k : List It) (st : St) (id : Nat) : run P Q (.blk id :: k) st = run P Q k st := by rw [run]
theorem run_back (k : List It) (st : St) (J : St → Prop) : run P Q (.back J :: k) st = J st := by rw [run]
theorem run_gh (k : List It) (st : St) (g : G) (c : MC) : run P Q (.code (.gh g c) :: k) st = (gpre st g ∧ run P Q (.code c :: k) (gst st g)) := by rw [run]
theorem run_cut (k : List It) (st : St) (c : MC) : run P Q (.code (.cut c) :: k) st = ∃ R : St → Prop, run P Q (.code c :: .back (fun s => ∃ s', Ent s s' ∧ R s') :: k) st ∧ ∀ s', R s' → run P Q k s' := by rw [run]
theorem run_loop (k : List It) (st : St) (c : MC) : run P Q (.code (.loop c) :: k) st = ∃ (I : Nat → St → Prop) (n : Nat), (∃ st', Ent st st' ∧ I n st') ∧ ∀ n st', I n st' → run P Q (.code c :: .back (fun s => ∃ s', Ent s s' ∧ ∃ n', n' < n ∧ I n' s') :: k) st' := by rw [run]
theorem run_cond (k : List It) (st : St) (x : X) (c d : MC) : run P Q (.code (.cond x c d) :: k) st = (match evX st x with
    | .bool t => (t = true → run P Q (.code c :: k) (setB st x true)) ∧ (t = false → run P Q (.code d :: k) (setB st x false))
    | _ => False) := by rw [run]; cases evX st x <;> rfl
theorem run_nil (st : St) : run P Q [] st = Q st := by rw [run]

theorem popTo_back (id : Nat) (J : St → Prop) (k : List It) : popTo id (.back J :: k) = popTo id k := rfl
theorem popTo_code (id : Nat) (c : MC) (k : List It) : popTo id (.code c :: k) = popTo id k := rfl

theorem code_ok : ∀ (c : MC) (x : Code) (k : List It) (Q' : Exit → Act → World → Prop) (st : St) (a : Act) (w : World) (ρ : Nat → Option (Nat × Nat)),
    (c.top = true → B.bare) → chkC P B.N c x = true → RepS B st a w ρ → Post P B Q k Q' → run P Q (.code c :: k) st → x.wp P Q' a w
  | .gh g c, x, k, Q', st, a, w, ρ, hB, hc, h, hq, hr => by
    rw [run_gh] at hr
    obtain ⟨ρ', h'⟩ := gh_ok g (fun e => hB (by simp only [MC.top, e, Bool.true_or])) h hr.1
    exact code_ok c x k Q' _ a w ρ' (fun e => hB (by simp only [MC.top, e, Bool.or_true])) (by simpa [chkC] using hc) h' hq hr.2
  | .cut c, x, k, Q', st, a, w, ρ, hB, hc, h, hq, hr => by
    rw [run_cut] at hr
    obtain ⟨R, hr, hR⟩ := hr
    refine code_ok c x _ Q' st a w ρ hB (by simpa [chkC] using hc) h ⟨fun st a w ρ h hr => ?_, fun id st a w ρ h hr => ?_, hq.ret, hq.panic⟩ hr
    · rw [run_back] at hr
      obtain ⟨s', he, hs⟩ := hr
      obtain ⟨ρ', h'⟩ := he _ _ _ _ h
      exact hq.normal _ _ _ _ h' (hR s' hs)
    · rw [popTo_back] at hr; exact hq.exit id _ _ _ _ h hr
  | .never, x, k, Q', st, a, w, ρ, hB, hc, h, hq, hr => by rw [run_never] at hr; exact hr.elim
  | .skip, x, k, Q', st, a, w, ρ, hB, hc, h, hq, hr => by
    cases x <;> simp only [chkC, Bool.false_eq_true] at hc
    rw [run_skip] at hr
    exact wp_skip (hq.normal _ _ _ _ h hr)
  | .ops l, x, k, Q', st, a, w, ρ, hB, hc, h, hq, hr => by
    rw [run_code_ops] at hr
    cases x with
    | region id ops draw =>
      cases draw with
      | false =>
        simp only [chkC] at hc
        exact wp_region_list (list_ok hq.normal l _ st a w ρ hB hc h hr)
      | true =>
        simp only [chkC, Bool.and_eq_true] at hc
        obtain ⟨⟨h1, h4⟩, h2⟩ := hc
        by_cases h3 : allP l = true
        · rw [if_pos h3] at h2
          exact wp_region_still h1 h2 (list_still (fun st a h hr => hq.normal _ _ _ _ h hr) l _ st a h3 h4 (h.drew _) hr)
        · rw [if_neg h3] at h2
          obtain ⟨os⟩ := ops
          exact wp_region_still_tail (stillLen l) h1 h2 (list_head hq.normal l _ os st a hB (Nat.le_refl _) h4 (h.drew _) hr)
    | _ => simp [chkC] at hc
  | .dr t, x, k, Q', st, a, w, ρ, hB, hc, h, hq, hr => by
    rw [run_code_dr] at hr
    cases x with
    | region id ops draw =>
      cases draw with
      | false => simp [chkC] at hc
      | true =>
        simp only [chkC, Bool.and_eq_true] at hc
        obtain ⟨⟨h1, h2⟩, h3⟩ := hc
        exact wp_region_any h1 (dr_ok h2 hq.panic hq.normal t _ _ none st a _ ρ h3 (h.drew _) hr)
    | _ => simp [chkC] at hc
  | .seq c d, x, k, Q', st, a, w, ρ, hB, hc, h, hq, hr => by
    cases x <;> simp only [chkC, Bool.false_eq_true] at hc
    rename_i x y
    simp only [Bool.and_eq_true] at hc
    rw [run_seq] at hr
    refine wp_seq (code_ok c x (.code d :: k) _ st a w ρ (fun e => hB (by simp only [MC.top, e, Bool.true_or])) hc.1 h ⟨fun st a w ρ h hr => ?_, fun id st a w ρ h hr => ?_, fun st a w ρ h hr => hq.ret _ _ _ _ h hr, fun c a w e => hq.panic c a w e⟩ hr)
    · exact code_ok d y k Q' st a w ρ (fun e => hB (by simp only [MC.top, e, Bool.or_true])) hc.2 h hq hr
    · rw [popTo_code] at hr; exact hq.exit id _ _ _ _ h hr
  | .cond c d e, x, k, Q', st, a, w, ρ, hB, hc, h, hq, hr => by
    cases x <;> simp only [chkC, Bool.false_eq_true] at hc
    rename_i y x1 x2
    simp only [Bool.and_eq_true] at hc
    rw [run_cond] at hr
    split at hr
    case h_2 => exact hr.elim
    rename_i t et
    have hb := eval_bool h hc.1.1 et
    cases t with
    | true => exact wp_cond_true hb (code_ok d x1 k Q' _ a w ρ (fun e => hB (by simp only [MC.top, e, Bool.true_or])) hc.1.2 (h.setB' et) hq (hr.1 rfl))
    | false => exact wp_cond_false hb (code_ok e x2 k Q' _ a w ρ (fun e => hB (by simp only [MC.top, e, Bool.or_true])) hc.2 (h.setB' et) hq (hr.2 rfl))
  | .block id c, x, k, Q', st, a, w, ρ, hB, hc, h, hq, hr => by
    cases x <;> simp only [chkC, Bool.false_eq_true] at hc
    rename_i id' x
    simp only [Bool.and_eq_true, beq_iff_eq] at hc
    obtain ⟨rfl, hc⟩ := hc
    rw [run_block] at hr
    refine wp_block (code_ok c x _ _ st a w ρ hB hc h ⟨fun st a w ρ h hr => ?_, fun id' st a w ρ h hr => ?_, fun st a w ρ h hr => hq.ret _ _ _ _ h hr, fun c a w e => hq.panic c a w e⟩ hr)
    · rw [run_blk] at hr; exact hq.normal _ _ _ _ h hr
    · simp only [popTo] at hr
      simp only [Exit.inBlock]
      by_cases e : id' = id
      · rw [if_pos e.symm] at hr; rw [if_pos e]; exact hq.normal _ _ _ _ h hr
      · rw [if_neg (Ne.symm e)] at hr; rw [if_neg e]; exact hq.exit _ _ _ _ _ h hr
  | .loop c, x, k, Q', st, a, w, ρ, hB, hc, h, hq, hr => by
    cases x <;> simp only [chkC, Bool.false_eq_true] at hc
    rename_i x
    rw [run_loop] at hr
    obtain ⟨I, n, ⟨s0, he, hI⟩, round⟩ := hr
    obtain ⟨ρ0, h0⟩ := he _ _ _ _ h
    refine wp_loop_n (fun n a w => ∃ st ρ, RepS B st a w ρ ∧ I n st) (n := n) ⟨s0, ρ0, h0, hI⟩ fun n a w ⟨s, ρ, h, hI⟩ => ?_
    refine code_ok c x _ _ s a w ρ hB hc h ⟨fun st a w ρ h hr => ?_, fun id st a w ρ h hr => ?_, fun st a w ρ h hr => hq.ret _ _ _ _ h hr, fun c a w e => hq.panic c a w e⟩ (round n s hI)
    · rw [run_back] at hr
      obtain ⟨s', he, n', hn, hI⟩ := hr
      obtain ⟨ρ', h'⟩ := he _ _ _ _ h
      exact ⟨n', hn, s', ρ', h', hI⟩
    · rw [popTo_back] at hr; exact hq.exit id _ _ _ _ h hr
  | .exit id, x, k, Q', st, a, w, ρ, hB, hc, h, hq, hr => by
    cases x <;> simp only [chkC, Bool.false_eq_true, beq_iff_eq] at hc
    subst hc
    rw [run_exit] at hr
    exact wp_exit (hq.exit _ _ _ _ _ h hr)
  | .ret, x, k, Q', st, a, w, ρ, hB, hc, h, hq, hr => by
    cases x <;> simp only [chkC, Bool.false_eq_true] at hc
    rw [run_ret] at hr
    exact wp_ret (hq.ret _ _ _ _ h hr)

end
end Go.Vc
