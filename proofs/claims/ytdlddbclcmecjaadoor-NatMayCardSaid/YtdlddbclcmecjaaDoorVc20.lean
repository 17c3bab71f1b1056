/-
  Vc20: contracts that lend nothing; their use.
-/
import Derived.Test.YtdlddbclcmecjaaDoorVc19
set_option linter.unusedVariables false
set_option linter.unusedSimpArgs false
namespace Go.Vc
open Go

/-- A contract that lends nothing and hands back no row. -/
def FSpec0 (P : Program) (f : FuncId) (args : List AV) (post : AV → Prop) : Prop := FSpec P f args [] fun r hp' => hp' = [] ∧ post r

def Ret0 (slots : List Nat) (post : AV → Prop) (st : St) : Prop := Ret slots [] (fun r hp' => hp' = [] ∧ post r) st

section
variable {P : Program} {Q : St → Prop} {k : List It} {st : St} {d : Option Nat}

theorem callK0 {f : FuncId} {vs args : List AV} {post : AV → Prop} (h : FSpec0 P f args post) (hs : subs st.hp [] vs args) (hk : ∀ r, post r → run P Q k (put? d st r)) : callK P Q k d st f vs := by
  obtain ⟨env, hp⟩ := st
  refine ⟨args, [], _, h, hs, trivial, fun r hp' hr => ?_⟩
  obtain ⟨rfl, hr⟩ := hr
  refine ⟨fun i hi => absurd rfl hi, ?_⟩
  have e1 : killM env [] = env := rfl
  have e2 : killMH hp [] = hp := rfl
  show run P Q k (put? d ⟨killM env [], hupd (killMH hp []) []⟩ r)
  rw [e1, e2]
  exact hk r hr

theorem callKL {f : FuncId} {vs args : List AV} {lent : Heap} {post : AV → Heap → Prop} (h : FSpec P f args lent post) (hs : subs st.hp lent vs args) (hl : lends st.hp lent lent)
    (hk : ∀ r hp', post r hp' → (∀ i, hget hp' i ≠ none → hget lent i ≠ none ∨ (hget st.hp i = none ∧ i < 1000)) ∧ run P Q k (after st lent d r hp')) : callK P Q k d st f vs := ⟨args, lent, post, h, hs, hl, hk⟩

theorem fspec0_of_run {f : FuncId} {args : List AV} {post : AV → Prop} {slots : List Nat} {c : MC} (hc : chkF P f args.length slots c = true)
    (hrun : run P (Ret0 slots post) [.code c] ⟨env0 0 args, []⟩) : FSpec0 P f args post := fspec_of_run hc rfl (fun _ => rfl) hrun

theorem ret0 {slots : List Nat} {post : AV → Prop} {env : Env} {hp : Heap} (r : AV) (h : retR hp [] (slots.map (eget env)) r) (hr : post r) : Ret0 slots post ⟨env, hp⟩ := ⟨r, [], h, trivial, trivial, rfl, hr⟩

theorem cut_intro {c : MC} (R : St → Prop) (h1 : run P Q (.code c :: .back (fun s => ∃ s', Ent s s' ∧ R s') :: k) st) (h2 : ∀ s', R s' → run P Q k s') : run P Q (.code (.cut c) :: k) st := by
  rw [run_cut]; exact ⟨R, h1, h2⟩
theorem join_intro {R : St → Prop} {env : Env} {hp : Heap} (env' : Env) (h0 : ∀ p, p ∈ env' → eget env' p.1 = eget env p.1) (hR : R ⟨env', hp⟩) : ∃ s', Ent ⟨env, hp⟩ s' ∧ R s' := ⟨_, Ent.of_env h0, hR⟩

theorem FSpec0.of_facts {f : FuncId} {args : List AV} {post : AV → Prop} (h : facts args → FSpec0 P f args post) : FSpec0 P f args post := FSpec.of_facts h
theorem FSpec0.mono {f : FuncId} {args : List AV} {post post' : AV → Prop} (h : FSpec0 P f args post) (hk : ∀ r, post r → post' r) : FSpec0 P f args post' := FSpec.mono h fun r hp' hr => ⟨hr.1, hk r hr.2⟩
end

/-- slices of naturals' limbs, of bytes, of numbers -/
def uL (fr : Bool) (xs : List Int) : AV := .ro fr 1 (encI .u32) xs
def lim (xs : List Int) : Prop := ∀ x, x ∈ xs → 0 ≤ x ∧ x < 4294967296
theorem lim_of_factL {xs : List Int} (h : factL (encI .u32) xs) : lim xs := fun x hx => h.2 x hx (.int .u32 x) (by simp [encI])

theorem get_of_some {α : Type} {xs : List α} {i : Nat} {e : α} (h : xs[i]? = some e) : ∃ h : i < xs.length, xs[i] = e := List.getElem?_eq_some_iff.1 h

end Go.Vc
