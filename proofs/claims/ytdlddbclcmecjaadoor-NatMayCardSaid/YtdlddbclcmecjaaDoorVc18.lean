/-
  Vc18: encodings; states compared; facts that come for nothing.
-/
import Derived.Test.YtdlddbclcmecjaaDoorVc17
set_option linter.unusedVariables false
set_option linter.unusedSimpArgs false
namespace Go.Vc
open Go

def encI (k : IntKind) : Int → List DV := fun x => [.int k x]
def encB : Bool → List DV := fun x => [.bool x]
def encS : ByteArray → List DV := fun x => [.str x]
def encR {α : Type} (sz : Nat) (enc : α → List DV) : List α → List DV := fun x => [.ro sz enc x]

theorem encI_app (k : IntKind) (x : Int) : encI k x = [.int k x] := rfl
theorem encB_app (x : Bool) : encB x = [.bool x] := rfl
theorem encS_app (x : ByteArray) : encS x = [.str x] := rfl
theorem encR_app {α : Type} (sz : Nat) (enc : α → List DV) (x : List α) : encR sz enc x = [.ro sz enc x] := rfl
theorem scalE_I (k : IntKind) (xs : List Int) : scalE (encI k) xs = True := by simp [scalE, encI, scal]
theorem scalE_B (xs : List Bool) : scalE encB xs = True := by simp [scalE, encB, scal]
theorem scalE_S (xs : List ByteArray) : scalE encS xs = True := by simp [scalE, encS, scal]

/-- what is known of a slot's state is forgotten, down to these slots -/
theorem Ent.of_env {env env' : Env} {hp : Heap} (h : ∀ p, p ∈ env' → eget env' p.1 = eget env p.1) : Ent ⟨env, hp⟩ ⟨env', hp⟩ := fun B a w ρ hr => by
  refine ⟨ρ, hr.weaken fun n => ?_⟩
  by_cases hn : ∃ p, p ∈ env' ∧ p.1 = n
  · obtain ⟨p, hp, rfl⟩ := hn; exact .inr (h p hp)
  · refine .inl ?_
    clear h
    induction env' with
    | nil => rfl
    | cons q t ih =>
      obtain ⟨i, v⟩ := q
      simp only [eget]
      rw [if_neg (fun e => hn ⟨(i, v), by simp, e⟩)]
      exact ih (fun ⟨p, hp, e⟩ => hn ⟨p, List.mem_cons_of_mem _ hp, e⟩)

/-- The same, to be reckoned. -/
def entB (env : Env) : Env → Prop
  | [] => True
  | (n, v) :: t => eget env n = v ∧ (∀ u, (n, u) ∈ t → u = v) ∧ entB env t

/-! ### Facts that come for nothing -/
def factD : DV → Prop
  | .int k n => inK k n
  | .bool _ => True
  | .str s => s.size ≤ 281474976710656
  | .ro _ _ xs => xs.length ≤ 281474976710656

theorem RepD.fact {w : World} {ok : Nat → Prop} {d : DV} {v : Value} (h : RepD w ok d v) : factD d := by
  cases h with
  | int k n h => exact h
  | bool b => trivial
  | str s h => exact h
  | ro sz enc xs A c cell hc hm => exact hm

/-- of a list: each of its elements' cells, and what these lead to, one step -/
def factL {α : Type} (enc : α → List DV) (xs : List α) : Prop := xs.length ≤ 281474976710656 ∧ ∀ x, x ∈ xs → ∀ d, d ∈ enc x → factD d

theorem RepD.factL {w : World} {ok : Nat → Prop} {α : Type} {sz : Nat} {enc : α → List DV} {xs : List α} {v : Value} (h : RepD w ok (.ro sz enc xs) v) : factL enc xs := by
  cases h with
  | ro _ _ _ A c cell hc hm hA hs hr =>
    refine ⟨hm, fun x hx d hd => ?_⟩
    obtain ⟨i, hi⟩ := List.getElem?_of_mem hx
    obtain ⟨j, hj⟩ := List.getElem?_of_mem hd
    exact (hr i x j d hi hj).fact

def factV : AV → Prop
  | .int k n => inK k n
  | .str s => s.size ≤ 281474976710656
  | .ro _ _ enc xs => factL enc xs
  | _ => True

theorem RepC.fact {c : Ctx} {v : AV} {x : Value} (h : RepC c v x) : factV v := by
  cases v <;> try trivial
  case int k n => exact h.2
  case str s => exact h.2
  case ro fr sz enc xs => exact RepD.factL (w := c.w) (ok := c.okf fr) h

def facts : List AV → Prop
  | [] => True
  | v :: vs => factV v ∧ facts vs

theorem RepV.fact {c : Ctx} {v : AV} {x : Value} (h : RepV c v x) : factV v := by
  cases v <;> try trivial
  case int k n => exact h.2
  case str s => exact h.2
  case ro fr sz enc xs => exact RepC.fact (c := c) (v := .ro fr sz enc xs) h

theorem FSpec.of_facts {P : Program} {f : FuncId} {args : List AV} {hp : Heap} {post : AV → Heap → Prop} (h : facts args → FSpec P f args hp post) : FSpec P f args hp post := fun w S ρ xs hH => by
  refine h ?_ w S ρ xs hH
  have key : ∀ (l : List AV) (k : Nat), (∀ i v, l[i]? = some v → args[k + i]? = some v) → facts l := by
    intro l
    induction l with
    | nil => intro k _; trivial
    | cons v vs ih =>
      intro k hk
      exact ⟨(hH.args k v (by simpa using hk 0 v rfl)).fact, ih (k + 1) fun i u hu => by
        have := hk (i + 1) u (by simpa using hu)
        rwa [show k + 1 + i = k + (i + 1) by omega]⟩
  exact key args 0 fun i v hv => by simpa using hv

theorem FSpec.mono {P : Program} {f : FuncId} {args : List AV} {hp : Heap} {post post' : AV → Heap → Prop} (h : FSpec P f args hp post) (hk : ∀ r hp', post r hp' → post' r hp') : FSpec P f args hp post' := fun w S ρ xs hH =>
  (h w S ρ xs hH).mono fun e w' ⟨r, hp', x, ρ', he, hp, hb⟩ => ⟨r, hp', x, ρ', he, hk _ _ hp, hb⟩

section
variable {P : Program} {Q : St → Prop}
theorem loop_intro {c : MC} {k : List It} {env : Env} {hp : Heap} (I : Nat → St → Prop) (n : Nat) (env' : Env) (h0 : ∀ p, p ∈ env' → eget env' p.1 = eget env p.1) (hI : I n ⟨env', hp⟩)
    (round : ∀ n st', I n st' → run P Q (.code c :: .back (fun s => ∃ s', Ent s s' ∧ ∃ n', n' < n ∧ I n' s') :: k) st') : run P Q (.code (.loop c) :: k) ⟨env, hp⟩ := by
  rw [run_loop]
  exact ⟨I, n, ⟨_, Ent.of_env h0, hI⟩, round⟩
theorem back_intro {I : Nat → St → Prop} {n n' : Nat} {env : Env} {hp : Heap} (env' : Env) (h0 : ∀ p, p ∈ env' → eget env' p.1 = eget env p.1) (hn : n' < n) (hI : I n' ⟨env', hp⟩) :
    ∃ s', Ent ⟨env, hp⟩ s' ∧ ∃ n', n' < n ∧ I n' s' := ⟨_, Ent.of_env h0, n', hn, hI⟩

theorem ret_intro {slots : List Nat} {post : AV → Heap → Prop} {env : Env} {hp : Heap} (r : AV) (h : retR hp [] (slots.map (eget env)) r) (hr : post r []) : Ret slots [] post ⟨env, hp⟩ := ⟨r, [], h, trivial, trivial, hr⟩
end

end Go.Vc
